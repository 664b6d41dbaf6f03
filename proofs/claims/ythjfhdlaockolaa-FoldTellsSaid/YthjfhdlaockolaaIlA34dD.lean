/-
  A part of the proof: rules and plain facts. No condition.
-/
import Derived.Test.YthjfhdlaockolaaIlTr
import Derived.Test.YthjfhdlaockolaaIlS
set_option linter.all false
open Go.RowKit (Below)
namespace Go.IL
/-! Calls that are handed memory, in any order with others. -/
section
variable {P : Program} {O : Origin} {N : Nat} {S S' : St} {o : Oper} {t : Nat} {Q : Exit → St → Prop}
structure HandM (S : St) (k : Nat) (A : List Nat) (H0 : List (Nat × Ent)) : Prop where
  nd : A.Nodup
  cov : A.all (fun i => (H0.map fun x => sig k A x.1).contains i) = true
  ents : ∀ x ∈ H0, givenB A x.1 = true ∧ x.2.held = true ∧ S.ent (sig k A x.1) = x.2.ren (sig k A) ∧ x.2.refsIn (givenB A) = true
def backM (m : Nat) (A : List Nat) (i : Nat) : Bool := Nat.blt i m || givenB A i
theorem iop_enterM {f : FuncId} {ds ds' : List D} {r r' : D} {H0 H1 H2 : List (Nat × Ent)} (k m : Nat) (A : List Nat) (hd : o.dst = some t) (ht : t < N)
    (h : ∀ E β a, Rel O N S E β a → ∃ vs : List Value, (execOp a.eval o).run P E.w = .ok (.enter f vs.toArray) E.w ∧ RdL E β vs ds') (hds : D.renL (sig k A) ds = ds') (hp : D.refsInL (givenB A) ds = true)
    (hkm : k + m ≤ 1000) (hfr : ∀ j, j < m → S.ent (k + j) = .fresh) (hh : HandM S k A H0) (hf : FnH P f ds H0 r H1) (hrr : r.ren (sig k A) = r') (hrp : r.refsIn (backM m A) = true) (hH1 : ∀ x ∈ H1, backM m A x.1 = true ∧ x.2.refsIn (backM m A) = true)
    (hH2 : afterH k A H0 H1 S.H = H2) : IOp P O N o S (St.set ⟨S.sl, H2⟩ t r') := by
  intro E β a hr next Q hn
  obtain ⟨vs, hrun, hv⟩ := h E β a hr
  unfold Oper.wp
  rw [hrun]
  simp only [Oper.upon, hd]
  subst hds hrr hH2
  let βc : Names := fun i => if givenB A i = true then β (sig k A i) else none
  have hβc : ∀ id, givenB A id = true → βc id = β (sig k A id) := fun id hid => by simp [βc, hid]
  have hvc : RdL E βc vs ds := RdL.ren hβc ds hv hp
  have h0 : ∀ i, (entL H0 i).held = true → givenB A i = true ∧ S.ent (sig k A i) = (entL H0 i).ren (sig k A) ∧ (entL H0 i).refsIn (givenB A) = true := fun i hi => by
    have h1 := hh.ents _ (entL_held hi)
    exact ⟨h1.1, h1.2.2.1, h1.2.2.2⟩
  have hcall : HOk ⟨E.w, E.X, footB βc H0, βc, none, fun _ => [], fun _ => 0, fun _ => [], fun _ => (#[], .skip, .skip)⟩ E βc (entL H0) := {
    os := rfl, tape := rfl, output := rfl, size := Nat.le_refl _, block := fun _ _ _ => rfl, xlt := hr.h.xlt, xold := fun _ _ _ _ => Iff.rfl, le := Env.le.refl _
    gid := fun i b hi => by
      by_cases hg : givenB A i = true
      · simp only [givenB, Bool.and_eq_true, Nat.ble_eq] at hg; exact hg.1
      · simp [βc, hg] at hi
    given := fun _ _ hi => hi
    ent := fun i => by
      cases hhe : (entL H0 i).held with
      | true =>
        obtain ⟨h1, h2, h3⟩ := h0 i hhe
        have he := hr.h.ent (sig k A i)
        rw [h2] at he
        have hown : ∀ b, βc i = some b → (⟨E.w, E.X, footB βc H0, βc, none, fun _ => [], fun _ => 0, fun _ => [], fun _ => (#[], .skip, .skip)⟩ : Origin).own b := fun b hb => .inr ⟨i, hhe, hb⟩
        cases hE : entL H0 i with
        | none => trivial
        | fresh => rw [hE] at hhe; cases hhe
        | blk e es =>
          rw [hE] at he h3
          rcases he with ⟨g1, g2⟩ | ⟨b, ws, sp, g1, g2, g3, g4, g5⟩
          · exact .inl ⟨(hβc i h1).trans g1, renL_nil g2⟩
          · exact .inr ⟨b, ws, sp, (hβc i h1).trans g1, hown b ((hβc i h1).trans g1), g3, g4, RdL.ren hβc es g5 h3⟩
        | tail e sz n =>
          rw [hE] at he
          rcases he with ⟨g1, g2⟩ | ⟨b, c, g1, g2, g3, g4⟩
          · exact .inl ⟨(hβc i h1).trans g1, g2⟩
          · exact .inr ⟨b, c, (hβc i h1).trans g1, hown b ((hβc i h1).trans g1), g3, g4⟩
        | loop lk es st pe =>
          rw [hE] at h3; cases h3
        | kept n es => rw [hE] at hhe; cases hhe
      | false =>
        cases hE : entL H0 i with
        | none => trivial
        | fresh =>
          show βc i = none
          by_cases hm : i ∈ H0.map (·.1)
          · obtain ⟨e, h1, h2⟩ := look_of_mem (z := defE i) hm
            have h3 := hh.ents _ h1
            have : entL H0 i = e := h2
            rw [hE] at this; rw [← this] at h3; exact absurd h3.2.1 (by simp [Ent.held])
          · have : entL H0 i = defE i := look_not_mem hm
            rw [hE] at this
            unfold defE at this
            split at this
            · cases this
            · rename_i hlt
              have : ¬ givenB A i = true := by simp only [givenB, Bool.and_eq_true, Nat.ble_eq]; omega
              simp [βc, this]
        | blk => rw [hE] at hhe; cases hhe
        | tail => rw [hE] at hhe; cases hhe
        | loop => rw [hE] at hhe; cases hhe
        | kept n es =>
          exfalso
          by_cases hm : i ∈ H0.map (·.1)
          · obtain ⟨e, h1, h2⟩ := look_of_mem (z := defE i) hm
            have h3 := hh.ents _ h1
            have : entL H0 i = e := h2
            rw [hE] at this; rw [← this] at h3; exact absurd h3.2.1 (by simp [Ent.held])
          · have : entL H0 i = defE i := look_not_mem hm
            rw [hE] at this
            unfold defE at this
            split at this <;> cases this
    inj := fun i j b hi hj h1 h2 => by
      obtain ⟨a1, a2, _⟩ := h0 i hi
      obtain ⟨b1, b2, _⟩ := h0 j hj
      have h1 : β (sig k A i) = some b := (hβc i a1).symm.trans h1
      have h2 : β (sig k A j) = some b := (hβc j b1).symm.trans h2
      exact sig_inj hh.nd a1 b1 (hr.h.inj _ _ b (by rw [a2, Ent.held_ren]; exact hi) (by rw [b2, Ent.held_ren]; exact hj) h1 h2) }
  refine (hf E βc vs hr.h.xlt hcall.gid hcall hvc).mono ?_
  rintro e w' ⟨v, rfl, E', β', rfl, hok, hrd⟩
  -- old blocks that were not handed over
  have hfoot : ∀ b, footB βc H0 b → ∃ i, givenB A i = true ∧ (S.ent (sig k A i)).held = true ∧ β (sig k A i) = some b := fun b ⟨i, hi, hb⟩ => by
    obtain ⟨h1, h2, _⟩ := h0 i hi
    exact ⟨i, h1, by rw [h2, Ent.held_ren]; exact hi, by rw [← hβc i h1]; exact hb⟩
  have hfown : ∀ b, footB βc H0 b → O.own b := fun b hb => by
    obtain ⟨i, _, h2, h3⟩ := hfoot b hb
    have he := hr.h.ent (sig k A i)
    exact hr.h.own h2 h3
  have hcown : ∀ b, (⟨E.w, E.X, footB βc H0, βc, none, fun _ => [], fun _ => 0, fun _ => [], fun _ => (#[], .skip, .skip)⟩ : Origin).own b → O.own b := fun b hb => by
    rcases hb with hb | hb
    · exact .inl (Nat.le_trans hr.h.size hb)
    · exact hfown b hb
  have hfrE : ∀ i, k ≤ i ∧ i < k + m → S.ent i = .fresh := fun i h1 => by
    have := hfr (i - k) (by omega)
    rwa [show k + (i - k) = i by omega] at this
  have hfresh : ∀ i, k ≤ i → i < k + m → β i = none := fun i h1 h2 => by
    have he := hr.h.ent i
    rw [hfrE i ⟨h1, h2⟩] at he; exact he
  let βn : Names := fun i => if k ≤ i ∧ i < k + m then β' (i - k) else if i ∈ A then β' (1000 + A.idxOf i) else β i
  have hAk : ∀ i, i ∈ A → ¬ (k ≤ i ∧ i < k + m) := fun i hi hki => by
    have h1 := List.all_eq_true.1 hh.cov i hi
    obtain ⟨x, hx, hxe⟩ := List.mem_map.1 (by simpa using h1 : i ∈ H0.map (fun x => sig k A x.1))
    have h2 := hh.ents x hx
    rw [hxe, hfrE i hki] at h2
    have h3 : (x.2.ren (sig k A)).held = true := by rw [Ent.held_ren]; exact h2.2.1
    rw [← h2.2.2.1] at h3; cases h3
  have hnA : ∀ i, i ∈ A → βn i = β' (1000 + A.idxOf i) := fun i hi => by simp [βn, hAk i hi, hi]
  have hnO : ∀ i, i ∉ A → ¬ (k ≤ i ∧ i < k + m) → βn i = β i := fun i h1 h2 => by simp [βn, h1, h2]
  have hβ1 : β.le βn := fun i b hi => by
    by_cases hki : k ≤ i ∧ i < k + m
    · rw [hfresh i hki.1 hki.2] at hi; cases hi
    · by_cases hA : i ∈ A
      · rw [hnA i hA]
        obtain ⟨h1, h2⟩ := given_of_mem (k := k) hA
        exact hok.given _ _ (((hβc _ h1).trans (by rw [h2])).trans hi)
      · rw [hnO i hA hki]; exact hi
  have hβ2 : ∀ i, backM m A i = true → βn (sig k A i) = β' i := fun i hi => by
    by_cases hg : givenB A i = true
    · rw [hnA _ (sig_given hg), sig_idx hh.nd hg]
    · simp only [backM, hg, Bool.or_false, Nat.blt_eq] at hi
      have h2 : ¬ 1000 ≤ i := by omega
      have h1 : sig k A i = k + i := by simp [sig, h2]
      rw [h1]
      simp [βn, hi]
  have hle : E.le E' := hok.le
  -- the entries behind the call
  have hkey1 : ∀ i, backM m A i = true → ∀ j, backM m A j = true → sig k A i = sig k A j → i = j := fun i hi j hj hij => by
    by_cases hgi : givenB A i = true
    · by_cases hgj : givenB A j = true
      · exact sig_inj hh.nd hgi hgj hij
      · exfalso
        simp only [backM, hgj, Bool.or_false, Nat.blt_eq] at hj
        have h2 : sig k A j = k + j := by simp [sig, show ¬ 1000 ≤ j by omega]
        exact hAk _ (sig_given (k := k) hgi) (by rw [hij, h2]; omega)
    · by_cases hgj : givenB A j = true
      · exfalso
        simp only [backM, hgi, Bool.or_false, Nat.blt_eq] at hi
        have h2 : sig k A i = k + i := by simp [sig, show ¬ 1000 ≤ i by omega]
        exact hAk _ (sig_given (k := k) hgj) (by rw [← hij, h2]; omega)
      · simp only [backM, hgi, hgj, Bool.or_false, Nat.blt_eq] at hi hj
        simp only [sig, show ¬ 1000 ≤ i by omega, show ¬ 1000 ≤ j by omega, if_false] at hij
        omega
  have hent : ∀ i, (St.set ⟨S.sl, afterH k A H0 H1 S.H⟩ t (r.ren (sig k A))).ent i =
      if i ∈ H1.map (fun x => sig k A x.1) then (look (defE i) i (H1.map fun x => (sig k A x.1, x.2.ren (sig k A)))) else if i ∈ H0.map (fun x => sig k A x.1) then .none else S.ent i := fun i => by
    simp only [St.ent, entL, St.set, afterH, look_append, List.map_map]
    have e1 : (Prod.fst ∘ fun x : Nat × Ent => (sig k A x.1, x.2.ren (sig k A))) = fun x => sig k A x.1 := rfl
    have e2 : (Prod.fst ∘ fun x : Nat × Ent => (sig k A x.1, Ent.none)) = fun x => sig k A x.1 := rfl
    rw [e1, e2]
    split
    · rfl
    · split
      · rename_i h1 h2
        obtain ⟨e, h3, h4⟩ := look_of_mem (z := defE i) (l := H0.map fun x => (sig k A x.1, Ent.none)) (by rw [List.map_map, e2]; exact h2)
        rw [h4]
        obtain ⟨x, _, hx⟩ := List.mem_map.1 h3
        cases hx; rfl
      · rfl
  have hlook1 : ∀ j, backM m A j = true → j ∈ H1.map (·.1) → look (defE (sig k A j)) (sig k A j) (H1.map fun x => (sig k A x.1, x.2.ren (sig k A))) = (entL H1 j).ren (sig k A) := by
    intro j hj
    unfold entL
    have aux : ∀ (z z' : Ent) (l : List (Nat × Ent)), (∀ x ∈ l, backM m A x.1 = true) → j ∈ l.map (·.1) → look z (sig k A j) (l.map fun x => (sig k A x.1, x.2.ren (sig k A))) = (look z' j l).ren (sig k A) := by
      intro z z' l
      induction l with
      | nil => intro _ h; simp at h
      | cons x l ih =>
        obtain ⟨i, e⟩ := x
        intro hl hm
        simp only [List.map_cons, look_cons]
        by_cases hij : i = j
        · subst hij; rw [if_pos rfl, if_pos rfl]
        · rw [if_neg (fun h => hij (hkey1 i (hl (i, e) List.mem_cons_self) j hj h)), if_neg hij]
          refine ih (fun x hx => hl x (List.mem_cons_of_mem _ hx)) ?_
          simp only [List.map_cons, List.mem_cons] at hm
          rcases hm with h | h
          · exact absurd h.symm hij
          · exact h
    exact aux _ _ H1 (fun x hx => (hH1 x hx).1)
  have hH1r : ∀ j, j ∈ H1.map (·.1) → backM m A j = true ∧ (entL H1 j).refsIn (backM m A) = true := fun j hj => by
    obtain ⟨e, h1, h2⟩ := look_of_mem (z := defE j) hj
    have h3 := hH1 _ h1
    exact ⟨h3.1, by rw [show entL H1 j = e from h2]; exact h3.2⟩
  have cases1 : ∀ i, i ∈ H1.map (fun x => sig k A x.1) → ∃ j, j ∈ H1.map (·.1) ∧ backM m A j = true ∧ i = sig k A j := fun i hi => by
    obtain ⟨x, hx, rfl⟩ := List.mem_map.1 hi
    exact ⟨x.1, List.mem_map.2 ⟨x, hx, rfl⟩, (hH1 x hx).1, rfl⟩
  -- an entry that was not handed over
  have hold : ∀ i, i ∉ H1.map (fun x => sig k A x.1) → i ∉ H0.map (fun x => sig k A x.1) → (S.ent i).held = true → ∀ b, β i = some b → βn i = some b ∧ b < E.w.heap.size ∧ ¬ footB βc H0 b := fun i h1 h2 h3 b hb => by
    refine ⟨hβ1 i b hb, ?_, ?_⟩
    · exact hr.h.lt h3 hb
    · rintro ⟨j, hj, hbj⟩
      obtain ⟨g1, g2, _⟩ := h0 j hj
      have : i = sig k A j := hr.h.inj i (sig k A j) b h3 (by rw [g2, Ent.held_ren]; exact hj) hb (by rw [← hβc j g1]; exact hbj)
      exact h2 (List.mem_map.2 ⟨_, entL_held hj, this.symm⟩)
  have hcov : ∀ i, i ∈ A → i ∈ H0.map (fun x => sig k A x.1) := fun i hi => by
    have := List.all_eq_true.1 hh.cov i hi
    simpa using this
  have hold' : ∀ i, i ∉ H0.map (fun x => sig k A x.1) → S.ent i ≠ .fresh → βn i = β i := fun i h0 hf => by
    refine hnO i (fun hA => h0 (hcov i hA)) (fun hki => hf ?_)
    exact hfrE i hki
  refine hn E' βn _ ⟨by simp [Act.put, hr.n], hr.nd.mono (fun b hx => (hok.block b (heap_lt hx) (fun hf => by obtain ⟨i, _, h2, h3⟩ := hfoot b hf; exact hr.h.nodef h2 h3 _ hx)).trans hx), ?_, ?_⟩
  · exact {
      os := hok.os.trans hr.h.os, tape := hok.tape.trans hr.h.tape, output := hok.output.trans hr.h.output, size := Nat.le_trans hr.h.size hok.size
      block := fun j hj hf => by
        have hnf : ¬ footB βc H0 j := fun h => by
          rcases hfown j h with h1 | h1
          · omega
          · exact hf h1
        exact (hok.block j (Nat.lt_of_lt_of_le hj hr.h.size) hnf).trans (hr.h.block j hj hf)
      xlt := hok.xlt
      xold := fun b o hb hf => by
        have hnf : ¬ footB βc H0 b := fun h => by
          rcases hfown b h with h1 | h1
          · omega
          · exact hf h1
        exact (hok.xold b o (Nat.lt_of_lt_of_le hb hr.h.size) hnf).trans (hr.h.xold b o hb hf)
      le := hr.h.le.trans hle
      gid := hr.h.gid
      given := fun i b hi => hβ1 i b (hr.h.given i b hi)
      ent := fun i => by
        rw [hent i]
        by_cases hi1 : i ∈ H1.map (fun x => sig k A x.1)
        · rw [if_pos hi1]
          obtain ⟨j, hj, hbj, rfl⟩ := cases1 i hi1
          rw [hlook1 j hbj hj]
          have he := hok.ent j
          have hrf := (hH1r j hj).2
          have hb2 := hβ2 j hbj
          cases hE : entL H1 j with
          | none => trivial
          | fresh => rw [hE] at he; exact hb2.trans he
          | blk e es =>
            rw [hE] at he hrf
            rcases he with ⟨g1, g2⟩ | ⟨b, ws, sp, g1, g2, g3, g4, g5⟩
            · exact .inl ⟨hb2.trans g1, by rw [g2]; rfl⟩
            · exact .inr ⟨b, ws, sp, hb2.trans g1, hcown b g2, g3, g4, RdL.renp (fun id b hid hb => (hβ2 id hid).trans hb) g5 hrf⟩
          | tail e sz n =>
            rw [hE] at he
            rcases he with ⟨g1, g2⟩ | ⟨b, c, g1, g2, g3, g4⟩
            · exact .inl ⟨hb2.trans g1, g2⟩
            · exact .inr ⟨b, c, hb2.trans g1, hcown b g2, g3, g4⟩
          | loop lk es st pe =>
            rw [hE] at hrf; cases hrf
          | kept n es => rw [hE] at hrf; cases hrf
        · rw [if_neg hi1]
          by_cases hi0 : i ∈ H0.map (fun x => sig k A x.1)
          · rw [if_pos hi0]; trivial
          · rw [if_neg hi0]
            have he := hr.h.ent i
            have hnb : ∀ b, (S.ent i).held = true → β i = some b → βn i = some b ∧ E'.w.heap[b]? = E.w.heap[b]? ∧ ∀ o, (E'.X b o ↔ E.X b o) := fun b hhe hb => by
              obtain ⟨g1, g2, g3⟩ := hold i hi1 hi0 hhe b hb
              exact ⟨g1, hok.block b g2 g3, fun o => hok.xold b o g2 g3⟩
            cases hE : S.ent i with
            | none => trivial
            | fresh =>
              rw [hE] at he
              show βn i = none
              by_cases hki : k ≤ i ∧ i < k + m
              · -- a fresh name of the callee's that is told by nothing
                have hbi : i - k ∉ H1.map (·.1) := fun hm => by
                  have hbb := (hH1r _ hm).1
                  refine hi1 ?_
                  obtain ⟨x, hx, hxe⟩ := List.mem_map.1 hm
                  refine List.mem_map.2 ⟨x, hx, ?_⟩
                  have hx' : x.1 = i - k := hxe
                  rw [hx']
                  simp only [sig, show ¬ 1000 ≤ i - k by omega, if_false]
                  omega
                have h3 := hok.ent (i - k)
                have h4 : entL H1 (i - k) = defE (i - k) := look_not_mem hbi
                rw [h4, defE, if_neg (by omega)] at h3
                simp only [βn, hki, and_self, if_true]
                exact h3
              · rw [hnO i (fun hA => hi0 (hcov i hA)) hki]; exact he
            | blk e es =>
              rw [hE] at he
              rcases he with ⟨g1, g2⟩ | ⟨b, ws, sp, g1, g2, g3, g4, g5⟩
              · exact .inl ⟨(hold' i hi0 (by rw [hE]; exact fun h => by cases h)).trans g1, g2⟩
              · obtain ⟨f1, f2, f3⟩ := hnb b (by rw [hE]; rfl) g1
                exact .inr ⟨b, ws, sp, f1, g2, f2.trans g3, fun o => (f3 o).2 (g4 o), RdL.mono hle hβ1 g5⟩
            | tail e sz n =>
              rw [hE] at he
              rcases he with ⟨g1, g2⟩ | ⟨b, c, g1, g2, g3, g4⟩
              · exact .inl ⟨(hold' i hi0 (by rw [hE]; exact fun h => by cases h)).trans g1, g2⟩
              · obtain ⟨f1, f2, f3⟩ := hnb b (by rw [hE]; rfl) g1
                exact .inr ⟨b, c, f1, g2, f2.trans g3, fun o ho => (f3 o).2 (g4 o ho)⟩
            | loop lk es st pe =>
              rw [hE] at he
              obtain ⟨b, q, g1, g2, g3, g4, g5, g6, g7, g8, g9, g10⟩ := he
              obtain ⟨f1, f2, f3⟩ := hnb b (by rw [hE]; rfl) g1
              exact ⟨b, q, f1, g2, f2.trans g3, fun o => (f3 o).2 (g4 o), g5, g6, g7, g8, g9, g10.1, RdL.mono hle hβ1 g10.2⟩
            | kept n es =>
              rw [hE] at he
              exact ⟨RdL.mono hle hβ1 he.1, fun c hc => (hok.block c (heap_lt (he.2 c hc)) (fun hf => by obtain ⟨i, _, h2, h3⟩ := hfoot c hf; exact hr.h.nodef h2 h3 _ (he.2 c hc))).trans (he.2 c hc)⟩
      inj := fun i j b hi hj hbi hbj => by
        rw [hent i] at hi
        rw [hent j] at hj
        have hone : ∀ i, i ∈ H1.map (fun x => sig k A x.1) → (look (defE i) i (H1.map fun x => (sig k A x.1, x.2.ren (sig k A)))).held = true → βn i = some b → ∃ a, (entL H1 a).held = true ∧ β' a = some b ∧ i = sig k A a ∧ backM m A a = true := fun i hm hh hb => by
          obtain ⟨a, ha, hba, rfl⟩ := cases1 i hm
          rw [hlook1 a hba ha, Ent.held_ren] at hh
          exact ⟨a, hh, (hβ2 a hba).symm.trans hb, rfl, hba⟩
        have hown1 : ∀ a, (entL H1 a).held = true → β' a = some b → E.w.heap.size ≤ b ∨ footB βc H0 b := fun a hh hb => by
          exact hok.own hh hb
        have hto : ∀ i, i ∉ H0.map (fun x => sig k A x.1) → (S.ent i).held = true → βn i = some b → β i = some b := fun i h0 hh hb => by
          rw [← hold' i h0 (fun h => by rw [h] at hh; cases hh)]; exact hb
        have hmix : ∀ i j, i ∈ H1.map (fun x => sig k A x.1) → (look (defE i) i (H1.map fun x => (sig k A x.1, x.2.ren (sig k A)))).held = true → βn i = some b → j ∉ H1.map (fun x => sig k A x.1) → j ∉ H0.map (fun x => sig k A x.1) → (S.ent j).held = true → βn j = some b → False := fun i j h1 h2 h3 h4 h5 h6 h7 => by
          obtain ⟨a, ha, hb, _⟩ := hone i h1 h2 h3
          obtain ⟨_, f2, f3⟩ := hold j h4 h5 h6 b (hto j h5 h6 h7)
          rcases hown1 a ha hb with h | h
          · omega
          · exact f3 h
        by_cases hi1 : i ∈ H1.map (fun x => sig k A x.1)
        · rw [if_pos hi1] at hi
          by_cases hj1 : j ∈ H1.map (fun x => sig k A x.1)
          · rw [if_pos hj1] at hj
            obtain ⟨a, ha, hab, rfl, _⟩ := hone i hi1 hi hbi
            obtain ⟨c, hc, hcb, rfl, _⟩ := hone j hj1 hj hbj
            rw [hok.inj a c b ha hc hab hcb]
          · rw [if_neg hj1] at hj
            by_cases hj0 : j ∈ H0.map (fun x => sig k A x.1)
            · rw [if_pos hj0] at hj; cases hj
            · rw [if_neg hj0] at hj
              exact (hmix i j hi1 hi hbi hj1 hj0 hj hbj).elim
        · rw [if_neg hi1] at hi
          by_cases hi0 : i ∈ H0.map (fun x => sig k A x.1)
          · rw [if_pos hi0] at hi; cases hi
          · rw [if_neg hi0] at hi
            by_cases hj1 : j ∈ H1.map (fun x => sig k A x.1)
            · rw [if_pos hj1] at hj
              exact (hmix j i hj1 hj hbj hi1 hi0 hi hbi).elim
            · rw [if_neg hj1] at hj
              by_cases hj0 : j ∈ H0.map (fun x => sig k A x.1)
              · rw [if_pos hj0] at hj; cases hj
              · rw [if_neg hj0] at hj
                exact hr.h.inj i j b hi hj (hto i hi0 hi hbi) (hto j hj0 hj hbj) }
  · intro s
    have hts : t < a.tmps.size := hr.n ▸ ht
    by_cases hst : t = s
    · subst hst
      have h1 := Rd.renp (p := backM m A) (fun id b hid hb => (hβ2 id hid).trans hb) hrd hrp
      simpa [Act.put, St.get, St.set, look_cons, hts] using h1
    · have := Rd.mono hle hβ1 (hr.sl s)
      simpa [Act.put, St.get, St.set, look_cons, hst, Array.getElem?_setIfInBounds_ne] using this

theorem iop_callM {f : FuncId} {xs : List Operand} {ts : Array TypeId} {ds ds' : List D} {r r' : D} {H0 H1 U : List (Nat × Ent)} (k m : Nat) (A : List Nat) (ho : o.op = .call { callee := .value (.func f), args := xs.toArray, argTypes := ts }) (hd : o.dst = some t) (ht : t < N)
    (hc : Callable P f) (hx : SVs S xs ds') (hds : D.renL (sig k A) ds = ds') (hp : D.refsInL (givenB A) ds = true) (hkm : Nat.ble (k + m) 1000 = true) (hfr : ∀ e ∈ (List.range m).map (fun j => S.ent (k + j)), e = .fresh)
    (hh : HandM S k A H0) (hf : FnH P f ds H0 r H1) (hrr : r.ren (sig k A) = r') (hrp : r.refsIn (backM m A) = true) (hH1 : ∀ x ∈ H1, backM m A x.1 = true ∧ x.2.refsIn (backM m A) = true)
    (hU : (H1.map fun x => (sig k A x.1, x.2.ren (sig k A))) ++ (H0.map fun x => (sig k A x.1, Ent.none)) = U) : IOp P O N o S ⟨(t, r') :: S.sl, U ++ S.H⟩ := by
  have h := iop_enterM (P := P) (O := O) (N := N) (S := S) (o := o) (t := t) (f := f) (ds := ds) (ds' := ds') (r := r) (r' := r') (H0 := H0) (H1 := H1) (H2 := U ++ S.H) k m A hd ht (fun E β a hr => ⟨xs.map a.eval, by
    simp [execOp, ho, resolve, Deferred.ofValue, Act.eval, invoke, run_callFunc hc], hx.rd hr⟩) hds hp (Nat.le_of_ble_eq_true hkm) (fun j hj => hfr _ (List.mem_map.2 ⟨j, List.mem_range.2 hj, rfl⟩)) hh hf hrr hrp hH1 (by rw [← hU, afterH, List.append_assoc])
  exact h
end
end Go.IL
namespace Go.IL
section
variable {P : Program} {O : Origin} {N : Nat} {S S' : St} {o : Oper} {t : Nat} {Q : Exit → St → Prop}

/-! Comparison of structs and arrays, nested ones too. -/
end
end Go.IL
open Go.RowKit (Below)
namespace Go.IL
section
variable {P : Program} {O : Origin} {N : Nat} {S S' : St} {o : Oper} {t : Nat} {Q : Exit → St → Prop}
end
end Go.IL
namespace Go.IL
section
variable {P : Program} {O : Origin} {N : Nat} {S S' : St} {o : Oper} {t : Nat} {Q : Exit → St → Prop}
/-! Short names. -/
theorem lb {a b : Nat} (h : Nat.ble (a + 1) b = true) : a < b := Nat.le_of_ble_eq_true h
theorem svI {x : Operand} {k : IntKind} {n : Int} (h : S.op x = .int k n) : SV S x (.int k n) := sv h
theorem svB {x : Operand} {n : Bool} (h : S.op x = .bool n) : SV S x (.bool n) := sv h
theorem svR {x : Operand} {i j : Nat} (h : S.op x = .ref i j) : SV S x (.ref i j) := sv h
theorem svL {x : Operand} {f : Bool} {l : List D} (h : S.op x = .slice f l) : SV S x (.slice f l) := sv h
theorem svA {x : Operand} (l : List D) (h : S.op x = .agg l) : SV S x (.agg l) := sv h
theorem svcI {x : Operand} {b : Bool} {k : IntKind} {n : Int} (h : S.op x = .cnd b (.int k n)) (hb : b = true) : SV S x (.int k n) := svc h hb
theorem svcB {x : Operand} {b n : Bool} (h : S.op x = .cnd b (.bool n)) (hb : b = true) : SV S x (.bool n) := svc h hb
theorem svcR {x : Operand} {b : Bool} {i j : Nat} (h : S.op x = .cnd b (.ref i j)) (hb : b = true) : SV S x (.ref i j) := svc h hb
theorem svcL {x : Operand} {b : Bool} {f : Bool} {l : List D} (h : S.op x = .cnd b (.slice f l)) (hb : b = true) : SV S x (.slice f l) := svc h hb
theorem svcA {x : Operand} {b : Bool} (l : List D) (h : S.op x = .cnd b (.agg l)) (hb : b = true) : SV S x (.agg l) := svc h hb
theorem mvI {x : Operand} {k : IntKind} {n : Int} (ho : o.op = .move x) (hd : o.dst = some t) (ht : Nat.ble (t + 1) N = true) (hx : S.op x = .int k n) : IOp P O N o S (S.set t (.int k n)) := iop_move ho hd (lb ht) (sv hx)
theorem mvB {x : Operand} {n : Bool} (ho : o.op = .move x) (hd : o.dst = some t) (ht : Nat.ble (t + 1) N = true) (hx : S.op x = .bool n) : IOp P O N o S (S.set t (.bool n)) := iop_move ho hd (lb ht) (sv hx)
theorem mvR {x : Operand} {i j : Nat} (ho : o.op = .move x) (hd : o.dst = some t) (ht : Nat.ble (t + 1) N = true) (hx : S.op x = .ref i j) : IOp P O N o S (S.set t (.ref i j)) := iop_move ho hd (lb ht) (sv hx)
theorem mvL {x : Operand} {f : Bool} {l : List D} (ho : o.op = .move x) (hd : o.dst = some t) (ht : Nat.ble (t + 1) N = true) (hx : S.op x = .slice f l) : IOp P O N o S (S.set t (.slice f l)) := iop_move ho hd (lb ht) (sv hx)
theorem asI {x : Operand} {k : IntKind} {n : Int} (ho : o.op = .assign x) (hd : o.dst = some t) (ht : Nat.ble (t + 1) N = true) (hx : S.op x = .int k n) : IOp P O N o S (S.set t (.int k n)) := iop_assign ho hd (lb ht) (sv hx)
theorem asB {x : Operand} {n : Bool} (ho : o.op = .assign x) (hd : o.dst = some t) (ht : Nat.ble (t + 1) N = true) (hx : S.op x = .bool n) : IOp P O N o S (S.set t (.bool n)) := iop_assign ho hd (lb ht) (sv hx)
def LA (P : Program) (T : TypeId) (u : TypeDesc) (z : Option Value) (size bytes : Nat) (g : Bool) : Prop := P.underlying T = some u ∧ aggOf P T = g ∧ TI P T z size bytes ∧ 0 < size
theorem LA.mk {T : TypeId} {u : TypeDesc} {z : Option Value} {size bytes : Nat} {g : Bool} (h1 : P.underlying T = some u) (h2 : aggOf P T = g) (h3 : TI P T z size bytes) (h4 : 0 < size) : LA P T u z size bytes g := ⟨h1, h2, h3, h4⟩
theorem lra {T : TypeId} {x : Operand} {u : TypeDesc} {z : Option Value} {size bytes : Nat} {id off : Nat} {e : TypeId} {ds : List D} (cs : List D) (l : LA P T u z size bytes true) (ho : o.op = .load T x) (hd : o.dst = some t) (ht : Nat.ble (t + 1) N = true)
    (hx : S.op x = .ref id off) (he : S.ent id = .blk e ds) (hn : off + size ≤ ds.length) (hdd : (ds.drop off).take size = cs) : IOp P O N o S (S.set t (.agg cs)) := iop_load_ra ho hd (lb ht) l.1 l.2.1 l.2.2.1 l.2.2.2 (sv hx) he hn hdd
theorem lrL {T : TypeId} {x : Operand} {u : TypeDesc} {z : Option Value} {size bytes : Nat} {id off : Nat} {e : TypeId} {ds r : List D} {f : Bool} {m : List D} (l : LA P T u z size bytes false) (ho : o.op = .load T x) (hd : o.dst = some t) (ht : Nat.ble (t + 1) N = true)
    (hx : S.op x = .ref id off) (he : S.ent id = .blk e ds) (hn : off + size ≤ ds.length) (hdd : ds.drop off = .slice f m :: r) : IOp P O N o S (S.set t (.slice f m)) := iop_load_rs ho hd (lb ht) l.1 l.2.1 l.2.2.1 l.2.2.2 (sv hx) he hn hdd
theorem rva {x : Nat} {T : TypeId} {id off : Nat} {e : TypeId} {ds cs : List D} {u : TypeDesc} {z : Option Value} {size bytes : Nat} (l : LA P T u z size bytes true) (hx : S.get x = .ref id off) (he : S.ent id = .blk e ds)
    (hn : off + size ≤ ds.length) (hd : (ds.drop off).take size = cs) : ResV P S (.cell x T) (.agg cs) := resv_a hx he l.1 l.2.1 l.2.2.1 l.2.2.2 hn hd
theorem stA {T : TypeId} {x y : Operand} {z : Option Value} {size bytes : Nat} {id off : Nat} {e : TypeId} {ds : List D} (c ds' : List D) (hi : TI P T z size bytes) (ho : o.op = .store T x y) (hd : o.dst = none)
    (hx : S.op x = .ref id off) (he : S.ent id = .blk e ds) (hy : S.op y = .agg c) (hb : (D.agg c).boxable = true) (hsz : (D.agg c).cells.length = size) (h1 : (D.agg c).cells.all D.one = true)
    (hn : off + size ≤ ds.length) (hds : splice ds off (D.agg c).cells = ds') : IOp P O N o S (S.setE id (.blk e ds')) := iop_store ho hd hi (sv hx) he (sv hy) hb hsz h1 hn hds
theorem faR {T : TypeId} {x : Operand} {i : Nat} {fs : Array Field} {F : Field} {z : Option Value} {size bytes : Nat} {id off : Nat} (off' : Nat) (ho : o.op = .fieldAddr T x i) (hd : o.dst = some t) (ht : Nat.ble (t + 1) N = true)
    (hu : P.underlying T = some (.struct fs)) (hf : fs[i]? = some F) (hi : TI P F.type z size bytes) (hs : 0 < size) (hx : S.op x = .ref id off) (ho' : off + F.offset = off') : IOp P O N o S (S.set t (.ref id off')) :=
  iop_fieldAddr_ref ho hd (lb ht) hu hf hi hs (sv hx) ho'
theorem svaI {n : Node} {S0 : St} {s : Nat} {k : IntKind} {m : Int} (hA : Agree n S S0) (hm : n.rs.elem s = true) (h : S0.get s = .int k m) : SV S (.tmp s) (.int k m) := sv (agr hA hm h)
theorem svaB {n : Node} {S0 : St} {s : Nat} {m : Bool} (hA : Agree n S S0) (hm : n.rs.elem s = true) (h : S0.get s = .bool m) : SV S (.tmp s) (.bool m) := sv (agr hA hm h)
theorem svaR {n : Node} {S0 : St} {s i j : Nat} (hA : Agree n S S0) (hm : n.rs.elem s = true) (h : S0.get s = .ref i j) : SV S (.tmp s) (.ref i j) := sv (agr hA hm h)
theorem svaL {n : Node} {S0 : St} {s : Nat} {f : Bool} {l : List D} (hA : Agree n S S0) (hm : n.rs.elem s = true) (h : S0.get s = .slice f l) : SV S (.tmp s) (.slice f l) := sv (agr hA hm h)
theorem svaA {n : Node} {S0 : St} {s : Nat} (l : List D) (hA : Agree n S S0) (hm : n.rs.elem s = true) (h : S0.get s = .agg l) : SV S (.tmp s) (.agg l) := sv (agr hA hm h)
theorem AllW.s {ρ : Nat → Nat} {t : Nat} {d : D} {l : List (Nat × D)} (h : S.get t = d.ren ρ) (hr : d.refsIn S'.okn = true) (k : AllW (SlW S S' ρ) l) : AllW (SlW S S' ρ) ((t, d) :: l) := .cons (.same h hr) k
theorem AllW.sames {ρ : Nat → Nat} : ∀ {l : List (Nat × D)}, l.map (fun p => S.get p.1) = l.map (fun p => p.2.ren ρ) → (l.all fun p => p.2.refsIn S'.okn) = true → AllW (SlW S S' ρ) l
  | [], _, _ => .nil
  | (t, d) :: l, h, hr => by
    simp only [List.map_cons, List.cons.injEq] at h
    simp only [List.all_cons, Bool.and_eq_true] at hr
    exact .cons (.same h.1 hr.1) (AllW.sames h.2 hr.2)
end
theorem SubL.k {d : D} {ds ds' : List D} (t : SubL ds ds') : SubL (d :: ds) (d :: ds') := .cons (.refl d) t
theorem SubL.k4 {a b c d : D} {ds ds' : List D} (t : SubL ds ds') : SubL (a :: b :: c :: d :: ds) (a :: b :: c :: d :: ds') := .k (.k (.k (.k t)))
theorem FDL.k {S : St} {d : D} {ds ds' : List D} (t : FDL S ds ds') : FDL S (d :: ds) (d :: ds') := .cons (.refl d) t
theorem FDL.k4 {S : St} {a b c d : D} {ds ds' : List D} (t : FDL S ds ds') : FDL S (a :: b :: c :: d :: ds) (a :: b :: c :: d :: ds') := .k (.k (.k (.k t)))
theorem SubL.all : ∀ (l : List D), SubL l l
  | [] => .nil
  | d :: l => .cons (.refl d) (SubL.all l)
theorem FDL.all {S : St} (l : List D) : FDL S l l := fdl_refl l
theorem and_ff {a b : Bool} (h : (a && false) = b) : b = false := by rw [← h, Bool.and_false]
end Go.IL
set_option linter.unusedSimpArgs false
set_option linter.unusedVariables false
open Go Go.IL
namespace Go.Fn
structure T_fold_Op where
  Kind : Int
  ID : Int
  Dep : Int
  Weight : Int
  Only : Bool
  deriving DecidableEq, Inhabited
def E_fold_Op : Enc T_fold_Op := ⟨⟨fun x => .agg [.int .u8 x.Kind, .int .i64 x.ID, .int .i64 x.Dep, .int .i64 x.Weight, .bool x.Only], 5, by decide, fun _ => ⟨rfl, rfl⟩⟩, fun _ => rfl⟩

structure T_ptree_Node where
  ID : Int
  Parent : Int
  Weight : Int
  Closed : Bool
  deriving DecidableEq, Inhabited
def E_ptree_Node : Enc T_ptree_Node := ⟨⟨fun x => .agg [.int .i64 x.ID, .int .i64 x.Parent, .int .i64 x.Weight, .bool x.Closed], 4, by decide, fun _ => ⟨rfl, rfl⟩⟩, fun _ => rfl⟩

structure T_fold_State where
  Room : Int
  Keep : Int
  Nodes : (List T_ptree_Node)
  Ended : (List Int)
  deriving DecidableEq, Inhabited
def E_fold_State : Enc T_fold_State := ⟨⟨fun x => .agg [.int .i64 x.Room, .int .i64 x.Keep, .slice false (x.Nodes.map E_ptree_Node.d), .slice false (x.Ended.map (eInt .i64).d)], 4, by decide, fun _ => ⟨rfl, rfl⟩⟩, fun _ => rfl⟩

def slices_Clone_ptree_Node_ptree_Node_h (a0 : (List T_ptree_Node)) : Option (List T_ptree_Node) :=
  bothE a0 (
    some ([] : (List T_ptree_Node))
  ) (
    bno (app 32 ([] : (List T_ptree_Node)) a0) fun x3 =>
    some x3
  )

def slices_Clone_int_int_h (a0 : (List Int)) : Option (List Int) :=
  bothE a0 (
    some ([] : (List Int))
  ) (
    bno (app 8 ([] : (List Int)) a0) fun x3 =>
    some x3
  )

def fold_State_own_h (a0 : T_fold_State) : Option (Int × Int × (List T_ptree_Node) × (List Int)) :=
  bno (slices_Clone_ptree_Node_ptree_Node_h a0.Nodes) fun x1 =>
  bno (slices_Clone_int_int_h a0.Ended) fun x2 =>
  some (a0.Room, a0.Keep, x1, x2)

def fold_wrong (a0 : T_ptree_Node) : Option Bool :=
  bnd (decide (a0.ID < 1)) fun x1 =>
  bnd (decide (1048576 < a0.ID)) fun x2 =>
  bnd (x1 || x2) fun x3 =>
  bnd (decide (a0.Weight < 1)) fun x4 =>
  bnd (x3 || x4) fun x5 =>
  bnd (decide (256 < a0.Weight)) fun x6 =>
  bnd (x5 || x6) fun x7 =>
  some x7

def slices_IndexFunc_ptree_Node_ptree_Node_wrong_L0 (a0 : (List T_ptree_Node)) : Nat → Int → Option Int
  | 0, _ => none
  | n0 + 1, v7 =>
    bnd (decide (v7 < (a0.length : Int))) fun x14 =>
    bif x14 then (
      bno (gix a0 v7) fun x16 =>
      bno (fold_wrong x16) fun x17 =>
      bif x17 then (
        some v7
      ) else (
        bnd (IntKind.wrap .i64 (v7 + 1)) fun x19 =>
        (slices_IndexFunc_ptree_Node_ptree_Node_wrong_L0 a0 n0) x19
      )
    ) else (
      some (-1)
    )
def slices_IndexFunc_ptree_Node_ptree_Node_wrong (a0 : (List T_ptree_Node)) : Option Int :=
  slices_IndexFunc_ptree_Node_ptree_Node_wrong_L0 a0 fuel 0

def slices_ContainsFunc_ptree_Node_ptree_Node_wrong (a0 : (List T_ptree_Node)) : Option Bool :=
  bno (slices_IndexFunc_ptree_Node_ptree_Node_wrong a0) fun x1 =>
  bnd (decide (0 ≤ x1)) fun x2 =>
  some x2

def fold_State_find_1 (a0 : T_ptree_Node) (a1 : Int) : Option Int :=
  bnd (IntKind.wrap .i64 (a0.ID - a1)) fun x1 =>
  some x1

def slices_BinarySearchFunc_ptree_Node_ptree_Node_int_find_1_L0 (a0 : (List T_ptree_Node)) (a1 : Int) : Nat → Int → Int → Option (Int × Bool)
  | 0, _, _ => none
  | n0 + 1, v12, v13 =>
    bnd (decide (v12 < v13)) fun x25 =>
    bif x25 then (
      bnd (IntKind.wrap .i64 (v12 + v13)) fun x27 =>
      bnd (IntKind.wrap .u64 x27) fun x28 =>
      bno (shrI .u64 x28 1) fun x29 =>
      bnd (IntKind.wrap .i64 x29) fun x30 =>
      bno (gix a0 x30) fun x31 =>
      bno (fold_State_find_1 x31 a1) fun x32 =>
      bnd (decide (x32 < 0)) fun x33 =>
      bif x33 then (
        bnd (IntKind.wrap .i64 (x30 + 1)) fun x35 =>
        (slices_BinarySearchFunc_ptree_Node_ptree_Node_int_find_1_L0 a0 a1 n0) x35 v13
      ) else (
        (slices_BinarySearchFunc_ptree_Node_ptree_Node_int_find_1_L0 a0 a1 n0) v12 x30
      )
    ) else (
      bnd (decide (v12 < (a0.length : Int))) fun x36 =>
      bno (gd (x36 == true) (gix a0 v12) default) fun x37 =>
      bno (gd (x36 == true) (fold_State_find_1 x37 a1) default) fun x38 =>
      bnd (decide (x38 = 0)) fun x39 =>
      bnd (x36 && x39) fun x40 =>
      some (v12, x40)
    )
def slices_BinarySearchFunc_ptree_Node_ptree_Node_int_find_1 (a0 : (List T_ptree_Node)) (a1 : Int) : Option (Int × Bool) :=
  slices_BinarySearchFunc_ptree_Node_ptree_Node_int_find_1_L0 a0 a1 fuel 0 (a0.length : Int)

def fold_State_find (a0 : T_fold_State) (a1 : Int) : Option (Int × Bool) :=
  bno (slices_BinarySearchFunc_ptree_Node_ptree_Node_int_find_1 a0.Nodes a1) fun x1 =>
  some (x1.1, x1.2)

def fold_State_lost (a0 : T_fold_State) (a1 : T_ptree_Node) : Option Bool :=
  bno (fold_State_find a0 a1.Parent) fun x1 =>
  bnd (!decide (a1.Parent = 0)) fun x2 =>
  bnd (x2 && (!x1.2)) fun x3 =>
  some x3

def slices_IndexFunc_ptree_Node_ptree_Node_lost_L0 (a0 : (List T_ptree_Node)) (a1 : T_fold_State) : Nat → Int → Option Int
  | 0, _ => none
  | n0 + 1, v7 =>
    bnd (decide (v7 < (a0.length : Int))) fun x14 =>
    bif x14 then (
      bno (gix a0 v7) fun x16 =>
      bno (fold_State_lost a1 x16) fun x17 =>
      bif x17 then (
        some v7
      ) else (
        bnd (IntKind.wrap .i64 (v7 + 1)) fun x19 =>
        (slices_IndexFunc_ptree_Node_ptree_Node_lost_L0 a0 a1 n0) x19
      )
    ) else (
      some (-1)
    )
def slices_IndexFunc_ptree_Node_ptree_Node_lost (a0 : (List T_ptree_Node)) (a1 : T_fold_State) : Option Int :=
  slices_IndexFunc_ptree_Node_ptree_Node_lost_L0 a0 a1 fuel 0

def slices_ContainsFunc_ptree_Node_ptree_Node_lost (a0 : (List T_ptree_Node)) (a1 : T_fold_State) : Option Bool :=
  bno (slices_IndexFunc_ptree_Node_ptree_Node_lost a0 a1) fun x1 =>
  bnd (decide (0 ≤ x1)) fun x2 =>
  some x2

def fold_State_path_h_L0 (a0 : T_fold_State) : Nat → Int → (List Int) → Int → Option (List Int)
  | 0, _, _, _ => none
  | n0 + 1, v11, v12, v13 =>
    bnd (decide (v13 < (a0.Nodes.length : Int))) fun x24 =>
    bif x24 then (
      bno (fold_State_find a0 v11) fun x26 =>
      bno (gd ((!x26.2) == false) (gix a0.Nodes x26.1) default) fun x27 =>
      bnd (decide (x27.Parent = 0)) fun x28 =>
      bnd ((!x26.2) || x28) fun x29 =>
      bif x29 then (
        some v12
      ) else (
        bno (gix a0.Nodes x26.1) fun x31 =>
        bno (app 8 v12 ([x31.Parent] : (List Int))) fun x32 =>
        bnd (IntKind.wrap .i64 (v13 + 1)) fun x33 =>
        (fold_State_path_h_L0 a0 n0) x31.Parent x32 x33
      )
    ) else (
      some v12
    )
def fold_State_path_h (a0 : T_fold_State) (a1 : Int) : Option (List Int) :=
  fold_State_path_h_L0 a0 fuel a1 ([] : (List Int)) 0

def slices_Index_int_int_L0 (a0 : (List Int)) (a1 : Int) : Nat → Int → Option Int
  | 0, _ => none
  | n0 + 1, v7 =>
    bnd (decide (v7 < (a0.length : Int))) fun x14 =>
    bif x14 then (
      bno (gix a0 v7) fun x16 =>
      bnd (decide (a1 = x16)) fun x17 =>
      bif x17 then (
        some v7
      ) else (
        bnd (IntKind.wrap .i64 (v7 + 1)) fun x19 =>
        (slices_Index_int_int_L0 a0 a1 n0) x19
      )
    ) else (
      some (-1)
    )
def slices_Index_int_int (a0 : (List Int)) (a1 : Int) : Option Int :=
  slices_Index_int_int_L0 a0 a1 fuel 0

def slices_Contains_int_int (a0 : (List Int)) (a1 : Int) : Option Bool :=
  bno (slices_Index_int_int a0 a1) fun x1 =>
  bnd (decide (0 ≤ x1)) fun x2 =>
  some x2

def fold_State_round (a0 : T_fold_State) (a1 : T_ptree_Node) : Option Bool :=
  bno (fold_State_path_h a0 a1.ID) fun x1 =>
  bno (slices_Contains_int_int x1 a1.ID) fun x2 =>
  some x2

def slices_IndexFunc_ptree_Node_ptree_Node_round_L0 (a0 : (List T_ptree_Node)) (a1 : T_fold_State) : Nat → Int → Option Int
  | 0, _ => none
  | n0 + 1, v7 =>
    bnd (decide (v7 < (a0.length : Int))) fun x14 =>
    bif x14 then (
      bno (gix a0 v7) fun x16 =>
      bno (fold_State_round a1 x16) fun x17 =>
      bif x17 then (
        some v7
      ) else (
        bnd (IntKind.wrap .i64 (v7 + 1)) fun x19 =>
        (slices_IndexFunc_ptree_Node_ptree_Node_round_L0 a0 a1 n0) x19
      )
    ) else (
      some (-1)
    )
def slices_IndexFunc_ptree_Node_ptree_Node_round (a0 : (List T_ptree_Node)) (a1 : T_fold_State) : Option Int :=
  slices_IndexFunc_ptree_Node_ptree_Node_round_L0 a0 a1 fuel 0

def slices_ContainsFunc_ptree_Node_ptree_Node_round (a0 : (List T_ptree_Node)) (a1 : T_fold_State) : Option Bool :=
  bno (slices_IndexFunc_ptree_Node_ptree_Node_round a0 a1) fun x1 =>
  bnd (decide (0 ≤ x1)) fun x2 =>
  some x2

def fold_State_ended_J1 (a0 : T_fold_State) (v14 : Int) (kk0 : Int → Int → Option Bool) (x29 : T_ptree_Node) (v32 : Int) : Option Bool :=
  bno (slices_Contains_int_int a0.Ended x29.ID) fun x33 =>
  bnd (!(x29.Closed == x33)) fun x34 =>
  bif x34 then (
    some false
  ) else (
    bnd (IntKind.wrap .i64 (v14 + 1)) fun x36 =>
    kk0 v32 x36
  )
def fold_State_ended_L0 (a0 : T_fold_State) : Nat → Int → Int → Option Bool
  | 0, _, _ => none
  | n0 + 1, v13, v14 =>
    bnd (decide (v14 < (a0.Nodes.length : Int))) fun x27 =>
    bif x27 then (
      bno (gix a0.Nodes v14) fun x29 =>
      bif x29.Closed then (
        bnd (IntKind.wrap .i64 (v13 + 1)) fun x38 =>
        fold_State_ended_J1 a0 v14 (fold_State_ended_L0 a0 n0) x29 x38
      ) else (
        fold_State_ended_J1 a0 v14 (fold_State_ended_L0 a0 n0) x29 v13
      )
    ) else (
      bnd (decide (v13 = (a0.Ended.length : Int))) fun x39 =>
      some x39
    )
def fold_State_ended (a0 : T_fold_State) : Option Bool :=
  fold_State_ended_L0 a0 fuel 0 0

def fold_Check_L0 (a0 : T_fold_State) : Nat → Int → Option Int
  | 0, _ => none
  | n0 + 1, v23 =>
    bnd (decide (v23 < (a0.Nodes.length : Int))) fun x32 =>
    bif x32 then (
      bnd (IntKind.wrap .i64 (v23 - 1)) fun x34 =>
      bno (gix a0.Nodes x34) fun x35 =>
      bno (gix a0.Nodes v23) fun x36 =>
      bnd (decide (x36.ID ≤ x35.ID)) fun x37 =>
      bif x37 then (
        some 10
      ) else (
        bnd (IntKind.wrap .i64 (v23 + 1)) fun x39 =>
        (fold_Check_L0 a0 n0) x39
      )
    ) else (
      bno (slices_ContainsFunc_ptree_Node_ptree_Node_lost a0.Nodes a0) fun x40 =>
      bif x40 then (
        some 6
      ) else (
        bno (slices_ContainsFunc_ptree_Node_ptree_Node_round a0.Nodes a0) fun x42 =>
        bif x42 then (
          some 4
        ) else (
          bno (fold_State_ended a0) fun x44 =>
          bif (!x44) then (
            some 9
          ) else (
            some 0
          )
        )
      )
    )
def fold_Check (a0 : T_fold_State) : Option Int :=
  bnd (decide (a0.Room < 1)) fun x1 =>
  bnd (decide (24 < a0.Room)) fun x2 =>
  bnd (x1 || x2) fun x3 =>
  bnd (decide (a0.Keep < 0)) fun x4 =>
  bnd (x3 || x4) fun x5 =>
  bnd (decide (a0.Room < a0.Keep)) fun x6 =>
  bnd (x5 || x6) fun x7 =>
  bno (gd (x7 == false) (slices_ContainsFunc_ptree_Node_ptree_Node_wrong a0.Nodes) default) fun x8 =>
  bnd (x7 || x8) fun x9 =>
  bif x9 then (
    some 8
  ) else (
    bnd (decide (a0.Room < (a0.Nodes.length : Int))) fun x11 =>
    bnd (decide (a0.Keep < (a0.Ended.length : Int))) fun x12 =>
    bnd (x11 || x12) fun x13 =>
    bif x13 then (
      some 7
    ) else (
      fold_Check_L0 a0 fuel 1
    )
  )

def fold_State_path_h_v2_L0 (a0 : Int) (a1 : Int) (a3 : (List T_ptree_Node)) (a4 : (List Int)) : Nat → Int → (List Int) → Int → Option (List Int)
  | 0, _, _, _ => none
  | n0 + 1, v13, v14, v15 =>
    bnd (decide (v15 < (a3.length : Int))) fun x28 =>
    bif x28 then (
      bno (fold_State_find (⟨a0, a1, a3, a4⟩ : T_fold_State) v13) fun x30 =>
      bno (gd ((!x30.2) == false) (gix a3 x30.1) default) fun x31 =>
      bno (gd ((!x30.2) == false) (a3[(x30.1 : Int).toNat]?) default) fun x32 =>
      bnd (decide (x32.Parent = 0)) fun x33 =>
      bnd ((!x30.2) || x33) fun x34 =>
      bif x34 then (
        some v14
      ) else (
        bno (gix a3 x30.1) fun x36 =>
        bno (a3[(x30.1 : Int).toNat]?) fun x37 =>
        bno (app 8 v14 ([x37.Parent] : (List Int))) fun x38 =>
        bnd (IntKind.wrap .i64 (v15 + 1)) fun x39 =>
        (fold_State_path_h_v2_L0 a0 a1 a3 a4 n0) x37.Parent x38 x39
      )
    ) else (
      some v14
    )
def fold_State_path_h_v2 (a0 : Int) (a1 : Int) (a2 : Int) (a3 : (List T_ptree_Node)) (a4 : (List Int)) : Option (List Int) :=
  fold_State_path_h_v2_L0 a0 a1 a3 a4 fuel a2 ([] : (List Int)) 0

def fold_State_hang_h_L2 (a0 : Int) (a1 : Int) (a2 : T_fold_Op) (a4 : (List Int)) (v6 : Int) (v7 : Int) (v8 : Bool) (x9 : (Int × Bool)) (v21 : (List T_ptree_Node)) : Nat → Int → (List T_ptree_Node) → Option (Int × Int × (List T_ptree_Node) × (List Int))
  | 0, _, _ => none
  | n2 + 1, v36, v37 =>
    bnd (decide (v36 < (v21.length : Int))) fun x52 =>
    bif x52 then (
      bno (gix v37 v36) fun x54 =>
      bno (gd (v8 == true) (v37[(v36 : Int).toNat]?) default) fun x55 =>
      bnd (decide (x55.Parent = v6)) fun x56 =>
      bnd (v8 && x56) fun x57 =>
      bno (gd (x57 == true) (v37[(v36 : Int).toNat]?) default) fun x58 =>
      bnd (!decide (x58.ID = a2.ID)) fun x59 =>
      bnd (x57 && x59) fun x60 =>
      bif x60 then (
        bno (v37[(v36 : Int).toNat]?) fun x62 =>
        bnd (v37.set ((v36 : Int).toNat) (⟨x62.ID, a2.ID, x62.Weight, x62.Closed⟩ : T_ptree_Node)) fun x63 =>
        bnd (IntKind.wrap .i64 (v36 + 1)) fun x64 =>
        (fold_State_hang_h_L2 a0 a1 a2 a4 v6 v7 v8 x9 v21 n2) x64 x63
      ) else (
        bnd (IntKind.wrap .i64 (v36 + 1)) fun x65 =>
        (fold_State_hang_h_L2 a0 a1 a2 a4 v6 v7 v8 x9 v21 n2) x65 v37
      )
    ) else (
      bno (gix v37 x9.1) fun x66 =>
      bno (v37[(x9.1 : Int).toNat]?) fun x67 =>
      bnd (v37.set ((x9.1 : Int).toNat) (⟨x67.ID, v6, x67.Weight, x67.Closed⟩ : T_ptree_Node)) fun x68 =>
      bno (gix x68 x9.1) fun x69 =>
      bno (x68[(x9.1 : Int).toNat]?) fun x70 =>
      bnd (x68.set ((x9.1 : Int).toNat) (⟨x70.ID, x70.Parent, v7, x70.Closed⟩ : T_ptree_Node)) fun x71 =>
      some (a0, a1, x71, a4)
    )
def fold_State_hang_h_J1 (a0 : Int) (a1 : Int) (a2 : T_fold_Op) (a4 : (List Int)) (v6 : Int) (v7 : Int) (v8 : Bool) (x9 : (Int × Bool)) (v21 : (List T_ptree_Node)) : Option (Int × Int × (List T_ptree_Node) × (List Int)) :=
  fold_State_hang_h_L2 a0 a1 a2 a4 v6 v7 v8 x9 v21 fuel 0 v21
def fold_State_hang_h_J0 (a0 : Int) (a1 : Int) (a2 : T_fold_Op) (a3 : (List T_ptree_Node)) (a4 : (List Int)) (x1 : (Int × Bool)) (v5 : Int) (v6 : Int) (v7 : Int) (v8 : Bool) : Option (Int × Int × (List T_ptree_Node) × (List Int)) :=
  bno (fold_State_find (⟨a0, a1, a3, a4⟩ : T_fold_State) a2.ID) fun x9 =>
  bif x1.2 then (
    bno (fold_State_path_h_v2 a0 a1 v6 a3 a4) fun x73 =>
    bno (slices_Contains_int_int x73 a2.ID) fun x74 =>
    bnd (bif x1.2 then x74 else false) fun x75 =>
    bif x75 then (
      bno (gix a3 x9.1) fun x77 =>
      bno (a3[(x9.1 : Int).toNat]?) fun x78 =>
      bno (gix a3 x1.1) fun x79 =>
      bno (a3[(x1.1 : Int).toNat]?) fun x80 =>
      bnd (a3.set ((x1.1 : Int).toNat) (⟨x80.ID, x78.Parent, x80.Weight, x80.Closed⟩ : T_ptree_Node)) fun x81 =>
      fold_State_hang_h_J1 a0 a1 a2 a4 v6 v7 v8 x9 x81
    ) else (
      fold_State_hang_h_J1 a0 a1 a2 a4 v6 v7 v8 x9 a3
    )
  ) else (
    bnd (x1.2 && false) fun x82 =>
    fold_State_hang_h_J1 a0 a1 a2 a4 v6 v7 v8 x9 a3
  )
def fold_State_hang_h (a0 : Int) (a1 : Int) (a2 : T_fold_Op) (a3 : (List T_ptree_Node)) (a4 : (List Int)) : Option (Int × Int × (List T_ptree_Node) × (List Int)) :=
  bno (fold_State_find (⟨a0, a1, a3, a4⟩ : T_fold_State) a2.Dep) fun x1 =>
  bnd (!decide (a2.Dep = 0)) fun x83 =>
  bnd ((!x1.2) && x83) fun x84 =>
  bif x84 then (
    fold_State_hang_h_J0 a0 a1 a2 a3 a4 x1 0 0 16 false
  ) else (
    fold_State_hang_h_J0 a0 a1 a2 a3 a4 x1 a2.Kind a2.Dep a2.Weight a2.Only
  )

def slices_Delete_ptree_Node_ptree_Node_h (a0 : Int) (a1 : Int) (a2 : (List T_ptree_Node)) : Option (List T_ptree_Node) := delS a2 a0 a1

def fold_State_sum_L0 (a0 : T_fold_State) (a1 : Int) : Nat → Int → Int → Option Int
  | 0, _, _ => none
  | n0 + 1, v9, v10 =>
    bnd (decide (v10 < (a0.Nodes.length : Int))) fun x19 =>
    bif x19 then (
      bno (gix a0.Nodes v10) fun x21 =>
      bnd (decide (x21.Parent = a1)) fun x22 =>
      bif x22 then (
        bnd (IntKind.wrap .i64 (v9 + x21.Weight)) fun x24 =>
        bnd (IntKind.wrap .i64 (v10 + 1)) fun x25 =>
        (fold_State_sum_L0 a0 a1 n0) x24 x25
      ) else (
        bnd (IntKind.wrap .i64 (v10 + 1)) fun x26 =>
        (fold_State_sum_L0 a0 a1 n0) v9 x26
      )
    ) else (
      some v9
    )
def fold_State_sum (a0 : T_fold_State) (a1 : Int) : Option Int :=
  fold_State_sum_L0 a0 a1 fuel 0 0

def fold_State_off_1 (a0 : Int) (a1 : Int) : Option Bool :=
  bnd (decide (a0 = a1)) fun x1 =>
  some x1

def slices_IndexFunc_int_int_off_1_L0 (a0 : (List Int)) (a1 : Int) : Nat → Int → Option Int
  | 0, _ => none
  | n0 + 1, v7 =>
    bnd (decide (v7 < (a0.length : Int))) fun x14 =>
    bif x14 then (
      bno (gix a0 v7) fun x16 =>
      bno (fold_State_off_1 x16 a1) fun x17 =>
      bif x17 then (
        some v7
      ) else (
        bnd (IntKind.wrap .i64 (v7 + 1)) fun x19 =>
        (slices_IndexFunc_int_int_off_1_L0 a0 a1 n0) x19
      )
    ) else (
      some (-1)
    )
def slices_IndexFunc_int_int_off_1 (a0 : (List Int)) (a1 : Int) : Option Int :=
  slices_IndexFunc_int_int_off_1_L0 a0 a1 fuel 0

def slices_DeleteFunc_int_int_h_off_1_L0 (a1 : Int) : Nat → (List Int) → Int → Int → Option (List Int)
  | 0, _, _, _ => none
  | n0 + 1, v17, v18, v19 =>
    bnd (decide (v19 < (v17.length : Int))) fun x32 =>
    bif x32 then (
      bno (gix v17 v19) fun x34 =>
      bno (v17[(v19 : Int).toNat]?) fun x35 =>
      bno (fold_State_off_1 x35 a1) fun x36 =>
      bif (!x36) then (
        bno (gix v17 v18) fun x38 =>
        bno (v17[(v18 : Int).toNat]?) fun x39 =>
        bnd (v17.set ((v18 : Int).toNat) x35) fun x40 =>
        bnd (IntKind.wrap .i64 (v18 + 1)) fun x41 =>
        bnd (IntKind.wrap .i64 (v19 + 1)) fun x42 =>
        (slices_DeleteFunc_int_int_h_off_1_L0 a1 n0) x40 x41 x42
      ) else (
        bnd (IntKind.wrap .i64 (v19 + 1)) fun x43 =>
        (slices_DeleteFunc_int_int_h_off_1_L0 a1 n0) v17 v18 x43
      )
    ) else (
      bno (cut v17 0 v18) fun x44 =>
      bno (cut x44 0 v18) fun x45 =>
      some x45
    )
def slices_DeleteFunc_int_int_h_off_1 (a0 : (List Int)) (a1 : Int) : Option (List Int) :=
  bno (slices_IndexFunc_int_int_off_1 a0 a1) fun x1 =>
  bnd (decide (x1 = (-1))) fun x2 =>
  bif x2 then (
    some a0
  ) else (
    bnd (IntKind.wrap .i64 (x1 + 1)) fun x4 =>
    slices_DeleteFunc_int_int_h_off_1_L0 a1 fuel a0 x1 x4
  )

def fold_State_off_h_L0 (a0 : Int) (a1 : Int) (a2 : Int) (a4 : (List Int)) (x3 : T_ptree_Node) (x5 : (List T_ptree_Node)) (x6 : Int) : Nat → Int → (List T_ptree_Node) → Option (Int × Int × (List T_ptree_Node) × (List Int))
  | 0, _, _ => none
  | n0 + 1, v23, v24 =>
    bnd (decide (v23 < (x5.length : Int))) fun x41 =>
    bif x41 then (
      bno (gix v24 v23) fun x43 =>
      bno (v24[(v23 : Int).toNat]?) fun x44 =>
      bnd (decide (x44.Parent = a2)) fun x45 =>
      bif x45 then (
        bno (v24[(v23 : Int).toNat]?) fun x47 =>
        bnd (IntKind.wrap .i64 (x3.Weight * x47.Weight)) fun x48 =>
        bno (quoI .i64 x48 x6) fun x49 =>
        bnd (max x49 1) fun x50 =>
        bno (v24[(v23 : Int).toNat]?) fun x51 =>
        bnd (v24.set ((v23 : Int).toNat) (⟨x51.ID, x3.Parent, x51.Weight, x51.Closed⟩ : T_ptree_Node)) fun x52 =>
        bno (x52[(v23 : Int).toNat]?) fun x53 =>
        bnd (x52.set ((v23 : Int).toNat) (⟨x53.ID, x53.Parent, x50, x53.Closed⟩ : T_ptree_Node)) fun x54 =>
        bnd (IntKind.wrap .i64 (v23 + 1)) fun x55 =>
        (fold_State_off_h_L0 a0 a1 a2 a4 x3 x5 x6 n0) x55 x54
      ) else (
        bnd (IntKind.wrap .i64 (v23 + 1)) fun x56 =>
        (fold_State_off_h_L0 a0 a1 a2 a4 x3 x5 x6 n0) x56 v24
      )
    ) else (
      bno (slices_DeleteFunc_int_int_h_off_1 a4 a2) fun x57 =>
      some (a0, a1, v24, x57)
    )
def fold_State_off_h (a0 : Int) (a1 : Int) (a2 : Int) (a3 : (List T_ptree_Node)) (a4 : (List Int)) : Option (Int × Int × (List T_ptree_Node) × (List Int)) :=
  bno (fold_State_find (⟨a0, a1, a3, a4⟩ : T_fold_State) a2) fun x1 =>
  bno (gix a3 x1.1) fun x2 =>
  bno (a3[(x1.1 : Int).toNat]?) fun x3 =>
  bnd (IntKind.wrap .i64 (x1.1 + 1)) fun x4 =>
  bno (slices_Delete_ptree_Node_ptree_Node_h x1.1 x4 a3) fun x5 =>
  bno (fold_State_sum (⟨a0, a1, x5, a4⟩ : T_fold_State) a2) fun x6 =>
  fold_State_off_h_L0 a0 a1 a2 a4 x3 x5 x6 fuel 0 x5

def slices_Insert_ptree_Node_ptree_Node_h (a0 : Int) (a1 : (List T_ptree_Node)) (a2 : (List T_ptree_Node)) : Option (List T_ptree_Node) := insS 32 a2 a0 a1

def fold_State_plant_h_J1 (a2 : T_fold_Op) (v22 : Int) (v23 : Int) (v24 : (List T_ptree_Node)) (v25 : (List Int)) : Option (Int × Int × (List T_ptree_Node) × (List Int) × Int) :=
  bno (fold_State_find (⟨v22, v23, v24, v25⟩ : T_fold_State) a2.ID) fun x26 =>
  bno (slices_Insert_ptree_Node_ptree_Node_h x26.1 ([(⟨a2.ID, a2.ID, 16, false⟩ : T_ptree_Node)] : (List T_ptree_Node)) v24) fun x27 =>
  bno (fold_State_hang_h v22 v23 a2 x27 v25) fun x28 =>
  some (x28.1, x28.2.1, x28.2.2.1, x28.2.2.2, 0)
def fold_State_plant_h_J0 (a0 : Int) (a1 : Int) (a2 : T_fold_Op) (a3 : (List T_ptree_Node)) (a4 : (List Int)) (v6 : Bool) : Option (Int × Int × (List T_ptree_Node) × (List Int) × Int) :=
  bif v6 then (
    some (a0, a1, a3, a4, 8)
  ) else (
    bnd (decide (a2.ID = a2.Dep)) fun x8 =>
    bif x8 then (
      some (a0, a1, a3, a4, 4)
    ) else (
      bno (fold_State_find (⟨a0, a1, a3, a4⟩ : T_fold_State) a2.ID) fun x10 =>
      bif x10.2 then (
        bnd (decide (a2.Kind = 0)) fun x12 =>
        bif x12 then (
          some (a0, a1, a3, a4, 13)
        ) else (
          bno (fold_State_hang_h a0 a1 a2 a3 a4) fun x14 =>
          some (x14.1, x14.2.1, x14.2.2.1, x14.2.2.2, 0)
        )
      ) else (
        bnd (decide (a0 ≤ (a3.length : Int))) fun x29 =>
        bif x29 then (
          bnd (decide ((a4.length : Int) = 0)) fun x31 =>
          bif x31 then (
            some (a0, a1, a3, a4, 7)
          ) else (
            bno (gix a4 0) fun x33 =>
            bno (a4[(0 : Int).toNat]?) fun x34 =>
            bno (fold_State_off_h a0 a1 x34 a3 a4) fun x35 =>
            fold_State_plant_h_J1 a2 x35.1 x35.2.1 x35.2.2.1 x35.2.2.2
          )
        ) else (
          fold_State_plant_h_J1 a2 a0 a1 a3 a4
        )
      )
    )
  )
def fold_State_plant_h (a0 : Int) (a1 : Int) (a2 : T_fold_Op) (a3 : (List T_ptree_Node)) (a4 : (List Int)) : Option (Int × Int × (List T_ptree_Node) × (List Int) × Int) :=
  bno (fold_wrong (⟨a2.ID, 0, a2.Weight, false⟩ : T_ptree_Node)) fun x36 =>
  bif x36 then (
    fold_State_plant_h_J0 a0 a1 a2 a3 a4 x36
  ) else (
    bnd (decide (a2.Dep < 0)) fun x38 =>
    bif x38 then (
      fold_State_plant_h_J0 a0 a1 a2 a3 a4 x38
    ) else (
      bnd (decide (1048576 < a2.Dep)) fun x40 =>
      fold_State_plant_h_J0 a0 a1 a2 a3 a4 x40
    )
  )

def fold_State_shut_h (a0 : Int) (a1 : Int) (a2 : Int) (a3 : (List T_ptree_Node)) (a4 : (List Int)) : Option (Int × Int × (List T_ptree_Node) × (List Int) × Int) :=
  bno (fold_State_find (⟨a0, a1, a3, a4⟩ : T_fold_State) a2) fun x1 =>
  bif (!x1.2) then (
    some (a0, a1, a3, a4, 6)
  ) else (
    bno (gix a3 x1.1) fun x3 =>
    bno (a3[(x1.1 : Int).toNat]?) fun x4 =>
    bif x4.Closed then (
      some (a0, a1, a3, a4, 9)
    ) else (
      bno (gix a3 x1.1) fun x6 =>
      bno (a3[(x1.1 : Int).toNat]?) fun x7 =>
      bnd (a3.set ((x1.1 : Int).toNat) (⟨x7.ID, x7.Parent, x7.Weight, true⟩ : T_ptree_Node)) fun x8 =>
      bno (app 8 a4 ([a2] : (List Int))) fun x9 =>
      bnd (decide (a1 < (x9.length : Int))) fun x10 =>
      bif x10 then (
        bno (gix x9 0) fun x12 =>
        bno (x9[(0 : Int).toNat]?) fun x13 =>
        bno (fold_State_off_h a0 a1 x13 x8 x9) fun x14 =>
        some (x14.1, x14.2.1, x14.2.2.1, x14.2.2.2, 0)
      ) else (
        some (a0, a1, x8, x9, 0)
      )
    )
  )

def fold_Do_J0 (a1 : T_fold_Op) (x1 : (Int × Int × (List T_ptree_Node) × (List Int))) (v8 : Bool) : Option (T_fold_State × Int) :=
  bif v8 then (
    bno (fold_State_plant_h x1.1 x1.2.1 a1 x1.2.2.1 x1.2.2.2) fun x10 =>
    some ((⟨x10.1, x10.2.1, x10.2.2.1, x10.2.2.2.1⟩ : T_fold_State), x10.2.2.2.2)
  ) else (
    bnd (decide (a1.Kind = 2)) fun x11 =>
    bif x11 then (
      bno (fold_State_shut_h x1.1 x1.2.1 a1.ID x1.2.2.1 x1.2.2.2) fun x13 =>
      some ((⟨x13.1, x13.2.1, x13.2.2.1, x13.2.2.2.1⟩ : T_fold_State), x13.2.2.2.2)
    ) else (
      bnd (decide (a1.Kind = 3)) fun x14 =>
      bif x14 then (
        bno (fold_State_find (⟨x1.1, x1.2.1, x1.2.2.1, x1.2.2.2⟩ : T_fold_State) a1.ID) fun x16 =>
        bif (!x16.2) then (
          some ((⟨x1.1, x1.2.1, x1.2.2.1, x1.2.2.2⟩ : T_fold_State), 6)
        ) else (
          bno (fold_State_off_h x1.1 x1.2.1 a1.ID x1.2.2.1 x1.2.2.2) fun x18 =>
          some ((⟨x18.1, x18.2.1, x18.2.2.1, x18.2.2.2⟩ : T_fold_State), 0)
        )
      ) else (
        some ((⟨x1.1, x1.2.1, x1.2.2.1, x1.2.2.2⟩ : T_fold_State), 12)
      )
    )
  )
def fold_Do (a0 : T_fold_State) (a1 : T_fold_Op) : Option (T_fold_State × Int) :=
  bno (fold_State_own_h a0) fun x1 =>
  bno (fold_Check a0) fun x2 =>
  bnd (!decide (x2 = 0)) fun x3 =>
  bif x3 then (
    some ((⟨x1.1, x1.2.1, x1.2.2.1, x1.2.2.2⟩ : T_fold_State), x2)
  ) else (
    bnd (decide (a1.Kind = 0)) fun x19 =>
    bif x19 then (
      fold_Do_J0 a1 x1 x19
    ) else (
      bnd (decide (a1.Kind = 1)) fun x21 =>
      fold_Do_J0 a1 x1 x21
    )
  )

def fold_Run_L0 (a1 : (List T_fold_Op)) : Nat → (List Int) → Int → Int → Int → (List T_ptree_Node) → (List Int) → Option (T_fold_State × (List Int))
  | 0, _, _, _, _, _, _ => none
  | n0 + 1, v7, v8, v9, v10, v11, v12 =>
    bnd (decide (v8 < (a1.length : Int))) fun x19 =>
    bif x19 then (
      bno (gix a1 v8) fun x21 =>
      bno (fold_Do (⟨v9, v10, v11, v12⟩ : T_fold_State) x21) fun x22 =>
      bno (app 8 v7 ([x22.2] : (List Int))) fun x23 =>
      bnd (IntKind.wrap .i64 (v8 + 1)) fun x24 =>
      (fold_Run_L0 a1 n0) x23 x24 x22.1.Room x22.1.Keep x22.1.Nodes x22.1.Ended
    ) else (
      some ((⟨v9, v10, v11, v12⟩ : T_fold_State), v7)
    )
def fold_Run (a0 : T_fold_State) (a1 : (List T_fold_Op)) : Option (T_fold_State × (List Int)) :=
  fold_Run_L0 a1 fuel ([] : (List Int)) 0 a0.Room a0.Keep a0.Nodes a0.Ended

def fold_State_there (a0 : T_fold_State) (a1 : Int) : Option Bool :=
  bno (fold_State_find a0 a1) fun x1 =>
  bno (gd (x1.2 == true) (fold_Check a0) default) fun x2 =>
  bnd (decide (x2 = 0)) fun x3 =>
  bnd (x1.2 && x3) fun x4 =>
  some x4

def fold_Depth (a0 : T_fold_State) (a1 : Int) : Option Int :=
  bno (fold_State_there a0 a1) fun x1 =>
  bif (!x1) then (
    some 0
  ) else (
    bno (fold_State_path_h a0 a1) fun x3 =>
    bnd (IntKind.wrap .i64 ((x3.length : Int) + 1)) fun x4 =>
    some x4
  )

def fold_Meet_L0 (x6 : (List Int)) (x8 : (List Int)) : Nat → Int → Option Int
  | 0, _ => none
  | n0 + 1, v16 =>
    bnd (decide (v16 < (x8.length : Int))) fun x24 =>
    bif x24 then (
      bno (gix x8 v16) fun x26 =>
      bno (x8[(v16 : Int).toNat]?) fun x27 =>
      bno (slices_Contains_int_int x6 x27) fun x28 =>
      bif x28 then (
        some x27
      ) else (
        bnd (IntKind.wrap .i64 (v16 + 1)) fun x30 =>
        (fold_Meet_L0 x6 x8 n0) x30
      )
    ) else (
      some 0
    )
def fold_Meet (a0 : T_fold_State) (a1 : Int) (a2 : Int) : Option Int :=
  bno (fold_State_there a0 a1) fun x1 =>
  bno (gd ((!x1) == false) (fold_State_there a0 a2) default) fun x2 =>
  bnd ((!x1) || (!x2)) fun x3 =>
  bif x3 then (
    some 0
  ) else (
    bno (fold_State_path_h a0 a2) fun x5 =>
    bno (app 8 x5 ([a2] : (List Int))) fun x6 =>
    bno (fold_State_path_h a0 a1) fun x7 =>
    bno (app 8 ([a1] : (List Int)) x7) fun x8 =>
    fold_Meet_L0 x6 x8 fuel 0
  )

def fold_Below_1_h_v2_L0 (rec0 : Int → T_fold_State → (List Int) → Option (List Int)) (a0 : Int) (a1 : T_fold_State) : Nat → Int → (List Int) → Option (List Int)
  | 0, _, _ => none
  | n0 + 1, v10, v11 =>
    bnd (decide (v10 < (a1.Nodes.length : Int))) fun x21 =>
    bif x21 then (
      bno (gix a1.Nodes v10) fun x23 =>
      bnd (decide (x23.Parent = a0)) fun x24 =>
      bif x24 then (
        bno (app 8 v11 ([x23.ID] : (List Int))) fun x26 =>
        bno (rec0 x23.ID a1 x26) fun x27 =>
        bnd (IntKind.wrap .i64 (v10 + 1)) fun x28 =>
        (fold_Below_1_h_v2_L0 rec0 a0 a1 n0) x28 x27
      ) else (
        bnd (IntKind.wrap .i64 (v10 + 1)) fun x29 =>
        (fold_Below_1_h_v2_L0 rec0 a0 a1 n0) x29 v11
      )
    ) else (
      some v11
    )
def fold_Below_1_h_v2_B (rec0 : Int → T_fold_State → (List Int) → Option (List Int)) (a0 : Int) (a1 : T_fold_State) (a2 : (List Int)) : Option (List Int) :=
  fold_Below_1_h_v2_L0 rec0 a0 a1 fuel 0 a2
def fold_Below_1_h_v2 : Nat → Int → T_fold_State → (List Int) → Option (List Int)
  | 0, _, _, _ => none
  | nr + 1, a0, a1, a2 => fold_Below_1_h_v2_B (fold_Below_1_h_v2 nr) a0 a1 a2

def fold_Below_1_h_L0 (a0 : Int) (a1 : T_fold_State) : Nat → Int → (List Int) → Option (List Int)
  | 0, _, _ => none
  | n0 + 1, v10, v11 =>
    bnd (decide (v10 < (a1.Nodes.length : Int))) fun x21 =>
    bif x21 then (
      bno (gix a1.Nodes v10) fun x23 =>
      bnd (decide (x23.Parent = a0)) fun x24 =>
      bif x24 then (
        bno (app 8 v11 ([x23.ID] : (List Int))) fun x26 =>
        bno (fold_Below_1_h_v2 fuel x23.ID a1 x26) fun x27 =>
        bnd (IntKind.wrap .i64 (v10 + 1)) fun x28 =>
        (fold_Below_1_h_L0 a0 a1 n0) x28 x27
      ) else (
        bnd (IntKind.wrap .i64 (v10 + 1)) fun x29 =>
        (fold_Below_1_h_L0 a0 a1 n0) x29 v11
      )
    ) else (
      some v11
    )
def fold_Below_1_h (a0 : Int) (a1 : T_fold_State) : Option (List Int) :=
  fold_Below_1_h_L0 a0 a1 fuel 0 ([] : (List Int))

def math_bits_Len64_J2 (v16 : Int) (v17 : Int) : Option Int :=
  bnd (IntKind.wrap .u8 v16) fun x18 =>
  bno (gix ([0, 1, 2, 2, 3, 3, 3, 3, 4, 4, 4, 4, 4, 4, 4, 4, 5, 5, 5, 5, 5, 5, 5, 5, 5, 5, 5, 5, 5, 5, 5, 5, 6, 6, 6, 6, 6, 6, 6, 6, 6, 6, 6, 6, 6, 6, 6, 6, 6, 6, 6, 6, 6, 6, 6, 6, 6, 6, 6, 6, 6, 6, 6, 6, 7, 7, 7, 7, 7, 7, 7, 7, 7, 7, 7, 7, 7, 7, 7, 7, 7, 7, 7, 7, 7, 7, 7, 7, 7, 7, 7, 7, 7, 7, 7, 7, 7, 7, 7, 7, 7, 7, 7, 7, 7, 7, 7, 7, 7, 7, 7, 7, 7, 7, 7, 7, 7, 7, 7, 7, 7, 7, 7, 7, 7, 7, 7, 7, 8, 8, 8, 8, 8, 8, 8, 8, 8, 8, 8, 8, 8, 8, 8, 8, 8, 8, 8, 8, 8, 8, 8, 8, 8, 8, 8, 8, 8, 8, 8, 8, 8, 8, 8, 8, 8, 8, 8, 8, 8, 8, 8, 8, 8, 8, 8, 8, 8, 8, 8, 8, 8, 8, 8, 8, 8, 8, 8, 8, 8, 8, 8, 8, 8, 8, 8, 8, 8, 8, 8, 8, 8, 8, 8, 8, 8, 8, 8, 8, 8, 8, 8, 8, 8, 8, 8, 8, 8, 8, 8, 8, 8, 8, 8, 8, 8, 8, 8, 8, 8, 8, 8, 8, 8, 8, 8, 8, 8, 8, 8, 8, 8, 8, 8, 8, 8, 8, 8, 8, 8, 8, 8, 8, 8, 8, 8, 8] : List UInt8) x18) fun x19 =>
  bnd (IntKind.wrap .i64 (x19.toNat : Int)) fun x20 =>
  bnd (IntKind.wrap .i64 (v17 + x20)) fun x21 =>
  some x21
def math_bits_Len64_J1 (v10 : Int) (v11 : Int) : Option Int :=
  bnd (decide (256 ≤ v10)) fun x22 =>
  bif x22 then (
    bno (shrI .u64 v10 8) fun x24 =>
    bnd (IntKind.wrap .i64 (v11 + 8)) fun x25 =>
    math_bits_Len64_J2 x24 x25
  ) else (
    math_bits_Len64_J2 v10 v11
  )
def math_bits_Len64_J0 (v4 : Int) (v5 : Int) : Option Int :=
  bnd (decide (65536 ≤ v4)) fun x26 =>
  bif x26 then (
    bno (shrI .u64 v4 16) fun x28 =>
    bnd (IntKind.wrap .i64 (v5 + 16)) fun x29 =>
    math_bits_Len64_J1 x28 x29
  ) else (
    math_bits_Len64_J1 v4 v5
  )
def math_bits_Len64 (a0 : Int) : Option Int :=
  bnd (decide (4294967296 ≤ a0)) fun x30 =>
  bif x30 then (
    bno (shrI .u64 a0 32) fun x32 =>
    math_bits_Len64_J0 x32 32
  ) else (
    math_bits_Len64_J0 a0 0
  )

def math_bits_Len (a0 : Int) : Option Int :=
  bno (math_bits_Len64 a0) fun x1 =>
  some x1

def cmp_isNaN_int (a0 : Int) : Option Bool :=
  bnd (!decide (a0 = a0)) fun x1 =>
  some x1

def cmp_Less_int (a0 : Int) (a1 : Int) : Option Bool :=
  bno (cmp_isNaN_int a0) fun x1 =>
  bno (gd (x1 == true) (cmp_isNaN_int a1) default) fun x2 =>
  bnd (x1 && (!x2)) fun x3 =>
  bnd (decide (a0 < a1)) fun x4 =>
  bnd (x3 || x4) fun x5 =>
  some x5

def slices_insertionSortOrdered_int_h_L1 (a0 : Int) (v74 : Int) (kk0 : (List Int) → Int → Option (List Int)) : Nat → (List Int) → Int → Option (List Int)
  | 0, _, _ => none
  | n1 + 1, v170, v171 =>
    bnd (decide (a0 < v171)) fun x194 =>
    bno (gd (x194 == true) (gix v170 v171) default) fun x195 =>
    bno (gd (x194 == true) (v170[(v171 : Int).toNat]?) default) fun x196 =>
    bnd (IntKind.wrap .i64 (v171 - 1)) fun x197 =>
    bno (gd (x194 == true) (gix v170 x197) default) fun x198 =>
    bno (gd (x194 == true) (v170[(x197 : Int).toNat]?) default) fun x199 =>
    bno (gd (x194 == true) (cmp_Less_int x196 x199) default) fun x200 =>
    bnd (x194 && x200) fun x201 =>
    bif x201 then (
      bnd (IntKind.wrap .i64 (v171 - 1)) fun x203 =>
      bnd (IntKind.wrap .i64 (v171 - 1)) fun x204 =>
      bno (gix v170 x204) fun x205 =>
      bno (v170[(x204 : Int).toNat]?) fun x206 =>
      bno (gix v170 v171) fun x207 =>
      bno (v170[(v171 : Int).toNat]?) fun x208 =>
      bno (gix v170 v171) fun x209 =>
      bno (v170[(v171 : Int).toNat]?) fun x210 =>
      bnd (v170.set ((v171 : Int).toNat) x206) fun x211 =>
      bno (gix x211 x203) fun x212 =>
      bno (x211[(x203 : Int).toNat]?) fun x213 =>
      bnd (x211.set ((x203 : Int).toNat) x208) fun x214 =>
      bnd (IntKind.wrap .i64 (v171 - 1)) fun x215 =>
      (slices_insertionSortOrdered_int_h_L1 a0 v74 kk0 n1) x214 x215
    ) else (
      bnd (IntKind.wrap .i64 (v74 + 1)) fun x216 =>
      kk0 v170 x216
    )
def slices_insertionSortOrdered_int_h_L0 (a0 : Int) (a1 : Int) : Nat → (List Int) → Int → Option (List Int)
  | 0, _, _ => none
  | n0 + 1, v73, v74 =>
    bnd (decide (v74 < a1)) fun x146 =>
    bif x146 then (
      slices_insertionSortOrdered_int_h_L1 a0 v74 (slices_insertionSortOrdered_int_h_L0 a0 a1 n0) fuel v73 v74
    ) else (
      some v73
    )
def slices_insertionSortOrdered_int_h (a0 : Int) (a1 : Int) (a2 : (List Int)) : Option (List Int) :=
  bnd (IntKind.wrap .i64 (a0 + 1)) fun x1 =>
  slices_insertionSortOrdered_int_h_L0 a0 a1 fuel a2 x1

def slices_siftDownOrdered_int_h_J1 (a2 : Int) (v54 : (List Int)) (v55 : Int) (kk0 : (List Int) → Int → Option (List Int)) (v126 : Int) : Option (List Int) :=
  bnd (IntKind.wrap .i64 (a2 + v55)) fun x127 =>
  bno (gix v54 x127) fun x128 =>
  bno (v54[(x127 : Int).toNat]?) fun x129 =>
  bnd (IntKind.wrap .i64 (a2 + v126)) fun x130 =>
  bno (gix v54 x130) fun x131 =>
  bno (v54[(x130 : Int).toNat]?) fun x132 =>
  bno (cmp_Less_int x129 x132) fun x133 =>
  bif (!x133) then (
    some v54
  ) else (
    bnd (IntKind.wrap .i64 (a2 + v55)) fun x135 =>
    bnd (IntKind.wrap .i64 (a2 + v126)) fun x136 =>
    bnd (IntKind.wrap .i64 (a2 + v126)) fun x137 =>
    bno (gix v54 x137) fun x138 =>
    bno (v54[(x137 : Int).toNat]?) fun x139 =>
    bnd (IntKind.wrap .i64 (a2 + v55)) fun x140 =>
    bno (gix v54 x140) fun x141 =>
    bno (v54[(x140 : Int).toNat]?) fun x142 =>
    bno (gix v54 x135) fun x143 =>
    bno (v54[(x135 : Int).toNat]?) fun x144 =>
    bnd (v54.set ((x135 : Int).toNat) x139) fun x145 =>
    bno (gix x145 x136) fun x146 =>
    bno (x145[(x136 : Int).toNat]?) fun x147 =>
    bnd (x145.set ((x136 : Int).toNat) x142) fun x148 =>
    kk0 x148 v126
  )
def slices_siftDownOrdered_int_h_L0 (a1 : Int) (a2 : Int) : Nat → (List Int) → Int → Option (List Int)
  | 0, _, _ => none
  | n0 + 1, v54, v55 =>
    bnd (IntKind.wrap .i64 (2 * v55)) fun x109 =>
    bnd (IntKind.wrap .i64 (x109 + 1)) fun x110 =>
    bnd (decide (a1 ≤ x110)) fun x111 =>
    bif x111 then (
      some v54
    ) else (
      bnd (IntKind.wrap .i64 (x110 + 1)) fun x149 =>
      bnd (decide (x149 < a1)) fun x150 =>
      bnd (IntKind.wrap .i64 (a2 + x110)) fun x151 =>
      bno (gd (x150 == true) (gix v54 x151) default) fun x152 =>
      bno (gd (x150 == true) (v54[(x151 : Int).toNat]?) default) fun x153 =>
      bnd (IntKind.wrap .i64 (a2 + x110)) fun x154 =>
      bnd (IntKind.wrap .i64 (x154 + 1)) fun x155 =>
      bno (gd (x150 == true) (gix v54 x155) default) fun x156 =>
      bno (gd (x150 == true) (v54[(x155 : Int).toNat]?) default) fun x157 =>
      bno (gd (x150 == true) (cmp_Less_int x153 x157) default) fun x158 =>
      bnd (x150 && x158) fun x159 =>
      bif x159 then (
        bnd (IntKind.wrap .i64 (x110 + 1)) fun x161 =>
        slices_siftDownOrdered_int_h_J1 a2 v54 v55 (slices_siftDownOrdered_int_h_L0 a1 a2 n0) x161
      ) else (
        slices_siftDownOrdered_int_h_J1 a2 v54 v55 (slices_siftDownOrdered_int_h_L0 a1 a2 n0) x110
      )
    )
def slices_siftDownOrdered_int_h (a0 : Int) (a1 : Int) (a2 : Int) (a3 : (List Int)) : Option (List Int) :=
  slices_siftDownOrdered_int_h_L0 a1 a2 fuel a3 a0

def slices_heapSortOrdered_int_h_L1 (a0 : Int) : Nat → (List Int) → Int → Option (List Int)
  | 0, _, _ => none
  | n1 + 1, v39, v40 =>
    bnd (decide (0 ≤ v40)) fun x58 =>
    bif x58 then (
      bnd (IntKind.wrap .i64 (a0 + v40)) fun x60 =>
      bnd (IntKind.wrap .i64 (a0 + v40)) fun x61 =>
      bno (gix v39 x61) fun x62 =>
      bno (v39[(x61 : Int).toNat]?) fun x63 =>
      bno (gix v39 a0) fun x64 =>
      bno (v39[(a0 : Int).toNat]?) fun x65 =>
      bno (gix v39 a0) fun x66 =>
      bno (v39[(a0 : Int).toNat]?) fun x67 =>
      bnd (v39.set ((a0 : Int).toNat) x63) fun x68 =>
      bno (gix x68 x60) fun x69 =>
      bno (x68[(x60 : Int).toNat]?) fun x70 =>
      bnd (x68.set ((x60 : Int).toNat) x65) fun x71 =>
      bno (slices_siftDownOrdered_int_h 0 v40 a0 x71) fun x72 =>
      chk (x72.length = v39.length) <|
      bnd (IntKind.wrap .i64 (v40 - 1)) fun x74 =>
      (slices_heapSortOrdered_int_h_L1 a0 n1) x72 x74
    ) else (
      some v39
    )
def slices_heapSortOrdered_int_h_L0 (a0 : Int) (x1 : Int) : Nat → (List Int) → Int → Option (List Int)
  | 0, _, _ => none
  | n0 + 1, v9, v10 =>
    bnd (decide (0 ≤ v10)) fun x16 =>
    bif x16 then (
      bno (slices_siftDownOrdered_int_h v10 x1 a0 v9) fun x18 =>
      chk (x18.length = v9.length) <|
      bnd (IntKind.wrap .i64 (v10 - 1)) fun x20 =>
      (slices_heapSortOrdered_int_h_L0 a0 x1 n0) x18 x20
    ) else (
      bnd (IntKind.wrap .i64 (x1 - 1)) fun x21 =>
      slices_heapSortOrdered_int_h_L1 a0 fuel v9 x21
    )
def slices_heapSortOrdered_int_h (a0 : Int) (a1 : Int) (a2 : (List Int)) : Option (List Int) :=
  bnd (IntKind.wrap .i64 (a1 - a0)) fun x1 =>
  bnd (IntKind.wrap .i64 (x1 - 1)) fun x2 =>
  bno (quoI .i64 x2 2) fun x3 =>
  slices_heapSortOrdered_int_h_L0 a0 x1 fuel a2 x3

def slices_nextPowerOfTwo (a0 : Int) : Option Int :=
  bnd (IntKind.wrap .u64 a0) fun x1 =>
  bno (math_bits_Len x1) fun x2 =>
  bno (shlI .u64 1 x2) fun x3 =>
  some x3

def slices_xorshift_Next_h (a0 : Int) : Option (Int × Int) :=
  bno (shlI .u64 a0 13) fun x1 =>
  bnd (xorI .u64 a0 x1) fun x2 =>
  bno (shrI .u64 x2 7) fun x3 =>
  bnd (xorI .u64 x2 x3) fun x4 =>
  bno (shlI .u64 x4 17) fun x5 =>
  bnd (xorI .u64 x4 x5) fun x6 =>
  some (x6, x6)

def slices_breakPatternsOrdered_int_h_J1 (a0 : Int) (v40 : (List Int)) (v41 : Int) (kk0 : (List Int) → Int → Int → Option (List Int)) (x79 : (Int × Int)) (v86 : Int) : Option (List Int) :=
  bnd (IntKind.wrap .i64 (a0 + v86)) fun x87 =>
  bnd (IntKind.wrap .i64 (a0 + v86)) fun x88 =>
  bno (gix v40 x88) fun x89 =>
  bno (v40[(x88 : Int).toNat]?) fun x90 =>
  bno (gix v40 v41) fun x91 =>
  bno (v40[(v41 : Int).toNat]?) fun x92 =>
  bno (gix v40 v41) fun x93 =>
  bno (v40[(v41 : Int).toNat]?) fun x94 =>
  bnd (v40.set ((v41 : Int).toNat) x90) fun x95 =>
  bno (gix x95 x87) fun x96 =>
  bno (x95[(x87 : Int).toNat]?) fun x97 =>
  bnd (x95.set ((x87 : Int).toNat) x92) fun x98 =>
  bnd (IntKind.wrap .i64 (v41 + 1)) fun x99 =>
  kk0 x98 x99 x79.2
def slices_breakPatternsOrdered_int_h_L0 (a0 : Int) (x1 : Int) (x5 : Int) : Nat → (List Int) → Int → Int → Option (List Int)
  | 0, _, _, _ => none
  | n0 + 1, v40, v41, v42 =>
    bno (quoI .i64 x1 4) fun x73 =>
    bnd (IntKind.wrap .i64 (x73 * 2)) fun x74 =>
    bnd (IntKind.wrap .i64 (a0 + x74)) fun x75 =>
    bnd (IntKind.wrap .i64 (x75 + 1)) fun x76 =>
    bnd (decide (v41 ≤ x76)) fun x77 =>
    bif x77 then (
      bno (slices_xorshift_Next_h v42) fun x79 =>
      bnd (IntKind.wrap .u64 (x5 - 1)) fun x80 =>
      bnd (andI .u64 x79.1 x80) fun x81 =>
      bnd (IntKind.wrap .i64 x81) fun x82 =>
      bnd (decide (x1 ≤ x82)) fun x100 =>
      bif x100 then (
        bnd (IntKind.wrap .i64 (x82 - x1)) fun x102 =>
        slices_breakPatternsOrdered_int_h_J1 a0 v40 v41 (slices_breakPatternsOrdered_int_h_L0 a0 x1 x5 n0) x79 x102
      ) else (
        slices_breakPatternsOrdered_int_h_J1 a0 v40 v41 (slices_breakPatternsOrdered_int_h_L0 a0 x1 x5 n0) x79 x82
      )
    ) else (
      some v40
    )
def slices_breakPatternsOrdered_int_h (a0 : Int) (a1 : Int) (a2 : (List Int)) : Option (List Int) :=
  bnd (IntKind.wrap .i64 (a1 - a0)) fun x1 =>
  bnd (decide (8 ≤ x1)) fun x2 =>
  bif x2 then (
    bnd (IntKind.wrap .u64 x1) fun x4 =>
    bno (slices_nextPowerOfTwo x1) fun x5 =>
    bno (quoI .i64 x1 4) fun x6 =>
    bnd (IntKind.wrap .i64 (x6 * 2)) fun x7 =>
    bnd (IntKind.wrap .i64 (a0 + x7)) fun x8 =>
    bnd (IntKind.wrap .i64 (x8 - 1)) fun x9 =>
    slices_breakPatternsOrdered_int_h_L0 a0 x1 x5 fuel a2 x9 x4
  ) else (
    some a2
  )

def slices_order2Ordered_int_h (a0 : (List Int)) (a1 : Int) (a2 : Int) (a3 : Int) : Option (Int × Int × Int) :=
  bno (gix a0 a2) fun x1 =>
  bno (gix a0 a1) fun x2 =>
  bno (cmp_Less_int x1 x2) fun x3 =>
  bif x3 then (
    bnd (IntKind.wrap .i64 (a3 + 1)) fun x5 =>
    some (a2, a1, x5)
  ) else (
    some (a1, a2, a3)
  )

def slices_medianOrdered_int_h (a0 : (List Int)) (a1 : Int) (a2 : Int) (a3 : Int) (a4 : Int) : Option (Int × Int) :=
  bno (slices_order2Ordered_int_h a0 a1 a2 a4) fun x1 =>
  bno (slices_order2Ordered_int_h a0 x1.2.1 a3 x1.2.2) fun x2 =>
  bno (slices_order2Ordered_int_h a0 x1.1 x2.1 x2.2.2) fun x3 =>
  some (x3.2.1, x3.2.2)

def slices_medianAdjacentOrdered_int_h (a0 : (List Int)) (a1 : Int) (a2 : Int) : Option (Int × Int) :=
  bnd (IntKind.wrap .i64 (a1 - 1)) fun x1 =>
  bnd (IntKind.wrap .i64 (a1 + 1)) fun x2 =>
  bno (slices_medianOrdered_int_h a0 x1 a1 x2 a2) fun x3 =>
  some (x3.1, x3.2)

def slices_choosePivotOrdered_int_J1 (v28 : Int) (v29 : Int) : Option (Int × Int) :=
  bnd (decide (v29 = 0)) fun x30 =>
  bif x30 then (
    some (v28, 1)
  ) else (
    bnd (decide (v29 = 12)) fun x32 =>
    bif x32 then (
      some (v28, 2)
    ) else (
      some (v28, 0)
    )
  )
def slices_choosePivotOrdered_int_J2 (a0 : (List Int)) (v41 : Int) (v42 : Int) (v43 : Int) (v44 : Int) : Option (Int × Int) :=
  bno (slices_medianOrdered_int_h a0 v41 v42 v43 v44) fun x45 =>
  slices_choosePivotOrdered_int_J1 x45.1 x45.2
def slices_choosePivotOrdered_int (a0 : (List Int)) (a1 : Int) (a2 : Int) : Option (Int × Int) :=
  bnd (IntKind.wrap .i64 (a2 - a1)) fun x1 =>
  bno (quoI .i64 x1 4) fun x2 =>
  bnd (IntKind.wrap .i64 (x2 * 1)) fun x3 =>
  bnd (IntKind.wrap .i64 (a1 + x3)) fun x4 =>
  bno (quoI .i64 x1 4) fun x5 =>
  bnd (IntKind.wrap .i64 (x5 * 2)) fun x6 =>
  bnd (IntKind.wrap .i64 (a1 + x6)) fun x7 =>
  bno (quoI .i64 x1 4) fun x8 =>
  bnd (IntKind.wrap .i64 (x8 * 3)) fun x9 =>
  bnd (IntKind.wrap .i64 (a1 + x9)) fun x10 =>
  bnd (decide (8 ≤ x1)) fun x34 =>
  bif x34 then (
    bnd (decide (50 ≤ x1)) fun x46 =>
    bif x46 then (
      bno (slices_medianAdjacentOrdered_int_h a0 x4 0) fun x48 =>
      bno (slices_medianAdjacentOrdered_int_h a0 x7 x48.2) fun x49 =>
      bno (slices_medianAdjacentOrdered_int_h a0 x10 x49.2) fun x50 =>
      slices_choosePivotOrdered_int_J2 a0 x48.1 x49.1 x50.1 x50.2
    ) else (
      slices_choosePivotOrdered_int_J2 a0 x4 x7 x10 0
    )
  ) else (
    slices_choosePivotOrdered_int_J1 x7 0
  )

def slices_reverseRangeOrdered_int_h_L0  : Nat → (List Int) → Int → Int → Option (List Int)
  | 0, _, _, _ => none
  | n0 + 1, v16, v17, v18 =>
    bnd (decide (v17 < v18)) fun x33 =>
    bif x33 then (
      bno (gix v16 v18) fun x35 =>
      bno (v16[(v18 : Int).toNat]?) fun x36 =>
      bno (gix v16 v17) fun x37 =>
      bno (v16[(v17 : Int).toNat]?) fun x38 =>
      bno (gix v16 v17) fun x39 =>
      bno (v16[(v17 : Int).toNat]?) fun x40 =>
      bnd (v16.set ((v17 : Int).toNat) x36) fun x41 =>
      bno (gix x41 v18) fun x42 =>
      bno (x41[(v18 : Int).toNat]?) fun x43 =>
      bnd (x41.set ((v18 : Int).toNat) x38) fun x44 =>
      bnd (IntKind.wrap .i64 (v17 + 1)) fun x45 =>
      bnd (IntKind.wrap .i64 (v18 - 1)) fun x46 =>
      (slices_reverseRangeOrdered_int_h_L0 n0) x44 x45 x46
    ) else (
      some v16
    )
def slices_reverseRangeOrdered_int_h (a0 : Int) (a1 : Int) (a2 : (List Int)) : Option (List Int) :=
  bnd (IntKind.wrap .i64 (a1 - 1)) fun x1 =>
  slices_reverseRangeOrdered_int_h_L0 fuel a2 a0 x1

def slices_partialInsertionSortOrdered_int_h_L4 (a1 : Int) (v274 : Int) (kk0 : (List Int) → Int → Int → Option (Bool × (List Int))) (v557 : Int) : Nat → (List Int) → Int → Option (Bool × (List Int))
  | 0, _, _ => none
  | n4 + 1, v694, v695 =>
    bnd (decide (v695 < a1)) fun x718 =>
    bif x718 then (
      bno (gix v694 v695) fun x720 =>
      bno (v694[(v695 : Int).toNat]?) fun x721 =>
      bnd (IntKind.wrap .i64 (v695 - 1)) fun x722 =>
      bno (gix v694 x722) fun x723 =>
      bno (v694[(x722 : Int).toNat]?) fun x724 =>
      bno (cmp_Less_int x721 x724) fun x725 =>
      bif (!x725) then (
        bnd (IntKind.wrap .i64 (v274 + 1)) fun x727 =>
        kk0 v694 v557 x727
      ) else (
        bnd (IntKind.wrap .i64 (v695 - 1)) fun x728 =>
        bnd (IntKind.wrap .i64 (v695 - 1)) fun x729 =>
        bno (gix v694 x729) fun x730 =>
        bno (v694[(x729 : Int).toNat]?) fun x731 =>
        bno (gix v694 v695) fun x732 =>
        bno (v694[(v695 : Int).toNat]?) fun x733 =>
        bno (gix v694 v695) fun x734 =>
        bno (v694[(v695 : Int).toNat]?) fun x735 =>
        bnd (v694.set ((v695 : Int).toNat) x731) fun x736 =>
        bno (gix x736 x728) fun x737 =>
        bno (x736[(x728 : Int).toNat]?) fun x738 =>
        bnd (x736.set ((x728 : Int).toNat) x733) fun x739 =>
        bnd (IntKind.wrap .i64 (v695 + 1)) fun x740 =>
        (slices_partialInsertionSortOrdered_int_h_L4 a1 v274 kk0 v557 n4) x739 x740
      )
    ) else (
      bnd (IntKind.wrap .i64 (v274 + 1)) fun x741 =>
      kk0 v694 v557 x741
    )
def slices_partialInsertionSortOrdered_int_h_J3 (a1 : Int) (v274 : Int) (kk0 : (List Int) → Int → Int → Option (Bool × (List Int))) (v557 : Int) (v667 : (List Int)) : Option (Bool × (List Int)) :=
  bnd (IntKind.wrap .i64 (a1 - v557)) fun x668 =>
  bnd (decide (2 ≤ x668)) fun x669 =>
  bif x669 then (
    bnd (IntKind.wrap .i64 (v557 + 1)) fun x671 =>
    slices_partialInsertionSortOrdered_int_h_L4 a1 v274 kk0 v557 fuel v667 x671
  ) else (
    bnd (IntKind.wrap .i64 (v274 + 1)) fun x742 =>
    kk0 v667 v557 x742
  )
def slices_partialInsertionSortOrdered_int_h_L5 (a1 : Int) (v274 : Int) (kk0 : (List Int) → Int → Int → Option (Bool × (List Int))) (v557 : Int) : Nat → (List Int) → Int → Option (Bool × (List Int))
  | 0, _, _ => none
  | n5 + 1, v769, v770 =>
    bnd (decide (1 ≤ v770)) fun x793 =>
    bif x793 then (
      bno (gix v769 v770) fun x795 =>
      bno (v769[(v770 : Int).toNat]?) fun x796 =>
      bnd (IntKind.wrap .i64 (v770 - 1)) fun x797 =>
      bno (gix v769 x797) fun x798 =>
      bno (v769[(x797 : Int).toNat]?) fun x799 =>
      bno (cmp_Less_int x796 x799) fun x800 =>
      bif (!x800) then (
        slices_partialInsertionSortOrdered_int_h_J3 a1 v274 kk0 v557 v769
      ) else (
        bnd (IntKind.wrap .i64 (v770 - 1)) fun x802 =>
        bnd (IntKind.wrap .i64 (v770 - 1)) fun x803 =>
        bno (gix v769 x803) fun x804 =>
        bno (v769[(x803 : Int).toNat]?) fun x805 =>
        bno (gix v769 v770) fun x806 =>
        bno (v769[(v770 : Int).toNat]?) fun x807 =>
        bno (gix v769 v770) fun x808 =>
        bno (v769[(v770 : Int).toNat]?) fun x809 =>
        bnd (v769.set ((v770 : Int).toNat) x805) fun x810 =>
        bno (gix x810 x802) fun x811 =>
        bno (x810[(x802 : Int).toNat]?) fun x812 =>
        bnd (x810.set ((x802 : Int).toNat) x807) fun x813 =>
        bnd (IntKind.wrap .i64 (v770 - 1)) fun x814 =>
        (slices_partialInsertionSortOrdered_int_h_L5 a1 v274 kk0 v557 n5) x813 x814
      )
    ) else (
      slices_partialInsertionSortOrdered_int_h_J3 a1 v274 kk0 v557 v769
    )
def slices_partialInsertionSortOrdered_int_h_L1 (a0 : Int) (a1 : Int) (v272 : (List Int)) (v274 : Int) (kk0 : (List Int) → Int → Int → Option (Bool × (List Int))) : Nat → Int → Option (Bool × (List Int))
  | 0, _ => none
  | n1 + 1, v557 =>
    bnd (decide (v557 < a1)) fun x568 =>
    bno (gd (x568 == true) (gix v272 v557) default) fun x569 =>
    bno (gd (x568 == true) (v272[(v557 : Int).toNat]?) default) fun x570 =>
    bnd (IntKind.wrap .i64 (v557 - 1)) fun x571 =>
    bno (gd (x568 == true) (gix v272 x571) default) fun x572 =>
    bno (gd (x568 == true) (v272[(x571 : Int).toNat]?) default) fun x573 =>
    bno (gd (x568 == true) (cmp_Less_int x570 x573) default) fun x574 =>
    bnd (x568 && (!x574)) fun x575 =>
    bif x575 then (
      bnd (IntKind.wrap .i64 (v557 + 1)) fun x577 =>
      (slices_partialInsertionSortOrdered_int_h_L1 a0 a1 v272 v274 kk0 n1) x577
    ) else (
      bnd (decide (v557 = a1)) fun x578 =>
      bif x578 then (
        some (true, v272)
      ) else (
        bnd (IntKind.wrap .i64 (a1 - a0)) fun x580 =>
        bnd (decide (x580 < 50)) fun x581 =>
        bif x581 then (
          some (false, v272)
        ) else (
          bnd (IntKind.wrap .i64 (v557 - 1)) fun x583 =>
          bnd (IntKind.wrap .i64 (v557 - 1)) fun x584 =>
          bno (gix v272 x584) fun x585 =>
          bno (v272[(x584 : Int).toNat]?) fun x586 =>
          bno (gix v272 v557) fun x587 =>
          bno (v272[(v557 : Int).toNat]?) fun x588 =>
          bno (gix v272 v557) fun x589 =>
          bno (v272[(v557 : Int).toNat]?) fun x590 =>
          bnd (v272.set ((v557 : Int).toNat) x586) fun x591 =>
          bno (gix x591 x583) fun x592 =>
          bno (x591[(x583 : Int).toNat]?) fun x593 =>
          bnd (x591.set ((x583 : Int).toNat) x588) fun x594 =>
          bnd (IntKind.wrap .i64 (v557 - a0)) fun x743 =>
          bnd (decide (2 ≤ x743)) fun x744 =>
          bif x744 then (
            bnd (IntKind.wrap .i64 (v557 - 1)) fun x746 =>
            slices_partialInsertionSortOrdered_int_h_L5 a1 v274 kk0 v557 fuel x594 x746
          ) else (
            slices_partialInsertionSortOrdered_int_h_J3 a1 v274 kk0 v557 x594
          )
        )
      )
    )
def slices_partialInsertionSortOrdered_int_h_L0 (a0 : Int) (a1 : Int) : Nat → (List Int) → Int → Int → Option (Bool × (List Int))
  | 0, _, _, _ => none
  | n0 + 1, v272, v273, v274 =>
    bnd (decide (v274 < 5)) fun x545 =>
    bif x545 then (
      slices_partialInsertionSortOrdered_int_h_L1 a0 a1 v272 v274 (slices_partialInsertionSortOrdered_int_h_L0 a0 a1 n0) fuel v273
    ) else (
      some (false, v272)
    )
def slices_partialInsertionSortOrdered_int_h (a0 : Int) (a1 : Int) (a2 : (List Int)) : Option (Bool × (List Int)) :=
  bnd (IntKind.wrap .i64 (a0 + 1)) fun x1 =>
  slices_partialInsertionSortOrdered_int_h_L0 a0 a1 fuel a2 x1 0

def slices_partitionEqualOrdered_int_h_L2 (a0 : Int) (v83 : (List Int)) (kk0 : (List Int) → Int → Int → Option (Int × (List Int))) (v165 : Int) : Nat → Int → Option (Int × (List Int))
  | 0, _ => none
  | n2 + 1, v193 =>
    bnd (decide (v165 ≤ v193)) fun x203 =>
    bno (gd (x203 == true) (gix v83 a0) default) fun x204 =>
    bno (gd (x203 == true) (v83[(a0 : Int).toNat]?) default) fun x205 =>
    bno (gd (x203 == true) (gix v83 v193) default) fun x206 =>
    bno (gd (x203 == true) (v83[(v193 : Int).toNat]?) default) fun x207 =>
    bno (gd (x203 == true) (cmp_Less_int x205 x207) default) fun x208 =>
    bnd (x203 && x208) fun x209 =>
    bif x209 then (
      bnd (IntKind.wrap .i64 (v193 - 1)) fun x211 =>
      (slices_partitionEqualOrdered_int_h_L2 a0 v83 kk0 v165 n2) x211
    ) else (
      bnd (decide (v193 < v165)) fun x212 =>
      bif x212 then (
        some (v165, v83)
      ) else (
        bno (gix v83 v193) fun x214 =>
        bno (v83[(v193 : Int).toNat]?) fun x215 =>
        bno (gix v83 v165) fun x216 =>
        bno (v83[(v165 : Int).toNat]?) fun x217 =>
        bno (gix v83 v165) fun x218 =>
        bno (v83[(v165 : Int).toNat]?) fun x219 =>
        bnd (v83.set ((v165 : Int).toNat) x215) fun x220 =>
        bno (gix x220 v193) fun x221 =>
        bno (x220[(v193 : Int).toNat]?) fun x222 =>
        bnd (x220.set ((v193 : Int).toNat) x217) fun x223 =>
        bnd (IntKind.wrap .i64 (v165 + 1)) fun x224 =>
        bnd (IntKind.wrap .i64 (v193 - 1)) fun x225 =>
        kk0 x223 x224 x225
      )
    )
def slices_partitionEqualOrdered_int_h_L1 (a0 : Int) (v83 : (List Int)) (v85 : Int) (kk0 : (List Int) → Int → Int → Option (Int × (List Int))) : Nat → Int → Option (Int × (List Int))
  | 0, _ => none
  | n1 + 1, v165 =>
    bnd (decide (v165 ≤ v85)) fun x175 =>
    bno (gd (x175 == true) (gix v83 a0) default) fun x176 =>
    bno (gd (x175 == true) (v83[(a0 : Int).toNat]?) default) fun x177 =>
    bno (gd (x175 == true) (gix v83 v165) default) fun x178 =>
    bno (gd (x175 == true) (v83[(v165 : Int).toNat]?) default) fun x179 =>
    bno (gd (x175 == true) (cmp_Less_int x177 x179) default) fun x180 =>
    bnd (x175 && (!x180)) fun x181 =>
    bif x181 then (
      bnd (IntKind.wrap .i64 (v165 + 1)) fun x183 =>
      (slices_partitionEqualOrdered_int_h_L1 a0 v83 v85 kk0 n1) x183
    ) else (
      slices_partitionEqualOrdered_int_h_L2 a0 v83 kk0 v165 fuel v85
    )
def slices_partitionEqualOrdered_int_h_L0 (a0 : Int) : Nat → (List Int) → Int → Int → Option (Int × (List Int))
  | 0, _, _, _ => none
  | n0 + 1, v83, v84, v85 =>
    slices_partitionEqualOrdered_int_h_L1 a0 v83 v85 (slices_partitionEqualOrdered_int_h_L0 a0 n0) fuel v84
def slices_partitionEqualOrdered_int_h (a0 : Int) (a1 : Int) (a2 : Int) (a3 : (List Int)) : Option (Int × (List Int)) :=
  bno (gix a3 a2) fun x1 =>
  bno (a3[(a2 : Int).toNat]?) fun x2 =>
  bno (gix a3 a0) fun x3 =>
  bno (a3[(a0 : Int).toNat]?) fun x4 =>
  bno (gix a3 a0) fun x5 =>
  bno (a3[(a0 : Int).toNat]?) fun x6 =>
  bnd (a3.set ((a0 : Int).toNat) x2) fun x7 =>
  bno (gix x7 a2) fun x8 =>
  bno (x7[(a2 : Int).toNat]?) fun x9 =>
  bnd (x7.set ((a2 : Int).toNat) x4) fun x10 =>
  bnd (IntKind.wrap .i64 (a0 + 1)) fun x11 =>
  bnd (IntKind.wrap .i64 (a1 - 1)) fun x12 =>
  slices_partitionEqualOrdered_int_h_L0 a0 fuel x10 x11 x12

def slices_partitionOrdered_int_h_L4 (a0 : Int) (v163 : (List Int)) (kk2 : (List Int) → Int → Int → Option (Int × Bool × (List Int))) (v245 : Int) : Nat → Int → Option (Int × Bool × (List Int))
  | 0, _ => none
  | n4 + 1, v273 =>
    bnd (decide (v245 ≤ v273)) fun x283 =>
    bno (gd (x283 == true) (gix v163 v273) default) fun x284 =>
    bno (gd (x283 == true) (v163[(v273 : Int).toNat]?) default) fun x285 =>
    bno (gd (x283 == true) (gix v163 a0) default) fun x286 =>
    bno (gd (x283 == true) (v163[(a0 : Int).toNat]?) default) fun x287 =>
    bno (gd (x283 == true) (cmp_Less_int x285 x287) default) fun x288 =>
    bnd (x283 && (!x288)) fun x289 =>
    bif x289 then (
      bnd (IntKind.wrap .i64 (v273 - 1)) fun x291 =>
      (slices_partitionOrdered_int_h_L4 a0 v163 kk2 v245 n4) x291
    ) else (
      bnd (decide (v273 < v245)) fun x292 =>
      bif x292 then (
        bno (gix v163 a0) fun x294 =>
        bno (v163[(a0 : Int).toNat]?) fun x295 =>
        bno (gix v163 v273) fun x296 =>
        bno (v163[(v273 : Int).toNat]?) fun x297 =>
        bno (gix v163 v273) fun x298 =>
        bno (v163[(v273 : Int).toNat]?) fun x299 =>
        bnd (v163.set ((v273 : Int).toNat) x295) fun x300 =>
        bno (gix x300 a0) fun x301 =>
        bno (x300[(a0 : Int).toNat]?) fun x302 =>
        bnd (x300.set ((a0 : Int).toNat) x297) fun x303 =>
        some (v273, false, x303)
      ) else (
        bno (gix v163 v273) fun x304 =>
        bno (v163[(v273 : Int).toNat]?) fun x305 =>
        bno (gix v163 v245) fun x306 =>
        bno (v163[(v245 : Int).toNat]?) fun x307 =>
        bno (gix v163 v245) fun x308 =>
        bno (v163[(v245 : Int).toNat]?) fun x309 =>
        bnd (v163.set ((v245 : Int).toNat) x305) fun x310 =>
        bno (gix x310 v273) fun x311 =>
        bno (x310[(v273 : Int).toNat]?) fun x312 =>
        bnd (x310.set ((v273 : Int).toNat) x307) fun x313 =>
        bnd (IntKind.wrap .i64 (v245 + 1)) fun x314 =>
        bnd (IntKind.wrap .i64 (v273 - 1)) fun x315 =>
        kk2 x313 x314 x315
      )
    )
def slices_partitionOrdered_int_h_L3 (a0 : Int) (v163 : (List Int)) (v165 : Int) (kk2 : (List Int) → Int → Int → Option (Int × Bool × (List Int))) : Nat → Int → Option (Int × Bool × (List Int))
  | 0, _ => none
  | n3 + 1, v245 =>
    bnd (decide (v245 ≤ v165)) fun x255 =>
    bno (gd (x255 == true) (gix v163 v245) default) fun x256 =>
    bno (gd (x255 == true) (v163[(v245 : Int).toNat]?) default) fun x257 =>
    bno (gd (x255 == true) (gix v163 a0) default) fun x258 =>
    bno (gd (x255 == true) (v163[(a0 : Int).toNat]?) default) fun x259 =>
    bno (gd (x255 == true) (cmp_Less_int x257 x259) default) fun x260 =>
    bnd (x255 && x260) fun x261 =>
    bif x261 then (
      bnd (IntKind.wrap .i64 (v245 + 1)) fun x263 =>
      (slices_partitionOrdered_int_h_L3 a0 v163 v165 kk2 n3) x263
    ) else (
      slices_partitionOrdered_int_h_L4 a0 v163 kk2 v245 fuel v165
    )
def slices_partitionOrdered_int_h_L2 (a0 : Int) : Nat → (List Int) → Int → Int → Option (Int × Bool × (List Int))
  | 0, _, _, _ => none
  | n2 + 1, v163, v164, v165 =>
    slices_partitionOrdered_int_h_L3 a0 v163 v165 (slices_partitionOrdered_int_h_L2 a0 n2) fuel v164
def slices_partitionOrdered_int_h_L1 (a0 : Int) (x10 : (List Int)) (v22 : Int) : Nat → Int → Option (Int × Bool × (List Int))
  | 0, _ => none
  | n1 + 1, v50 =>
    bnd (decide (v22 ≤ v50)) fun x60 =>
    bno (gd (x60 == true) (gix x10 v50) default) fun x61 =>
    bno (gd (x60 == true) (x10[(v50 : Int).toNat]?) default) fun x62 =>
    bno (gd (x60 == true) (gix x10 a0) default) fun x63 =>
    bno (gd (x60 == true) (x10[(a0 : Int).toNat]?) default) fun x64 =>
    bno (gd (x60 == true) (cmp_Less_int x62 x64) default) fun x65 =>
    bnd (x60 && (!x65)) fun x66 =>
    bif x66 then (
      bnd (IntKind.wrap .i64 (v50 - 1)) fun x68 =>
      (slices_partitionOrdered_int_h_L1 a0 x10 v22 n1) x68
    ) else (
      bnd (decide (v50 < v22)) fun x69 =>
      bif x69 then (
        bno (gix x10 a0) fun x71 =>
        bno (x10[(a0 : Int).toNat]?) fun x72 =>
        bno (gix x10 v50) fun x73 =>
        bno (x10[(v50 : Int).toNat]?) fun x74 =>
        bno (gix x10 v50) fun x75 =>
        bno (x10[(v50 : Int).toNat]?) fun x76 =>
        bnd (x10.set ((v50 : Int).toNat) x72) fun x77 =>
        bno (gix x77 a0) fun x78 =>
        bno (x77[(a0 : Int).toNat]?) fun x79 =>
        bnd (x77.set ((a0 : Int).toNat) x74) fun x80 =>
        some (v50, true, x80)
      ) else (
        bno (gix x10 v50) fun x81 =>
        bno (x10[(v50 : Int).toNat]?) fun x82 =>
        bno (gix x10 v22) fun x83 =>
        bno (x10[(v22 : Int).toNat]?) fun x84 =>
        bno (gix x10 v22) fun x85 =>
        bno (x10[(v22 : Int).toNat]?) fun x86 =>
        bnd (x10.set ((v22 : Int).toNat) x82) fun x87 =>
        bno (gix x87 v50) fun x88 =>
        bno (x87[(v50 : Int).toNat]?) fun x89 =>
        bnd (x87.set ((v50 : Int).toNat) x84) fun x90 =>
        bnd (IntKind.wrap .i64 (v22 + 1)) fun x91 =>
        bnd (IntKind.wrap .i64 (v50 - 1)) fun x92 =>
        slices_partitionOrdered_int_h_L2 a0 fuel x90 x91 x92
      )
    )
def slices_partitionOrdered_int_h_L0 (a0 : Int) (x10 : (List Int)) (x12 : Int) : Nat → Int → Option (Int × Bool × (List Int))
  | 0, _ => none
  | n0 + 1, v22 =>
    bnd (decide (v22 ≤ x12)) fun x32 =>
    bno (gd (x32 == true) (gix x10 v22) default) fun x33 =>
    bno (gd (x32 == true) (x10[(v22 : Int).toNat]?) default) fun x34 =>
    bno (gd (x32 == true) (gix x10 a0) default) fun x35 =>
    bno (gd (x32 == true) (x10[(a0 : Int).toNat]?) default) fun x36 =>
    bno (gd (x32 == true) (cmp_Less_int x34 x36) default) fun x37 =>
    bnd (x32 && x37) fun x38 =>
    bif x38 then (
      bnd (IntKind.wrap .i64 (v22 + 1)) fun x40 =>
      (slices_partitionOrdered_int_h_L0 a0 x10 x12 n0) x40
    ) else (
      slices_partitionOrdered_int_h_L1 a0 x10 v22 fuel x12
    )
def slices_partitionOrdered_int_h (a0 : Int) (a1 : Int) (a2 : Int) (a3 : (List Int)) : Option (Int × Bool × (List Int)) :=
  bno (gix a3 a2) fun x1 =>
  bno (a3[(a2 : Int).toNat]?) fun x2 =>
  bno (gix a3 a0) fun x3 =>
  bno (a3[(a0 : Int).toNat]?) fun x4 =>
  bno (gix a3 a0) fun x5 =>
  bno (a3[(a0 : Int).toNat]?) fun x6 =>
  bnd (a3.set ((a0 : Int).toNat) x2) fun x7 =>
  bno (gix x7 a2) fun x8 =>
  bno (x7[(a2 : Int).toNat]?) fun x9 =>
  bnd (x7.set ((a2 : Int).toNat) x4) fun x10 =>
  bnd (IntKind.wrap .i64 (a0 + 1)) fun x11 =>
  bnd (IntKind.wrap .i64 (a1 - 1)) fun x12 =>
  slices_partitionOrdered_int_h_L0 a0 x10 x12 fuel x11

def slices_pdqsortOrdered_int_h_J3 (rec0 : Int → Int → Int → (List Int) → Option (List Int)) (v80 : Int) (v81 : Int) (v83 : Bool) (v84 : Bool) (kk0 : (List Int) → Int → Int → Int → Bool → Bool → Option (List Int)) (x163 : Int) (v177 : Int) (v187 : Int) (v196 : (List Int)) : Option (List Int) :=
  bnd (decide (0 < v80)) fun x197 =>
  bnd (IntKind.wrap .i64 (v80 - 1)) fun x198 =>
  bno (gd (x197 == true) (gix v196 x198) default) fun x199 =>
  bno (gd (x197 == true) (v196[(x198 : Int).toNat]?) default) fun x200 =>
  bno (gd (x197 == true) (gix v196 v187) default) fun x201 =>
  bno (gd (x197 == true) (v196[(v187 : Int).toNat]?) default) fun x202 =>
  bno (gd (x197 == true) (cmp_Less_int x200 x202) default) fun x203 =>
  bnd (x197 && (!x203)) fun x204 =>
  bif x204 then (
    bno (slices_partitionEqualOrdered_int_h v80 v81 v187 v196) fun x206 =>
    chk (x206.2.length = v196.length) <|
    kk0 x206.2 x206.1 v81 v177 v83 v84
  ) else (
    bno (slices_partitionOrdered_int_h v80 v81 v187 v196) fun x208 =>
    chk (x208.2.2.length = v196.length) <|
    bnd (IntKind.wrap .i64 (x208.1 - v80)) fun x210 =>
    bnd (IntKind.wrap .i64 (v81 - x208.1)) fun x211 =>
    bno (quoI .i64 x163 8) fun x212 =>
    bnd (decide (x210 < x211)) fun x213 =>
    bif x213 then (
      bnd (decide (x212 ≤ x210)) fun x215 =>
      bno (rec0 v80 x208.1 v177 x208.2.2) fun x216 =>
      chk (x216.length = v196.length) <|
      bnd (IntKind.wrap .i64 (x208.1 + 1)) fun x218 =>
      kk0 x216 x218 v81 v177 x215 x208.2.1
    ) else (
      bnd (decide (x212 ≤ x211)) fun x219 =>
      bnd (IntKind.wrap .i64 (x208.1 + 1)) fun x220 =>
      bno (rec0 x220 v81 v177 x208.2.2) fun x221 =>
      chk (x221.length = v196.length) <|
      kk0 x221 v80 x208.1 v177 x219 x208.2.1
    )
  )
def slices_pdqsortOrdered_int_h_J2 (rec0 : Int → Int → Int → (List Int) → Option (List Int)) (v80 : Int) (v81 : Int) (v83 : Bool) (v84 : Bool) (kk0 : (List Int) → Int → Int → Int → Bool → Bool → Option (List Int)) (x163 : Int) (v177 : Int) (v186 : (List Int)) (v187 : Int) (v188 : Int) : Option (List Int) :=
  bnd (v83 && v84) fun x223 =>
  bnd (decide (v188 = 1)) fun x224 =>
  bnd (x223 && x224) fun x225 =>
  bif x225 then (
    bno (slices_partialInsertionSortOrdered_int_h v80 v81 v186) fun x227 =>
    chk (x227.2.length = v186.length) <|
    bif x227.1 then (
      some x227.2
    ) else (
      slices_pdqsortOrdered_int_h_J3 rec0 v80 v81 v83 v84 kk0 x163 v177 v187 x227.2
    )
  ) else (
    slices_pdqsortOrdered_int_h_J3 rec0 v80 v81 v83 v84 kk0 x163 v177 v187 v186
  )
def slices_pdqsortOrdered_int_h_J1 (rec0 : Int → Int → Int → (List Int) → Option (List Int)) (v80 : Int) (v81 : Int) (v83 : Bool) (v84 : Bool) (kk0 : (List Int) → Int → Int → Int → Bool → Bool → Option (List Int)) (x163 : Int) (v176 : (List Int)) (v177 : Int) : Option (List Int) :=
  bno (slices_choosePivotOrdered_int v176 v80 v81) fun x178 =>
  bnd (decide (x178.2 = 2)) fun x230 =>
  bif x230 then (
    bno (slices_reverseRangeOrdered_int_h v80 v81 v176) fun x232 =>
    chk (x232.length = v176.length) <|
    bnd (IntKind.wrap .i64 (v81 - 1)) fun x234 =>
    bnd (IntKind.wrap .i64 (x178.1 - v80)) fun x235 =>
    bnd (IntKind.wrap .i64 (x234 - x235)) fun x236 =>
    slices_pdqsortOrdered_int_h_J2 rec0 v80 v81 v83 v84 kk0 x163 v177 x232 x236 1
  ) else (
    slices_pdqsortOrdered_int_h_J2 rec0 v80 v81 v83 v84 kk0 x163 v177 v176 x178.1 x178.2
  )
def slices_pdqsortOrdered_int_h_L0 (rec0 : Int → Int → Int → (List Int) → Option (List Int)) : Nat → (List Int) → Int → Int → Int → Bool → Bool → Option (List Int)
  | 0, _, _, _, _, _, _ => none
  | n0 + 1, v79, v80, v81, v82, v83, v84 =>
    bnd (IntKind.wrap .i64 (v81 - v80)) fun x163 =>
    bnd (decide (x163 ≤ 12)) fun x164 =>
    bif x164 then (
      bno (slices_insertionSortOrdered_int_h v80 v81 v79) fun x166 =>
      chk (x166.length = v79.length) <|
      some x166
    ) else (
      bnd (decide (v82 = 0)) fun x168 =>
      bif x168 then (
        bno (slices_heapSortOrdered_int_h v80 v81 v79) fun x170 =>
        chk (x170.length = v79.length) <|
        some x170
      ) else (
        bif (!v83) then (
          bno (slices_breakPatternsOrdered_int_h v80 v81 v79) fun x238 =>
          chk (x238.length = v79.length) <|
          bnd (IntKind.wrap .i64 (v82 - 1)) fun x240 =>
          slices_pdqsortOrdered_int_h_J1 rec0 v80 v81 v83 v84 (slices_pdqsortOrdered_int_h_L0 rec0 n0) x163 x238 x240
        ) else (
          slices_pdqsortOrdered_int_h_J1 rec0 v80 v81 v83 v84 (slices_pdqsortOrdered_int_h_L0 rec0 n0) x163 v79 v82
        )
      )
    )
def slices_pdqsortOrdered_int_h_B (rec0 : Int → Int → Int → (List Int) → Option (List Int)) (a0 : Int) (a1 : Int) (a2 : Int) (a3 : (List Int)) : Option (List Int) :=
  slices_pdqsortOrdered_int_h_L0 rec0 fuel a3 a0 a1 a2 true true
def slices_pdqsortOrdered_int_h : Nat → Int → Int → Int → (List Int) → Option (List Int)
  | 0, _, _, _, _ => none
  | nr + 1, a0, a1, a2, a3 => slices_pdqsortOrdered_int_h_B (slices_pdqsortOrdered_int_h nr) a0 a1 a2 a3

def slices_Sort_int_int_h (a0 : (List Int)) : Option (List Int) :=
  bnd (IntKind.wrap .u64 (a0.length : Int)) fun x1 =>
  bno (math_bits_Len x1) fun x2 =>
  bno (slices_pdqsortOrdered_int_h fuel 0 (a0.length : Int) x2 a0) fun x3 =>
  chk (x3.length = a0.length) <|
  some x3

def fold_Below (a0 : T_fold_State) (a1 : Int) : Option (List Int) :=
  bno (fold_Check a0) fun x1 =>
  bnd (!decide (x1 = 0)) fun x2 =>
  bnd (!decide (a1 = 0)) fun x3 =>
  bno (gd ((x2 == false) && (x3 == true)) (fold_State_there a0 a1) default) fun x4 =>
  bnd (x3 && (!x4)) fun x5 =>
  bnd (x2 || x5) fun x6 =>
  bif x6 then (
    some []
  ) else (
    bno (fold_Below_1_h a1 a0) fun x8 =>
    bno (slices_Sort_int_int_h x8) fun x9 =>
    chk (x9.length = x8.length) <|
    some x9
  )

def sennitref02_SameInts_L0 (a0 : (List Int)) (a1 : (List Int)) : Nat → Int → Option Bool
  | 0, _ => none
  | n0 + 1, v10 =>
    bnd (decide (v10 < (a0.length : Int))) fun x18 =>
    bif x18 then (
      bno (gix a0 v10) fun x20 =>
      bno (gix a1 v10) fun x21 =>
      bnd (!decide (x20 = x21)) fun x22 =>
      bif x22 then (
        some false
      ) else (
        bnd (IntKind.wrap .i64 (v10 + 1)) fun x24 =>
        (sennitref02_SameInts_L0 a0 a1 n0) x24
      )
    ) else (
      some true
    )
def sennitref02_SameInts (a0 : (List Int)) (a1 : (List Int)) : Option Bool :=
  bnd (!decide ((a0.length : Int) = (a1.length : Int))) fun x1 =>
  bif x1 then (
    some false
  ) else (
    sennitref02_SameInts_L0 a0 a1 fuel 0
  )

def fold_Sum (a0 : T_fold_State) (a1 : Int) : Option Int :=
  bno (fold_Check a0) fun x1 =>
  bnd (!decide (x1 = 0)) fun x2 =>
  bnd (!decide (a1 = 0)) fun x3 =>
  bno (gd ((x2 == false) && (x3 == true)) (fold_State_there a0 a1) default) fun x4 =>
  bnd (x3 && (!x4)) fun x5 =>
  bnd (x2 || x5) fun x6 =>
  bif x6 then (
    some 0
  ) else (
    bno (fold_State_sum a0 a1) fun x8 =>
    some x8
  )

def slices_Equal_ptree_Node_ptree_Node_L0 (a0 : (List T_ptree_Node)) (a1 : (List T_ptree_Node)) : Nat → Int → Option Bool
  | 0, _ => none
  | n0 + 1, v10 =>
    bnd (decide (v10 < (a0.length : Int))) fun x18 =>
    bif x18 then (
      bno (gix a0 v10) fun x20 =>
      bno (gix a1 v10) fun x21 =>
      bnd ((decide (x20.ID = x21.ID) && (decide (x20.Parent = x21.Parent) && (decide (x20.Weight = x21.Weight) && ((x20.Closed == x21.Closed) && true))))) fun x22 =>
      bif (!x22) then (
        some false
      ) else (
        bnd (IntKind.wrap .i64 (v10 + 1)) fun x24 =>
        (slices_Equal_ptree_Node_ptree_Node_L0 a0 a1 n0) x24
      )
    ) else (
      some true
    )
def slices_Equal_ptree_Node_ptree_Node (a0 : (List T_ptree_Node)) (a1 : (List T_ptree_Node)) : Option Bool :=
  bnd (!decide ((a0.length : Int) = (a1.length : Int))) fun x1 =>
  bif x1 then (
    some false
  ) else (
    slices_Equal_ptree_Node_ptree_Node_L0 a0 a1 fuel 0
  )

def slices_Equal_int_int_L0 (a0 : (List Int)) (a1 : (List Int)) : Nat → Int → Option Bool
  | 0, _ => none
  | n0 + 1, v10 =>
    bnd (decide (v10 < (a0.length : Int))) fun x18 =>
    bif x18 then (
      bno (gix a0 v10) fun x20 =>
      bno (gix a1 v10) fun x21 =>
      bnd (!decide (x20 = x21)) fun x22 =>
      bif x22 then (
        some false
      ) else (
        bnd (IntKind.wrap .i64 (v10 + 1)) fun x24 =>
        (slices_Equal_int_int_L0 a0 a1 n0) x24
      )
    ) else (
      some true
    )
def slices_Equal_int_int (a0 : (List Int)) (a1 : (List Int)) : Option Bool :=
  bnd (!decide ((a0.length : Int) = (a1.length : Int))) fun x1 =>
  bif x1 then (
    some false
  ) else (
    slices_Equal_int_int_L0 a0 a1 fuel 0
  )

def fold_Same (a0 : T_fold_State) (a1 : T_fold_State) : Option Bool :=
  bnd (decide (a0.Room = a1.Room)) fun x1 =>
  bnd (decide (a0.Keep = a1.Keep)) fun x2 =>
  bnd (x1 && x2) fun x3 =>
  bno (gd (x3 == true) (slices_Equal_ptree_Node_ptree_Node a0.Nodes a1.Nodes) default) fun x4 =>
  bnd (x3 && x4) fun x5 =>
  bno (gd (x5 == true) (slices_Equal_int_int a0.Ended a1.Ended) default) fun x6 =>
  bnd (x5 && x6) fun x7 =>
  some x7

def sennitlaw34_awake  : Option Bool :=
  bno (fold_Run (⟨8, 1, [], []⟩ : T_fold_State) ([(⟨0, 1, 0, 16, false⟩ : T_fold_Op), (⟨0, 3, 1, 5, false⟩ : T_fold_Op), (⟨0, 5, 1, 7, false⟩ : T_fold_Op), (⟨2, 3, 0, 0, false⟩ : T_fold_Op), (⟨9, 0, 0, 0, false⟩ : T_fold_Op), (⟨1, 5, 0, 2, false⟩ : T_fold_Op)] : (List T_fold_Op))) fun x1 =>
  bnd (!decide ((x1.2.length : Int) = 6)) fun x2 =>
  bif x2 then (
    some false
  ) else (
    bno (gix x1.2 0) fun x4 =>
    bnd (decide (x4 = 0)) fun x5 =>
    bno (gd (x5 == true) (gix x1.2 3) default) fun x6 =>
    bnd (decide (x6 = 0)) fun x7 =>
    bnd (x5 && x7) fun x8 =>
    bno (gd (x8 == true) (gix x1.2 4) default) fun x9 =>
    bnd (decide (x9 = 12)) fun x10 =>
    bnd (x8 && x10) fun x11 =>
    bnd (decide ((x1.1.Nodes.length : Int) = 3)) fun x12 =>
    bnd (x11 && x12) fun x13 =>
    bno (gd (x13 == true) (gix x1.1.Nodes 1) default) fun x14 =>
    bnd (x13 && x14.Closed) fun x15 =>
    bno (gd (x15 == true) (fold_Depth x1.1 3) default) fun x16 =>
    bnd (decide (x16 = 2)) fun x17 =>
    bnd (x15 && x17) fun x18 =>
    bno (gd (x18 == true) (fold_Depth x1.1 5) default) fun x19 =>
    bnd (decide (x19 = 1)) fun x20 =>
    bnd (x18 && x20) fun x21 =>
    bno (gd (x21 == true) (fold_Meet x1.1 1 3) default) fun x22 =>
    bnd (decide (x22 = 1)) fun x23 =>
    bnd (x21 && x23) fun x24 =>
    bno (gd (x24 == true) (fold_Meet x1.1 5 3) default) fun x25 =>
    bnd (decide (x25 = 0)) fun x26 =>
    bnd (x24 && x26) fun x27 =>
    bno (gd (x27 == true) (fold_Below x1.1 1) default) fun x28 =>
    bno (gd (x27 == true) (sennitref02_SameInts x28 ([3] : (List Int))) default) fun x29 =>
    bnd (x27 && x29) fun x30 =>
    bno (gd (x30 == true) (fold_Below x1.1 0) default) fun x31 =>
    bno (gd (x30 == true) (sennitref02_SameInts x31 ([1, 3, 5] : (List Int))) default) fun x32 =>
    bnd (x30 && x32) fun x33 =>
    bno (gd (x33 == true) (fold_Sum x1.1 0) default) fun x34 =>
    bnd (decide (x34 = 18)) fun x35 =>
    bnd (x33 && x35) fun x36 =>
    bno (gd (x36 == true) (fold_Check x1.1) default) fun x37 =>
    bnd (decide (x37 = 0)) fun x38 =>
    bnd (x36 && x38) fun x39 =>
    bno (gd (x39 == true) (fold_Check (⟨0, 0, [], []⟩ : T_fold_State)) default) fun x40 =>
    bnd (decide (x40 = 8)) fun x41 =>
    bnd (x39 && x41) fun x42 =>
    bno (gd (x42 == true) (fold_Same x1.1 (⟨0, 0, [], []⟩ : T_fold_State)) default) fun x43 =>
    bnd (x42 && (!x43)) fun x44 =>
    bno (gd (x44 == true) (fold_Same x1.1 x1.1) default) fun x45 =>
    bnd (x44 && x45) fun x46 =>
    bnd (bif x46 then true else false) fun x47 =>
    bnd (bif x47 then true else false) fun x48 =>
    bnd (bif x48 then true else false) fun x49 =>
    some x49
  )

end Go.Fn
set_option linter.unusedSimpArgs false
set_option linter.unusedVariables false
open Go Go.IL
namespace Go.Fn


end Go.Fn
set_option linter.unusedSimpArgs false
set_option linter.unusedVariables false
open Go Go.IL
namespace Go.Fn
structure T_sennitref19_Tree where
  Room : Int
  Keep : Int
  L : (List T_ptree_Node)
  Closed : (List Int)
  deriving DecidableEq, Inhabited
def sennitlaw34_few (a0 : T_fold_State) : Option Bool :=
  bnd (decide ((a0.Nodes.length : Int) ≤ 30)) fun x1 =>
  bnd (decide ((a0.Ended.length : Int) ≤ 30)) fun x2 =>
  bnd (x1 && x2) fun x3 =>
  some x3

def sennitlaw34_own_L0 (a0 : T_fold_State) : Nat → Int → (List T_ptree_Node) → Option T_fold_State
  | 0, _, _ => none
  | n0 + 1, v6, v7 =>
    bnd (decide (v6 < (a0.Nodes.length : Int))) fun x13 =>
    bif x13 then (
      bno (gix a0.Nodes v6) fun x15 =>
      bno (app 32 v7 ([x15] : (List T_ptree_Node))) fun x16 =>
      bnd (IntKind.wrap .i64 (v6 + 1)) fun x17 =>
      (sennitlaw34_own_L0 a0 n0) x17 x16
    ) else (
      some (⟨a0.Room, a0.Keep, v7, a0.Ended⟩ : T_fold_State)
    )
def sennitlaw34_own (a0 : T_fold_State) : Option T_fold_State :=
  sennitlaw34_own_L0 a0 fuel 0 ([] : (List T_ptree_Node))

def sennitref34_tree (a0 : T_fold_State) : Option T_sennitref19_Tree :=
  some (⟨a0.Room, a0.Keep, a0.Nodes, a0.Ended⟩ : T_sennitref19_Tree)

def sennitref34_numbers_L0 (a0 : T_fold_State) : Nat → Int → Option Bool
  | 0, _ => none
  | n0 + 1, v21 =>
    bnd (decide (v21 < (a0.Nodes.length : Int))) fun x34 =>
    bif x34 then (
      bno (gix a0.Nodes v21) fun x36 =>
      bnd (decide (x36.ID < 1)) fun x37 =>
      bnd (decide (1048576 < x36.ID)) fun x38 =>
      bnd (x37 || x38) fun x39 =>
      bnd (decide (x36.Weight < 1)) fun x40 =>
      bnd (x39 || x40) fun x41 =>
      bnd (decide (256 < x36.Weight)) fun x42 =>
      bnd (x41 || x42) fun x43 =>
      bif x43 then (
        some false
      ) else (
        bnd (IntKind.wrap .i64 (v21 + 1)) fun x45 =>
        (sennitref34_numbers_L0 a0 n0) x45
      )
    ) else (
      some true
    )
def sennitref34_numbers (a0 : T_fold_State) : Option Bool :=
  bnd (decide (a0.Room < 1)) fun x1 =>
  bnd (decide (24 < a0.Room)) fun x2 =>
  bnd (x1 || x2) fun x3 =>
  bnd (decide (a0.Keep < 0)) fun x4 =>
  bnd (x3 || x4) fun x5 =>
  bnd (decide (a0.Room < a0.Keep)) fun x6 =>
  bnd (x5 || x6) fun x7 =>
  bif x7 then (
    some false
  ) else (
    sennitref34_numbers_L0 a0 fuel 0
  )

def sennitref19_Tree_Place_L0 (a0 : T_sennitref19_Tree) (a1 : Int) : Nat → Int → Option Int
  | 0, _ => none
  | n0 + 1, v7 =>
    bnd (decide (v7 < (a0.L.length : Int))) fun x14 =>
    bif x14 then (
      bno (gix a0.L v7) fun x16 =>
      bnd (decide (x16.ID = a1)) fun x17 =>
      bif x17 then (
        some v7
      ) else (
        bnd (IntKind.wrap .i64 (v7 + 1)) fun x19 =>
        (sennitref19_Tree_Place_L0 a0 a1 n0) x19
      )
    ) else (
      some (-1)
    )
def sennitref19_Tree_Place (a0 : T_sennitref19_Tree) (a1 : Int) : Option Int :=
  sennitref19_Tree_Place_L0 a0 a1 fuel 0

def sennitref19_Tree_Path_J1 (a0 : T_sennitref19_Tree) (v18 : Int) (kk0 : (List Int) → Int → Int → Option (List Int)) (x37 : T_ptree_Node) (v41 : (List Int)) : Option (List Int) :=
  bno (sennitref19_Tree_Place a0 x37.Parent) fun x42 =>
  bnd (IntKind.wrap .i64 (v18 + 1)) fun x43 =>
  kk0 v41 x42 x43
def sennitref19_Tree_Path_L0 (a0 : T_sennitref19_Tree) : Nat → (List Int) → Int → Int → Option (List Int)
  | 0, _, _, _ => none
  | n0 + 1, v16, v17, v18 =>
    bnd (decide (v18 ≤ (a0.L.length : Int))) fun x33 =>
    bnd (decide (0 ≤ v17)) fun x34 =>
    bnd (x33 && x34) fun x35 =>
    bif x35 then (
      bno (gix a0.L v17) fun x37 =>
      bnd (!decide (x37.Parent = 0)) fun x44 =>
      bif x44 then (
        bno (app 8 v16 ([x37.Parent] : (List Int))) fun x46 =>
        sennitref19_Tree_Path_J1 a0 v18 (sennitref19_Tree_Path_L0 a0 n0) x37 x46
      ) else (
        sennitref19_Tree_Path_J1 a0 v18 (sennitref19_Tree_Path_L0 a0 n0) x37 v16
      )
    ) else (
      some v16
    )
def sennitref19_Tree_Path (a0 : T_sennitref19_Tree) (a1 : Int) : Option (List Int) :=
  bno (sennitref19_Tree_Place a0 a1) fun x1 =>
  sennitref19_Tree_Path_L0 a0 fuel ([] : (List Int)) x1 0

def sennitref19_In_L0 (a0 : (List Int)) (a1 : Int) : Nat → Int → Option Bool
  | 0, _ => none
  | n0 + 1, v7 =>
    bnd (decide (v7 < (a0.length : Int))) fun x14 =>
    bif x14 then (
      bno (gix a0 v7) fun x16 =>
      bnd (decide (x16 = a1)) fun x17 =>
      bif x17 then (
        some true
      ) else (
        bnd (IntKind.wrap .i64 (v7 + 1)) fun x19 =>
        (sennitref19_In_L0 a0 a1 n0) x19
      )
    ) else (
      some false
    )
def sennitref19_In (a0 : (List Int)) (a1 : Int) : Option Bool :=
  sennitref19_In_L0 a0 a1 fuel 0

def sennitref34_closed_J1 (a0 : T_fold_State) (v17 : Int) (kk0 : Int → Int → Option Bool) (v38 : Int) : Option Bool :=
  bno (gix a0.Nodes v17) fun x39 =>
  bno (gix a0.Nodes v17) fun x40 =>
  bno (sennitref19_In a0.Ended x40.ID) fun x41 =>
  bnd (!(x39.Closed == x41)) fun x42 =>
  bif x42 then (
    some false
  ) else (
    bnd (IntKind.wrap .i64 (v17 + 1)) fun x44 =>
    kk0 v38 x44
  )
def sennitref34_closed_L0 (a0 : T_fold_State) : Nat → Int → Int → Option Bool
  | 0, _, _ => none
  | n0 + 1, v16, v17 =>
    bnd (decide (v17 < (a0.Nodes.length : Int))) fun x33 =>
    bif x33 then (
      bno (gix a0.Nodes v17) fun x45 =>
      bif x45.Closed then (
        bnd (IntKind.wrap .i64 (v16 + 1)) fun x47 =>
        sennitref34_closed_J1 a0 v17 (sennitref34_closed_L0 a0 n0) x47
      ) else (
        sennitref34_closed_J1 a0 v17 (sennitref34_closed_L0 a0 n0) v16
      )
    ) else (
      bnd (decide (v16 = (a0.Ended.length : Int))) fun x48 =>
      some x48
    )
def sennitref34_closed (a0 : T_fold_State) : Option Bool :=
  sennitref34_closed_L0 a0 fuel 0 0

def sennitref34_Check_L2 (a0 : T_fold_State) (x1 : T_sennitref19_Tree) : Nat → Int → Option Int
  | 0, _ => none
  | n2 + 1, v72 =>
    bnd (decide (v72 < (a0.Nodes.length : Int))) fun x81 =>
    bif x81 then (
      bno (gix a0.Nodes v72) fun x83 =>
      bno (sennitref19_Tree_Path x1 x83.ID) fun x84 =>
      bno (gix a0.Nodes v72) fun x85 =>
      bno (sennitref19_In x84 x85.ID) fun x86 =>
      bif x86 then (
        some 4
      ) else (
        bnd (IntKind.wrap .i64 (v72 + 1)) fun x88 =>
        (sennitref34_Check_L2 a0 x1 n2) x88
      )
    ) else (
      bno (sennitref34_closed a0) fun x89 =>
      bif (!x89) then (
        some 9
      ) else (
        some 0
      )
    )
def sennitref34_Check_L1 (a0 : T_fold_State) (x1 : T_sennitref19_Tree) : Nat → Int → Option Int
  | 0, _ => none
  | n1 + 1, v43 =>
    bnd (decide (v43 < (a0.Nodes.length : Int))) fun x54 =>
    bif x54 then (
      bno (gix a0.Nodes v43) fun x56 =>
      bnd (!decide (x56.Parent = 0)) fun x57 =>
      bno (gd (x57 == true) (gix a0.Nodes v43) default) fun x58 =>
      bno (gd (x57 == true) (sennitref19_Tree_Place x1 x58.Parent) default) fun x59 =>
      bnd (decide (x59 < 0)) fun x60 =>
      bnd (x57 && x60) fun x61 =>
      bif x61 then (
        some 6
      ) else (
        bnd (IntKind.wrap .i64 (v43 + 1)) fun x63 =>
        (sennitref34_Check_L1 a0 x1 n1) x63
      )
    ) else (
      sennitref34_Check_L2 a0 x1 fuel 0
    )
def sennitref34_Check_L0 (a0 : T_fold_State) (x1 : T_sennitref19_Tree) : Nat → Int → Option Int
  | 0, _ => none
  | n0 + 1, v16 =>
    bnd (decide (v16 < (a0.Nodes.length : Int))) fun x25 =>
    bif x25 then (
      bnd (IntKind.wrap .i64 (v16 - 1)) fun x27 =>
      bno (gix a0.Nodes x27) fun x28 =>
      bno (gix a0.Nodes v16) fun x29 =>
      bnd (decide (x29.ID ≤ x28.ID)) fun x30 =>
      bif x30 then (
        some 10
      ) else (
        bnd (IntKind.wrap .i64 (v16 + 1)) fun x32 =>
        (sennitref34_Check_L0 a0 x1 n0) x32
      )
    ) else (
      sennitref34_Check_L1 a0 x1 fuel 0
    )
def sennitref34_Check (a0 : T_fold_State) : Option Int :=
  bno (sennitref34_tree a0) fun x1 =>
  bno (sennitref34_numbers a0) fun x2 =>
  bif (!x2) then (
    some 8
  ) else (
    bnd (decide (a0.Room < (a0.Nodes.length : Int))) fun x4 =>
    bnd (decide (a0.Keep < (a0.Ended.length : Int))) fun x5 =>
    bnd (x4 || x5) fun x6 =>
    bif x6 then (
      some 7
    ) else (
      sennitref34_Check_L0 a0 x1 fuel 1
    )
  )

def sennitref34_there (a0 : T_fold_State) (a1 : Int) : Option Bool :=
  bno (sennitref34_Check a0) fun x1 =>
  bnd (decide (x1 = 0)) fun x2 =>
  bno (gd (x2 == true) (sennitref34_tree a0) default) fun x3 =>
  bno (gd (x2 == true) (sennitref19_Tree_Place x3 a1) default) fun x4 =>
  bnd (decide (0 ≤ x4)) fun x5 =>
  bnd (x2 && x5) fun x6 =>
  some x6

def sennitref34_Depth (a0 : T_fold_State) (a1 : Int) : Option Int :=
  bno (sennitref34_there a0 a1) fun x1 =>
  bif (!x1) then (
    some 0
  ) else (
    bno (sennitref34_tree a0) fun x3 =>
    bno (sennitref19_Tree_Path x3 a1) fun x4 =>
    bnd (IntKind.wrap .i64 ((x4.length : Int) + 1)) fun x5 =>
    some x5
  )

def sennitref34_line (a0 : T_fold_State) (a1 : Int) : Option (List Int) :=
  bno (sennitref34_tree a0) fun x1 =>
  bno (sennitref19_Tree_Path x1 a1) fun x2 =>
  bno (app 8 ([a1] : (List Int)) x2) fun x3 =>
  some x3

def sennitref34_Meet_L0 (x5 : (List Int)) (x6 : (List Int)) : Nat → Int → Option Int
  | 0, _ => none
  | n0 + 1, v14 =>
    bnd (decide (v14 < (x5.length : Int))) fun x22 =>
    bif x22 then (
      bno (gix x5 v14) fun x24 =>
      bno (sennitref19_In x6 x24) fun x25 =>
      bif x25 then (
        bno (gix x5 v14) fun x27 =>
        some x27
      ) else (
        bnd (IntKind.wrap .i64 (v14 + 1)) fun x28 =>
        (sennitref34_Meet_L0 x5 x6 n0) x28
      )
    ) else (
      some 0
    )
def sennitref34_Meet (a0 : T_fold_State) (a1 : Int) (a2 : Int) : Option Int :=
  bno (sennitref34_there a0 a1) fun x1 =>
  bno (gd ((!x1) == false) (sennitref34_there a0 a2) default) fun x2 =>
  bnd ((!x1) || (!x2)) fun x3 =>
  bif x3 then (
    some 0
  ) else (
    bno (sennitref34_line a0 a1) fun x5 =>
    bno (sennitref34_line a0 a2) fun x6 =>
    sennitref34_Meet_L0 x5 x6 fuel 0
  )

def sennitref34_Below_L0 (a0 : T_fold_State) (a1 : Int) : Nat → (List Int) → Int → Option (List Int)
  | 0, _, _ => none
  | n0 + 1, v20, v21 =>
    bnd (decide (v21 < (a0.Nodes.length : Int))) fun x34 =>
    bif x34 then (
      bno (gix a0.Nodes v21) fun x36 =>
      bnd (decide (a1 = 0)) fun x37 =>
      bno (gd (x37 == false) (sennitref34_tree a0) default) fun x38 =>
      bno (gd (x37 == false) (sennitref19_Tree_Path x38 x36.ID) default) fun x39 =>
      bno (gd (x37 == false) (sennitref19_In x39 a1) default) fun x40 =>
      bnd (x37 || x40) fun x41 =>
      bif x41 then (
        bno (app 8 v20 ([x36.ID] : (List Int))) fun x43 =>
        bnd (IntKind.wrap .i64 (v21 + 1)) fun x44 =>
        (sennitref34_Below_L0 a0 a1 n0) x43 x44
      ) else (
        bnd (IntKind.wrap .i64 (v21 + 1)) fun x45 =>
        (sennitref34_Below_L0 a0 a1 n0) v20 x45
      )
    ) else (
      some v20
    )
def sennitref34_Below (a0 : T_fold_State) (a1 : Int) : Option (List Int) :=
  bnd (!decide (a1 = 0)) fun x1 =>
  bno (gd (x1 == true) (sennitref34_there a0 a1) default) fun x2 =>
  bnd (x1 && (!x2)) fun x3 =>
  bno (gd (x3 == false) (sennitref34_Check a0) default) fun x4 =>
  bnd (!decide (x4 = 0)) fun x5 =>
  bnd (x3 || x5) fun x6 =>
  bif x6 then (
    some []
  ) else (
    sennitref34_Below_L0 a0 a1 fuel ([] : (List Int)) 0
  )

def sennitref34_Sum_L0 (a0 : T_fold_State) (a1 : Int) : Nat → Int → Int → Option Int
  | 0, _, _ => none
  | n0 + 1, v17, v18 =>
    bnd (decide (v18 < (a0.Nodes.length : Int))) fun x28 =>
    bif x28 then (
      bno (gix a0.Nodes v18) fun x30 =>
      bnd (decide (x30.Parent = a1)) fun x31 =>
      bif x31 then (
        bno (gix a0.Nodes v18) fun x33 =>
        bnd (IntKind.wrap .i64 (v17 + x33.Weight)) fun x34 =>
        bnd (IntKind.wrap .i64 (v18 + 1)) fun x35 =>
        (sennitref34_Sum_L0 a0 a1 n0) x34 x35
      ) else (
        bnd (IntKind.wrap .i64 (v18 + 1)) fun x36 =>
        (sennitref34_Sum_L0 a0 a1 n0) v17 x36
      )
    ) else (
      some v17
    )
def sennitref34_Sum (a0 : T_fold_State) (a1 : Int) : Option Int :=
  bnd (!decide (a1 = 0)) fun x1 =>
  bno (gd (x1 == true) (sennitref34_there a0 a1) default) fun x2 =>
  bnd (x1 && (!x2)) fun x3 =>
  bno (gd (x3 == false) (sennitref34_Check a0) default) fun x4 =>
  bnd (!decide (x4 = 0)) fun x5 =>
  bnd (x3 || x5) fun x6 =>
  bif x6 then (
    some 0
  ) else (
    sennitref34_Sum_L0 a0 a1 fuel 0 0
  )

def sennitlaw34_FoldTells (a0 : T_fold_State) (a1 : Int) (a2 : Int) : Option Bool :=
  bno (sennitlaw34_few a0) fun x1 =>
  bif (!x1) then (
    bno (sennitlaw34_awake) fun x3 =>
    some x3
  ) else (
    bno (sennitlaw34_own a0) fun x4 =>
    bno (fold_Depth x4 a1) fun x5 =>
    bno (sennitref34_Depth a0 a1) fun x6 =>
    bnd (decide (x5 = x6)) fun x7 =>
    bno (gd (x7 == true) (fold_Meet x4 a1 a2) default) fun x8 =>
    bno (gd (x7 == true) (sennitref34_Meet a0 a1 a2) default) fun x9 =>
    bnd (decide (x8 = x9)) fun x10 =>
    bnd (x7 && x10) fun x11 =>
    bno (gd (x11 == true) (fold_Below x4 a1) default) fun x12 =>
    bno (gd (x11 == true) (sennitref34_Below a0 a1) default) fun x13 =>
    bno (gd (x11 == true) (sennitref02_SameInts x12 x13) default) fun x14 =>
    bnd (x11 && x14) fun x15 =>
    bno (gd (x15 == true) (fold_Sum x4 a1) default) fun x16 =>
    bno (gd (x15 == true) (sennitref34_Sum a0 a1) default) fun x17 =>
    bnd (decide (x16 = x17)) fun x18 =>
    bnd (x15 && x18) fun x19 =>
    bno (gd (x19 == true) (sennitlaw34_awake) default) fun x20 =>
    bnd (x19 && x20) fun x21 =>
    some x21
  )
end Go.Fn
set_option linter.unusedSimpArgs false
set_option linter.unusedVariables false
open Go Go.IL
namespace Go.Fn



end Go.Fn
