/-
  A part of the proof: rules and plain facts. No condition.
-/
import Derived.Test.YtalalambgppmpaaIlTr
set_option linter.all false
open Go.RowKit (Below)
namespace Go.IL
/-! Calls that are handed memory, in any order with others. -/
section
variable {P : Program} {O : Origin} {N : Nat} {S S' : St} {o : Oper} {t : Nat} {Q : Exit → St → Prop}
structure HandM (S : St) (k : Nat) (A : List Nat) (H0 : List (Nat × Ent)) : Prop where
  nd : A.Nodup
  cov : A.all (fun i => (H0.map fun x => sig k A x.1).contains i) = true
  ents : ∀ x ∈ H0, givenB A x.1 = true ∧ x.2.held = true ∧ S.ent (sig k A x.1) = x.2.ren (sig k A) ∧ x.2.refsIn (givenB A) = true
def backM (m : Nat) (A : List Nat) (i : Nat) : Bool := Nat.blt i m || givenB A i
theorem iop_enterM {f : FuncId} {ds ds' : List D} {r r' : D} {H0 H1 H2 : List (Nat × Ent)} (k m : Nat) (A : List Nat) (hd : o.dst = some t) (ht : t < N)
    (h : ∀ E β a, Rel O N S E β a → ∃ vs : List Value, (execOp a.eval o).run P E.w = .ok (.enter f vs.toArray) E.w ∧ RdL E β vs ds') (hds : D.renL (sig k A) ds = ds') (hp : D.refsInL (givenB A) ds = true)
    (hkm : k + m ≤ 1000) (hfr : ∀ j, j < m → S.ent (k + j) = .fresh) (hh : HandM S k A H0) (hf : FnH P f ds H0 r H1) (hrr : r.ren (sig k A) = r') (hrp : r.refsIn (backM m A) = true) (hH1 : ∀ x ∈ H1, backM m A x.1 = true ∧ x.2.refsIn (backM m A) = true)
    (hH2 : afterH k A H0 H1 S.H = H2) : IOp P O N o S (St.set ⟨S.sl, H2⟩ t r') := by
  intro E β a hr next Q hn
  obtain ⟨vs, hrun, hv⟩ := h E β a hr
  unfold Oper.wp
  rw [hrun]
  simp only [Oper.upon, hd]
  subst hds hrr hH2
  let βc : Names := fun i => if givenB A i = true then β (sig k A i) else none
  have hβc : ∀ id, givenB A id = true → βc id = β (sig k A id) := fun id hid => by simp [βc, hid]
  have hvc : RdL E βc vs ds := RdL.ren hβc ds hv hp
  have h0 : ∀ i, (entL H0 i).held = true → givenB A i = true ∧ S.ent (sig k A i) = (entL H0 i).ren (sig k A) ∧ (entL H0 i).refsIn (givenB A) = true := fun i hi => by
    have h1 := hh.ents _ (entL_held hi)
    exact ⟨h1.1, h1.2.2.1, h1.2.2.2⟩
  have hcall : HOk ⟨E.w, E.X, footB βc H0, βc, none, fun _ => [], fun _ => 0, fun _ => [], fun _ => (#[], .skip, .skip)⟩ E βc (entL H0) := {
    os := rfl, tape := rfl, output := rfl, size := Nat.le_refl _, block := fun _ _ _ => rfl, xlt := hr.h.xlt, xold := fun _ _ _ _ => Iff.rfl, le := Env.le.refl _
    gid := fun i b hi => by
      by_cases hg : givenB A i = true
      · simp only [givenB, Bool.and_eq_true, Nat.ble_eq] at hg; exact hg.1
      · simp [βc, hg] at hi
    given := fun _ _ hi => hi
    ent := fun i => by
      cases hhe : (entL H0 i).held with
      | true =>
        obtain ⟨h1, h2, h3⟩ := h0 i hhe
        have he := hr.h.ent (sig k A i)
        rw [h2] at he
        have hown : ∀ b, βc i = some b → (⟨E.w, E.X, footB βc H0, βc, none, fun _ => [], fun _ => 0, fun _ => [], fun _ => (#[], .skip, .skip)⟩ : Origin).own b := fun b hb => .inr ⟨i, hhe, hb⟩
        cases hE : entL H0 i with
        | none => trivial
        | fresh => rw [hE] at hhe; cases hhe
        | blk e es =>
          rw [hE] at he h3
          rcases he with ⟨g1, g2⟩ | ⟨b, ws, sp, g1, g2, g3, g4, g5⟩
          · exact .inl ⟨(hβc i h1).trans g1, renL_nil g2⟩
          · exact .inr ⟨b, ws, sp, (hβc i h1).trans g1, hown b ((hβc i h1).trans g1), g3, g4, RdL.ren hβc es g5 h3⟩
        | tail e sz n =>
          rw [hE] at he
          rcases he with ⟨g1, g2⟩ | ⟨b, c, g1, g2, g3, g4⟩
          · exact .inl ⟨(hβc i h1).trans g1, g2⟩
          · exact .inr ⟨b, c, (hβc i h1).trans g1, hown b ((hβc i h1).trans g1), g3, g4⟩
        | loop lk es st pe =>
          rw [hE] at h3; cases h3
        | kept n es => rw [hE] at hhe; cases hhe
      | false =>
        cases hE : entL H0 i with
        | none => trivial
        | fresh =>
          show βc i = none
          by_cases hm : i ∈ H0.map (·.1)
          · obtain ⟨e, h1, h2⟩ := look_of_mem (z := defE i) hm
            have h3 := hh.ents _ h1
            have : entL H0 i = e := h2
            rw [hE] at this; rw [← this] at h3; exact absurd h3.2.1 (by simp [Ent.held])
          · have : entL H0 i = defE i := look_not_mem hm
            rw [hE] at this
            unfold defE at this
            split at this
            · cases this
            · rename_i hlt
              have : ¬ givenB A i = true := by simp only [givenB, Bool.and_eq_true, Nat.ble_eq]; omega
              simp [βc, this]
        | blk => rw [hE] at hhe; cases hhe
        | tail => rw [hE] at hhe; cases hhe
        | loop => rw [hE] at hhe; cases hhe
        | kept n es =>
          exfalso
          by_cases hm : i ∈ H0.map (·.1)
          · obtain ⟨e, h1, h2⟩ := look_of_mem (z := defE i) hm
            have h3 := hh.ents _ h1
            have : entL H0 i = e := h2
            rw [hE] at this; rw [← this] at h3; exact absurd h3.2.1 (by simp [Ent.held])
          · have : entL H0 i = defE i := look_not_mem hm
            rw [hE] at this
            unfold defE at this
            split at this <;> cases this
    inj := fun i j b hi hj h1 h2 => by
      obtain ⟨a1, a2, _⟩ := h0 i hi
      obtain ⟨b1, b2, _⟩ := h0 j hj
      have h1 : β (sig k A i) = some b := (hβc i a1).symm.trans h1
      have h2 : β (sig k A j) = some b := (hβc j b1).symm.trans h2
      exact sig_inj hh.nd a1 b1 (hr.h.inj _ _ b (by rw [a2, Ent.held_ren]; exact hi) (by rw [b2, Ent.held_ren]; exact hj) h1 h2) }
  refine (hf E βc vs hr.h.xlt hcall.gid hcall hvc).mono ?_
  rintro e w' ⟨v, rfl, E', β', rfl, hok, hrd⟩
  -- old blocks that were not handed over
  have hfoot : ∀ b, footB βc H0 b → ∃ i, givenB A i = true ∧ (S.ent (sig k A i)).held = true ∧ β (sig k A i) = some b := fun b ⟨i, hi, hb⟩ => by
    obtain ⟨h1, h2, _⟩ := h0 i hi
    exact ⟨i, h1, by rw [h2, Ent.held_ren]; exact hi, by rw [← hβc i h1]; exact hb⟩
  have hfown : ∀ b, footB βc H0 b → O.own b := fun b hb => by
    obtain ⟨i, _, h2, h3⟩ := hfoot b hb
    have he := hr.h.ent (sig k A i)
    exact hr.h.own h2 h3
  have hcown : ∀ b, (⟨E.w, E.X, footB βc H0, βc, none, fun _ => [], fun _ => 0, fun _ => [], fun _ => (#[], .skip, .skip)⟩ : Origin).own b → O.own b := fun b hb => by
    rcases hb with hb | hb
    · exact .inl (Nat.le_trans hr.h.size hb)
    · exact hfown b hb
  have hfrE : ∀ i, k ≤ i ∧ i < k + m → S.ent i = .fresh := fun i h1 => by
    have := hfr (i - k) (by omega)
    rwa [show k + (i - k) = i by omega] at this
  have hfresh : ∀ i, k ≤ i → i < k + m → β i = none := fun i h1 h2 => by
    have he := hr.h.ent i
    rw [hfrE i ⟨h1, h2⟩] at he; exact he
  let βn : Names := fun i => if k ≤ i ∧ i < k + m then β' (i - k) else if i ∈ A then β' (1000 + A.idxOf i) else β i
  have hAk : ∀ i, i ∈ A → ¬ (k ≤ i ∧ i < k + m) := fun i hi hki => by
    have h1 := List.all_eq_true.1 hh.cov i hi
    obtain ⟨x, hx, hxe⟩ := List.mem_map.1 (by simpa using h1 : i ∈ H0.map (fun x => sig k A x.1))
    have h2 := hh.ents x hx
    rw [hxe, hfrE i hki] at h2
    have h3 : (x.2.ren (sig k A)).held = true := by rw [Ent.held_ren]; exact h2.2.1
    rw [← h2.2.2.1] at h3; cases h3
  have hnA : ∀ i, i ∈ A → βn i = β' (1000 + A.idxOf i) := fun i hi => by simp [βn, hAk i hi, hi]
  have hnO : ∀ i, i ∉ A → ¬ (k ≤ i ∧ i < k + m) → βn i = β i := fun i h1 h2 => by simp [βn, h1, h2]
  have hβ1 : β.le βn := fun i b hi => by
    by_cases hki : k ≤ i ∧ i < k + m
    · rw [hfresh i hki.1 hki.2] at hi; cases hi
    · by_cases hA : i ∈ A
      · rw [hnA i hA]
        obtain ⟨h1, h2⟩ := given_of_mem (k := k) hA
        exact hok.given _ _ (((hβc _ h1).trans (by rw [h2])).trans hi)
      · rw [hnO i hA hki]; exact hi
  have hβ2 : ∀ i, backM m A i = true → βn (sig k A i) = β' i := fun i hi => by
    by_cases hg : givenB A i = true
    · rw [hnA _ (sig_given hg), sig_idx hh.nd hg]
    · simp only [backM, hg, Bool.or_false, Nat.blt_eq] at hi
      have h2 : ¬ 1000 ≤ i := by omega
      have h1 : sig k A i = k + i := by simp [sig, h2]
      rw [h1]
      simp [βn, hi]
  have hle : E.le E' := hok.le
  -- the entries behind the call
  have hkey1 : ∀ i, backM m A i = true → ∀ j, backM m A j = true → sig k A i = sig k A j → i = j := fun i hi j hj hij => by
    by_cases hgi : givenB A i = true
    · by_cases hgj : givenB A j = true
      · exact sig_inj hh.nd hgi hgj hij
      · exfalso
        simp only [backM, hgj, Bool.or_false, Nat.blt_eq] at hj
        have h2 : sig k A j = k + j := by simp [sig, show ¬ 1000 ≤ j by omega]
        exact hAk _ (sig_given (k := k) hgi) (by rw [hij, h2]; omega)
    · by_cases hgj : givenB A j = true
      · exfalso
        simp only [backM, hgi, Bool.or_false, Nat.blt_eq] at hi
        have h2 : sig k A i = k + i := by simp [sig, show ¬ 1000 ≤ i by omega]
        exact hAk _ (sig_given (k := k) hgj) (by rw [← hij, h2]; omega)
      · simp only [backM, hgi, hgj, Bool.or_false, Nat.blt_eq] at hi hj
        simp only [sig, show ¬ 1000 ≤ i by omega, show ¬ 1000 ≤ j by omega, if_false] at hij
        omega
  have hent : ∀ i, (St.set ⟨S.sl, afterH k A H0 H1 S.H⟩ t (r.ren (sig k A))).ent i =
      if i ∈ H1.map (fun x => sig k A x.1) then (look (defE i) i (H1.map fun x => (sig k A x.1, x.2.ren (sig k A)))) else if i ∈ H0.map (fun x => sig k A x.1) then .none else S.ent i := fun i => by
    simp only [St.ent, entL, St.set, afterH, look_append, List.map_map]
    have e1 : (Prod.fst ∘ fun x : Nat × Ent => (sig k A x.1, x.2.ren (sig k A))) = fun x => sig k A x.1 := rfl
    have e2 : (Prod.fst ∘ fun x : Nat × Ent => (sig k A x.1, Ent.none)) = fun x => sig k A x.1 := rfl
    rw [e1, e2]
    split
    · rfl
    · split
      · rename_i h1 h2
        obtain ⟨e, h3, h4⟩ := look_of_mem (z := defE i) (l := H0.map fun x => (sig k A x.1, Ent.none)) (by rw [List.map_map, e2]; exact h2)
        rw [h4]
        obtain ⟨x, _, hx⟩ := List.mem_map.1 h3
        cases hx; rfl
      · rfl
  have hlook1 : ∀ j, backM m A j = true → j ∈ H1.map (·.1) → look (defE (sig k A j)) (sig k A j) (H1.map fun x => (sig k A x.1, x.2.ren (sig k A))) = (entL H1 j).ren (sig k A) := by
    intro j hj
    unfold entL
    have aux : ∀ (z z' : Ent) (l : List (Nat × Ent)), (∀ x ∈ l, backM m A x.1 = true) → j ∈ l.map (·.1) → look z (sig k A j) (l.map fun x => (sig k A x.1, x.2.ren (sig k A))) = (look z' j l).ren (sig k A) := by
      intro z z' l
      induction l with
      | nil => intro _ h; simp at h
      | cons x l ih =>
        obtain ⟨i, e⟩ := x
        intro hl hm
        simp only [List.map_cons, look_cons]
        by_cases hij : i = j
        · subst hij; rw [if_pos rfl, if_pos rfl]
        · rw [if_neg (fun h => hij (hkey1 i (hl (i, e) List.mem_cons_self) j hj h)), if_neg hij]
          refine ih (fun x hx => hl x (List.mem_cons_of_mem _ hx)) ?_
          simp only [List.map_cons, List.mem_cons] at hm
          rcases hm with h | h
          · exact absurd h.symm hij
          · exact h
    exact aux _ _ H1 (fun x hx => (hH1 x hx).1)
  have hH1r : ∀ j, j ∈ H1.map (·.1) → backM m A j = true ∧ (entL H1 j).refsIn (backM m A) = true := fun j hj => by
    obtain ⟨e, h1, h2⟩ := look_of_mem (z := defE j) hj
    have h3 := hH1 _ h1
    exact ⟨h3.1, by rw [show entL H1 j = e from h2]; exact h3.2⟩
  have cases1 : ∀ i, i ∈ H1.map (fun x => sig k A x.1) → ∃ j, j ∈ H1.map (·.1) ∧ backM m A j = true ∧ i = sig k A j := fun i hi => by
    obtain ⟨x, hx, rfl⟩ := List.mem_map.1 hi
    exact ⟨x.1, List.mem_map.2 ⟨x, hx, rfl⟩, (hH1 x hx).1, rfl⟩
  -- an entry that was not handed over
  have hold : ∀ i, i ∉ H1.map (fun x => sig k A x.1) → i ∉ H0.map (fun x => sig k A x.1) → (S.ent i).held = true → ∀ b, β i = some b → βn i = some b ∧ b < E.w.heap.size ∧ ¬ footB βc H0 b := fun i h1 h2 h3 b hb => by
    refine ⟨hβ1 i b hb, ?_, ?_⟩
    · exact hr.h.lt h3 hb
    · rintro ⟨j, hj, hbj⟩
      obtain ⟨g1, g2, _⟩ := h0 j hj
      have : i = sig k A j := hr.h.inj i (sig k A j) b h3 (by rw [g2, Ent.held_ren]; exact hj) hb (by rw [← hβc j g1]; exact hbj)
      exact h2 (List.mem_map.2 ⟨_, entL_held hj, this.symm⟩)
  have hcov : ∀ i, i ∈ A → i ∈ H0.map (fun x => sig k A x.1) := fun i hi => by
    have := List.all_eq_true.1 hh.cov i hi
    simpa using this
  have hold' : ∀ i, i ∉ H0.map (fun x => sig k A x.1) → S.ent i ≠ .fresh → βn i = β i := fun i h0 hf => by
    refine hnO i (fun hA => h0 (hcov i hA)) (fun hki => hf ?_)
    exact hfrE i hki
  refine hn E' βn _ ⟨by simp [Act.put, hr.n], hr.nd.mono (fun b hx => (hok.block b (heap_lt hx) (fun hf => by obtain ⟨i, _, h2, h3⟩ := hfoot b hf; exact hr.h.nodef h2 h3 _ hx)).trans hx), ?_, ?_⟩
  · exact {
      os := hok.os.trans hr.h.os, tape := hok.tape.trans hr.h.tape, output := hok.output.trans hr.h.output, size := Nat.le_trans hr.h.size hok.size
      block := fun j hj hf => by
        have hnf : ¬ footB βc H0 j := fun h => by
          rcases hfown j h with h1 | h1
          · omega
          · exact hf h1
        exact (hok.block j (Nat.lt_of_lt_of_le hj hr.h.size) hnf).trans (hr.h.block j hj hf)
      xlt := hok.xlt
      xold := fun b o hb hf => by
        have hnf : ¬ footB βc H0 b := fun h => by
          rcases hfown b h with h1 | h1
          · omega
          · exact hf h1
        exact (hok.xold b o (Nat.lt_of_lt_of_le hb hr.h.size) hnf).trans (hr.h.xold b o hb hf)
      le := hr.h.le.trans hle
      gid := hr.h.gid
      given := fun i b hi => hβ1 i b (hr.h.given i b hi)
      ent := fun i => by
        rw [hent i]
        by_cases hi1 : i ∈ H1.map (fun x => sig k A x.1)
        · rw [if_pos hi1]
          obtain ⟨j, hj, hbj, rfl⟩ := cases1 i hi1
          rw [hlook1 j hbj hj]
          have he := hok.ent j
          have hrf := (hH1r j hj).2
          have hb2 := hβ2 j hbj
          cases hE : entL H1 j with
          | none => trivial
          | fresh => rw [hE] at he; exact hb2.trans he
          | blk e es =>
            rw [hE] at he hrf
            rcases he with ⟨g1, g2⟩ | ⟨b, ws, sp, g1, g2, g3, g4, g5⟩
            · exact .inl ⟨hb2.trans g1, by rw [g2]; rfl⟩
            · exact .inr ⟨b, ws, sp, hb2.trans g1, hcown b g2, g3, g4, RdL.renp (fun id b hid hb => (hβ2 id hid).trans hb) g5 hrf⟩
          | tail e sz n =>
            rw [hE] at he
            rcases he with ⟨g1, g2⟩ | ⟨b, c, g1, g2, g3, g4⟩
            · exact .inl ⟨hb2.trans g1, g2⟩
            · exact .inr ⟨b, c, hb2.trans g1, hcown b g2, g3, g4⟩
          | loop lk es st pe =>
            rw [hE] at hrf; cases hrf
          | kept n es => rw [hE] at hrf; cases hrf
        · rw [if_neg hi1]
          by_cases hi0 : i ∈ H0.map (fun x => sig k A x.1)
          · rw [if_pos hi0]; trivial
          · rw [if_neg hi0]
            have he := hr.h.ent i
            have hnb : ∀ b, (S.ent i).held = true → β i = some b → βn i = some b ∧ E'.w.heap[b]? = E.w.heap[b]? ∧ ∀ o, (E'.X b o ↔ E.X b o) := fun b hhe hb => by
              obtain ⟨g1, g2, g3⟩ := hold i hi1 hi0 hhe b hb
              exact ⟨g1, hok.block b g2 g3, fun o => hok.xold b o g2 g3⟩
            cases hE : S.ent i with
            | none => trivial
            | fresh =>
              rw [hE] at he
              show βn i = none
              by_cases hki : k ≤ i ∧ i < k + m
              · -- a fresh name of the callee's that is told by nothing
                have hbi : i - k ∉ H1.map (·.1) := fun hm => by
                  have hbb := (hH1r _ hm).1
                  refine hi1 ?_
                  obtain ⟨x, hx, hxe⟩ := List.mem_map.1 hm
                  refine List.mem_map.2 ⟨x, hx, ?_⟩
                  have hx' : x.1 = i - k := hxe
                  rw [hx']
                  simp only [sig, show ¬ 1000 ≤ i - k by omega, if_false]
                  omega
                have h3 := hok.ent (i - k)
                have h4 : entL H1 (i - k) = defE (i - k) := look_not_mem hbi
                rw [h4, defE, if_neg (by omega)] at h3
                simp only [βn, hki, and_self, if_true]
                exact h3
              · rw [hnO i (fun hA => hi0 (hcov i hA)) hki]; exact he
            | blk e es =>
              rw [hE] at he
              rcases he with ⟨g1, g2⟩ | ⟨b, ws, sp, g1, g2, g3, g4, g5⟩
              · exact .inl ⟨(hold' i hi0 (by rw [hE]; exact fun h => by cases h)).trans g1, g2⟩
              · obtain ⟨f1, f2, f3⟩ := hnb b (by rw [hE]; rfl) g1
                exact .inr ⟨b, ws, sp, f1, g2, f2.trans g3, fun o => (f3 o).2 (g4 o), RdL.mono hle hβ1 g5⟩
            | tail e sz n =>
              rw [hE] at he
              rcases he with ⟨g1, g2⟩ | ⟨b, c, g1, g2, g3, g4⟩
              · exact .inl ⟨(hold' i hi0 (by rw [hE]; exact fun h => by cases h)).trans g1, g2⟩
              · obtain ⟨f1, f2, f3⟩ := hnb b (by rw [hE]; rfl) g1
                exact .inr ⟨b, c, f1, g2, f2.trans g3, fun o ho => (f3 o).2 (g4 o ho)⟩
            | loop lk es st pe =>
              rw [hE] at he
              obtain ⟨b, q, g1, g2, g3, g4, g5, g6, g7, g8, g9, g10⟩ := he
              obtain ⟨f1, f2, f3⟩ := hnb b (by rw [hE]; rfl) g1
              exact ⟨b, q, f1, g2, f2.trans g3, fun o => (f3 o).2 (g4 o), g5, g6, g7, g8, g9, g10.1, RdL.mono hle hβ1 g10.2⟩
            | kept n es =>
              rw [hE] at he
              exact ⟨RdL.mono hle hβ1 he.1, fun c hc => (hok.block c (heap_lt (he.2 c hc)) (fun hf => by obtain ⟨i, _, h2, h3⟩ := hfoot c hf; exact hr.h.nodef h2 h3 _ (he.2 c hc))).trans (he.2 c hc)⟩
      inj := fun i j b hi hj hbi hbj => by
        rw [hent i] at hi
        rw [hent j] at hj
        have hone : ∀ i, i ∈ H1.map (fun x => sig k A x.1) → (look (defE i) i (H1.map fun x => (sig k A x.1, x.2.ren (sig k A)))).held = true → βn i = some b → ∃ a, (entL H1 a).held = true ∧ β' a = some b ∧ i = sig k A a ∧ backM m A a = true := fun i hm hh hb => by
          obtain ⟨a, ha, hba, rfl⟩ := cases1 i hm
          rw [hlook1 a hba ha, Ent.held_ren] at hh
          exact ⟨a, hh, (hβ2 a hba).symm.trans hb, rfl, hba⟩
        have hown1 : ∀ a, (entL H1 a).held = true → β' a = some b → E.w.heap.size ≤ b ∨ footB βc H0 b := fun a hh hb => by
          exact hok.own hh hb
        have hto : ∀ i, i ∉ H0.map (fun x => sig k A x.1) → (S.ent i).held = true → βn i = some b → β i = some b := fun i h0 hh hb => by
          rw [← hold' i h0 (fun h => by rw [h] at hh; cases hh)]; exact hb
        have hmix : ∀ i j, i ∈ H1.map (fun x => sig k A x.1) → (look (defE i) i (H1.map fun x => (sig k A x.1, x.2.ren (sig k A)))).held = true → βn i = some b → j ∉ H1.map (fun x => sig k A x.1) → j ∉ H0.map (fun x => sig k A x.1) → (S.ent j).held = true → βn j = some b → False := fun i j h1 h2 h3 h4 h5 h6 h7 => by
          obtain ⟨a, ha, hb, _⟩ := hone i h1 h2 h3
          obtain ⟨_, f2, f3⟩ := hold j h4 h5 h6 b (hto j h5 h6 h7)
          rcases hown1 a ha hb with h | h
          · omega
          · exact f3 h
        by_cases hi1 : i ∈ H1.map (fun x => sig k A x.1)
        · rw [if_pos hi1] at hi
          by_cases hj1 : j ∈ H1.map (fun x => sig k A x.1)
          · rw [if_pos hj1] at hj
            obtain ⟨a, ha, hab, rfl, _⟩ := hone i hi1 hi hbi
            obtain ⟨c, hc, hcb, rfl, _⟩ := hone j hj1 hj hbj
            rw [hok.inj a c b ha hc hab hcb]
          · rw [if_neg hj1] at hj
            by_cases hj0 : j ∈ H0.map (fun x => sig k A x.1)
            · rw [if_pos hj0] at hj; cases hj
            · rw [if_neg hj0] at hj
              exact (hmix i j hi1 hi hbi hj1 hj0 hj hbj).elim
        · rw [if_neg hi1] at hi
          by_cases hi0 : i ∈ H0.map (fun x => sig k A x.1)
          · rw [if_pos hi0] at hi; cases hi
          · rw [if_neg hi0] at hi
            by_cases hj1 : j ∈ H1.map (fun x => sig k A x.1)
            · rw [if_pos hj1] at hj
              exact (hmix j i hj1 hj hbj hi1 hi0 hi hbi).elim
            · rw [if_neg hj1] at hj
              by_cases hj0 : j ∈ H0.map (fun x => sig k A x.1)
              · rw [if_pos hj0] at hj; cases hj
              · rw [if_neg hj0] at hj
                exact hr.h.inj i j b hi hj (hto i hi0 hi hbi) (hto j hj0 hj hbj) }
  · intro s
    have hts : t < a.tmps.size := hr.n ▸ ht
    by_cases hst : t = s
    · subst hst
      have h1 := Rd.renp (p := backM m A) (fun id b hid hb => (hβ2 id hid).trans hb) hrd hrp
      simpa [Act.put, St.get, St.set, look_cons, hts] using h1
    · have := Rd.mono hle hβ1 (hr.sl s)
      simpa [Act.put, St.get, St.set, look_cons, hst, Array.getElem?_setIfInBounds_ne] using this

theorem iop_callM {f : FuncId} {xs : List Operand} {ts : Array TypeId} {ds ds' : List D} {r r' : D} {H0 H1 U : List (Nat × Ent)} (k m : Nat) (A : List Nat) (ho : o.op = .call { callee := .value (.func f), args := xs.toArray, argTypes := ts }) (hd : o.dst = some t) (ht : t < N)
    (hc : Callable P f) (hx : SVs S xs ds') (hds : D.renL (sig k A) ds = ds') (hp : D.refsInL (givenB A) ds = true) (hkm : Nat.ble (k + m) 1000 = true) (hfr : ∀ e ∈ (List.range m).map (fun j => S.ent (k + j)), e = .fresh)
    (hh : HandM S k A H0) (hf : FnH P f ds H0 r H1) (hrr : r.ren (sig k A) = r') (hrp : r.refsIn (backM m A) = true) (hH1 : ∀ x ∈ H1, backM m A x.1 = true ∧ x.2.refsIn (backM m A) = true)
    (hU : (H1.map fun x => (sig k A x.1, x.2.ren (sig k A))) ++ (H0.map fun x => (sig k A x.1, Ent.none)) = U) : IOp P O N o S ⟨(t, r') :: S.sl, U ++ S.H⟩ := by
  have h := iop_enterM (P := P) (O := O) (N := N) (S := S) (o := o) (t := t) (f := f) (ds := ds) (ds' := ds') (r := r) (r' := r') (H0 := H0) (H1 := H1) (H2 := U ++ S.H) k m A hd ht (fun E β a hr => ⟨xs.map a.eval, by
    simp [execOp, ho, resolve, Deferred.ofValue, Act.eval, invoke, run_callFunc hc], hx.rd hr⟩) hds hp (Nat.le_of_ble_eq_true hkm) (fun j hj => hfr _ (List.mem_map.2 ⟨j, List.mem_range.2 hj, rfl⟩)) hh hf hrr hrp hH1 (by rw [← hU, afterH, List.append_assoc])
  exact h
end
end Go.IL
