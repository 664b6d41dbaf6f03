/-
  A part of the proof: rules and plain facts. No condition.
-/
import Derived.Test.YtfaflcdfgaoehaaGreatIlTr
import Derived.Test.YtfaflcdfgaoehaaGreatIlU
set_option linter.all false
open Go.RowKit (Below)
namespace Go.IL
section
variable {P : Program} {O : cR} {N : Nat} {S S' : St} {o : Oper} {t : Nat} {Q : Exit → St → Prop}
structure HandM (S : St) (k : Nat) (A : List Nat) (H0 : List (Nat × Ent)) : Prop where
  nd : A.Nodup
  cov : A.all (fun i=>(H0.map fun x=>sig k A x.1).contains i) = true
  ents : ∀ x ∈ H0,eN A x.1 = true ∧ x.2.held = true ∧ S.ent (sig k A x.1) = x.2.ren (sig k A) ∧ x.2.refsIn (eN A) = true
def pJ (m : Nat) (A : List Nat) (i : Nat) : Bool:=Nat.blt i m || eN A i
theorem aCW {f : FuncId} {ds ds' : List D} {r r' : D} {H0 H1 H2 : List (Nat × Ent)} (k m : Nat) (A : List Nat) (hd : o.dst = some t) (ht : t < N)
    (h : ∀ E β a,Rel O N S E β a → ∃ vs : List Value,(execOp a.eval o).run P E.w = .ok (.enter f vs.toArray) E.w ∧ RdL E β vs ds') (hds : D.renL (sig k A) ds = ds') (hp : D.refsInL (eN A) ds = true)
    (hkm : k + m ≤ 1000) (hfr : ∀ j,j < m → S.ent (k + j) = .fresh) (hh : HandM S k A H0) (hf : FnH P f ds H0 r H1) (hrr : r.ren (sig k A) = r') (hrp : r.refsIn (pJ m A) = true) (hH1 : ∀ x ∈ H1,pJ m A x.1 = true ∧ x.2.refsIn (pJ m A) = true)
    (hH2 : uC k A H0 H1 S.H = H2) : IOp P O N o S (St.set ⟨S.sl,H2⟩ t r'):=by
  intro E β a hr next Q hn
  obtain ⟨vs,hrun,hv⟩:=h E β a hr
  unfold Oper.wp
  rw [hrun]
  simp only [Oper.upon,hd]
  subst hds hrr hH2
  let βc : cF:=fun i=>if eN A i = true then β (sig k A i) else none
  have hβc : ∀ id,eN A id = true → βc id = β (sig k A id):=fun id hid=>by simp [βc,hid]
  have hvc : RdL E βc vs ds:=RdL.ren hβc ds hv hp
  have h0 : ∀ i,(entL H0 i).held = true → eN A i = true ∧ S.ent (sig k A i) = (entL H0 i).ren (sig k A) ∧ (entL H0 i).refsIn (eN A) = true:=fun i hi=>by
    have h1:=hh.ents _ (tY hi)
    exact ⟨h1.1,h1.2.2.1,h1.2.2.2⟩
  have hcall : HOk ⟨E.w,E.X,oB βc H0,βc,none,fun _=>[],fun _=>0,fun _=>[],fun _=>(#[],.skip,.skip)⟩ E βc (entL H0):={
    os:=rfl,tape:=rfl,output:=rfl,size:=Nat.le_refl _,block:=fun _ _ _=>rfl,xlt:=hr.h.xlt,xold:=fun _ _ _ _=>Iff.rfl,le:=Env.le.refl _
    gid:=fun i b hi=>by
      by_cases hg : eN A i = true
      · simp only [eN,Bool.and_eq_true,Nat.ble_eq] at hg; exact hg.1
      · simp [βc,hg] at hi
    given:=fun _ _ hi=>hi
    ent := fun i => by
      cases hhe : (entL H0 i).held with
      | true =>
        obtain ⟨h1,h2,h3⟩:=h0 i hhe
        have he:=hr.h.ent (sig k A i)
        rw [h2] at he
        have hown : ∀ b,βc i = some b → (⟨E.w,E.X,oB βc H0,βc,none,fun _=>[],fun _=>0,fun _=>[],fun _=>(#[],.skip,.skip)⟩ : cR).own b:=fun b hb=>.inr ⟨i,hhe,hb⟩
        cases hE : entL H0 i with
        | none=>trivial
        | fresh=>rw [hE] at hhe; cases hhe
        | blk e es =>
          rw [hE] at he h3
          rcases he with ⟨g1,g2⟩ | ⟨b,ws,sp,g1,g2,g3,g4,g5⟩
          · exact .inl ⟨(hβc i h1).trans g1,vL g2⟩
          · exact .inr ⟨b,ws,sp,(hβc i h1).trans g1,hown b ((hβc i h1).trans g1),g3,g4,RdL.ren hβc es g5 h3⟩
        | tail e sz n =>
          rw [hE] at he
          rcases he with ⟨g1,g2⟩ | ⟨b,c,g1,g2,g3,g4⟩
          · exact .inl ⟨(hβc i h1).trans g1,g2⟩
          · exact .inr ⟨b,c,(hβc i h1).trans g1,hown b ((hβc i h1).trans g1),g3,g4⟩
        | loop lk es st pe =>
          rw [hE] at h3; cases h3
        | kept n es=>rw [hE] at hhe; cases hhe
      | false =>
        cases hE : entL H0 i with
        | none=>trivial
        | fresh =>
          show βc i = none
          by_cases hm : i ∈ H0.map (·.1)
          · obtain ⟨e, h1, h2⟩ := iZ (z := defE i) hm
            have h3:=hh.ents _ h1
            have : entL H0 i = e:=h2
            rw [hE] at this; rw [← this] at h3; exact absurd h3.2.1 (by simp [Ent.held])
          · have : entL H0 i = defE i := gO hm
            rw [hE] at this
            unfold defE at this
            split at this
            · cases this
            · rename_i hlt
              have : ¬ eN A i = true:=by simp only [eN,Bool.and_eq_true,Nat.ble_eq]; omega
              simp [βc,this]
        | blk=>rw [hE] at hhe; cases hhe
        | tail=>rw [hE] at hhe; cases hhe
        | loop=>rw [hE] at hhe; cases hhe
        | kept n es =>
          exfalso
          by_cases hm : i ∈ H0.map (·.1)
          · obtain ⟨e, h1, h2⟩ := iZ (z := defE i) hm
            have h3:=hh.ents _ h1
            have : entL H0 i = e:=h2
            rw [hE] at this; rw [← this] at h3; exact absurd h3.2.1 (by simp [Ent.held])
          · have : entL H0 i = defE i := gO hm
            rw [hE] at this
            unfold defE at this
            split at this <;> cases this
    inj:=fun i j b hi hj h1 h2=>by
      obtain ⟨a1,a2,_⟩:=h0 i hi
      obtain ⟨b1,b2,_⟩:=h0 j hj
      have h1 : β (sig k A i) = some b:=(hβc i a1).symm.trans h1
      have h2 : β (sig k A j) = some b:=(hβc j b1).symm.trans h2
      exact yR hh.nd a1 b1 (hr.h.inj _ _ b (by rw [a2,Ent.held_ren]; exact hi) (by rw [b2,Ent.held_ren]; exact hj) h1 h2) }
  refine (hf E βc vs hr.h.xlt hcall.gid hcall hvc).mono ?_
  rintro e w' ⟨v,rfl,E',β',rfl,hok,hrd⟩
  -- old blocks that were not handed over
  have hfoot : ∀ b,oB βc H0 b → ∃ i,eN A i = true ∧ (S.ent (sig k A i)).held = true ∧ β (sig k A i) = some b:=fun b ⟨i,hi,hb⟩=>by
    obtain ⟨h1,h2,_⟩:=h0 i hi
    exact ⟨i,h1,by rw [h2,Ent.held_ren]; exact hi,by rw [← hβc i h1]; exact hb⟩
  have hfown : ∀ b,oB βc H0 b → O.own b:=fun b hb=>by
    obtain ⟨i,_,h2,h3⟩:=hfoot b hb
    have he:=hr.h.ent (sig k A i)
    exact hr.h.own h2 h3
  have hcown : ∀ b,(⟨E.w,E.X,oB βc H0,βc,none,fun _=>[],fun _=>0,fun _=>[],fun _=>(#[],.skip,.skip)⟩ : cR).own b → O.own b:=fun b hb=>by
    rcases hb with hb | hb
    · exact .inl (Nat.le_trans hr.h.size hb)
    · exact hfown b hb
  have hfrE : ∀ i,k ≤ i ∧ i < k + m → S.ent i = .fresh:=fun i h1=>by
    have:=hfr (i - k) (by omega)
    rwa [show k + (i - k) = i by omega] at this
  have hfresh : ∀ i,k ≤ i → i < k + m → β i = none:=fun i h1 h2=>by
    have he:=hr.h.ent i
    rw [hfrE i ⟨h1,h2⟩] at he; exact he
  let βn : cF:=fun i=>if k ≤ i ∧ i < k + m then β' (i - k) else if i ∈ A then β' (1000 + A.idxOf i) else β i
  have hAk : ∀ i,i ∈ A → ¬ (k ≤ i ∧ i < k + m):=fun i hi hki=>by
    have h1:=List.all_eq_true.1 hh.cov i hi
    obtain ⟨x,hx,hxe⟩:=List.mem_map.1 (by simpa using h1 : i ∈ H0.map (fun x=>sig k A x.1))
    have h2:=hh.ents x hx
    rw [hxe,hfrE i hki] at h2
    have h3 : (x.2.ren (sig k A)).held = true:=by rw [Ent.held_ren]; exact h2.2.1
    rw [← h2.2.2.1] at h3; cases h3
  have hnA : ∀ i,i ∈ A → βn i = β' (1000 + A.idxOf i):=fun i hi=>by simp [βn,hAk i hi,hi]
  have hnO : ∀ i,i ∉ A → ¬ (k ≤ i ∧ i < k + m) → βn i = β i:=fun i h1 h2=>by simp [βn,h1,h2]
  have hβ1 : β.le βn:=fun i b hi=>by
    by_cases hki : k ≤ i ∧ i < k + m
    · rw [hfresh i hki.1 hki.2] at hi; cases hi
    · by_cases hA : i ∈ A
      · rw [hnA i hA]
        obtain ⟨h1,h2⟩:=vC (k:=k) hA
        exact hok.given _ _ (((hβc _ h1).trans (by rw [h2])).trans hi)
      · rw [hnO i hA hki]; exact hi
  have hβ2 : ∀ i,pJ m A i = true → βn (sig k A i) = β' i:=fun i hi=>by
    by_cases hg : eN A i = true
    · rw [hnA _ (oV hg),yS hh.nd hg]
    · simp only [pJ, hg, Bool.or_false, Nat.blt_eq] at hi
      have h2 : ¬ 1000 ≤ i:=by omega
      have h1 : sig k A i = k + i:=by simp [sig,h2]
      rw [h1]
      simp [βn,hi]
  have hle : E.le E':=hok.le
  -- the entries behind the call
  have hkey1 : ∀ i,pJ m A i = true → ∀ j,pJ m A j = true → sig k A i = sig k A j → i = j:=fun i hi j hj hij=>by
    by_cases hgi : eN A i = true
    · by_cases hgj : eN A j = true
      · exact yR hh.nd hgi hgj hij
      · exfalso
        simp only [pJ,hgj,Bool.or_false,Nat.blt_eq] at hj
        have h2 : sig k A j = k + j:=by simp [sig,show ¬ 1000 ≤ j by omega]
        exact hAk _ (oV (k:=k) hgi) (by rw [hij,h2]; omega)
    · by_cases hgj : eN A j = true
      · exfalso
        simp only [pJ,hgi,Bool.or_false,Nat.blt_eq] at hi
        have h2 : sig k A i = k + i:=by simp [sig,show ¬ 1000 ≤ i by omega]
        exact hAk _ (oV (k:=k) hgj) (by rw [← hij,h2]; omega)
      · simp only [pJ, hgi, hgj, Bool.or_false, Nat.blt_eq] at hi hj
        simp only [sig,show ¬ 1000 ≤ i by omega,show ¬ 1000 ≤ j by omega,if_false] at hij
        omega
  have hent : ∀ i,(St.set ⟨S.sl,uC k A H0 H1 S.H⟩ t (r.ren (sig k A))).ent i =
      if i ∈ H1.map (fun x=>sig k A x.1) then (look (defE i) i (H1.map fun x=>(sig k A x.1,x.2.ren (sig k A)))) else if i ∈ H0.map (fun x=>sig k A x.1) then .none else S.ent i:=fun i=>by
    simp only [St.ent,entL,St.set,uC,nR,List.map_map]
    have e1 : (Prod.fst ∘ fun x : Nat × Ent=>(sig k A x.1,x.2.ren (sig k A))) = fun x=>sig k A x.1:=rfl
    have e2 : (Prod.fst ∘ fun x : Nat × Ent=>(sig k A x.1,Ent.none)) = fun x=>sig k A x.1:=rfl
    rw [e1,e2]
    split
    · rfl
    · split
      · rename_i h1 h2
        obtain ⟨e,h3,h4⟩:=iZ (z:=defE i) (l:=H0.map fun x=>(sig k A x.1,Ent.none)) (by rw [List.map_map,e2]; exact h2)
        rw [h4]
        obtain ⟨x,_,hx⟩:=List.mem_map.1 h3
        cases hx; rfl
      · rfl
  have hlook1 : ∀ j,pJ m A j = true → j ∈ H1.map (·.1) → look (defE (sig k A j)) (sig k A j) (H1.map fun x=>(sig k A x.1,x.2.ren (sig k A))) = (entL H1 j).ren (sig k A):=by
    intro j hj
    unfold entL
    have aux : ∀ (z z' : Ent) (l : List (Nat × Ent)),(∀ x ∈ l,pJ m A x.1 = true) → j ∈ l.map (·.1) → look z (sig k A j) (l.map fun x=>(sig k A x.1,x.2.ren (sig k A))) = (look z' j l).ren (sig k A):=by
      intro z z' l
      induction l with
      | nil=>intro _ h; simp at h
      | cons x l ih =>
        obtain ⟨i,e⟩:=x
        intro hl hm
        simp only [List.map_cons,bC]
        by_cases hij : i = j
        · subst hij; rw [if_pos rfl,if_pos rfl]
        · rw [if_neg (fun h => hij (hkey1 i (hl (i, e) List.mem_cons_self) j hj h)), if_neg hij]
          refine ih (fun x hx=>hl x (List.mem_cons_of_mem _ hx)) ?_
          simp only [List.map_cons,List.mem_cons] at hm
          rcases hm with h | h
          · exact absurd h.symm hij
          · exact h
    exact aux _ _ H1 (fun x hx=>(hH1 x hx).1)
  have hH1r : ∀ j,j ∈ H1.map (·.1) → pJ m A j = true ∧ (entL H1 j).refsIn (pJ m A) = true:=fun j hj=>by
    obtain ⟨e,h1,h2⟩:=iZ (z:=defE j) hj
    have h3:=hH1 _ h1
    exact ⟨h3.1,by rw [show entL H1 j = e from h2]; exact h3.2⟩
  have cases1 : ∀ i,i ∈ H1.map (fun x=>sig k A x.1) → ∃ j,j ∈ H1.map (·.1) ∧ pJ m A j = true ∧ i = sig k A j:=fun i hi=>by
    obtain ⟨x,hx,rfl⟩:=List.mem_map.1 hi
    exact ⟨x.1,List.mem_map.2 ⟨x,hx,rfl⟩,(hH1 x hx).1,rfl⟩
  -- an entry that was not handed over
  have hold : ∀ i,i ∉ H1.map (fun x=>sig k A x.1) → i ∉ H0.map (fun x=>sig k A x.1) → (S.ent i).held = true → ∀ b,β i = some b → βn i = some b ∧ b < E.w.heap.size ∧ ¬ oB βc H0 b:=fun i h1 h2 h3 b hb=>by
    refine ⟨hβ1 i b hb,?_,?_⟩
    · exact hr.h.lt h3 hb
    · rintro ⟨j, hj, hbj⟩
      obtain ⟨g1,g2,_⟩:=h0 j hj
      have : i = sig k A j:=hr.h.inj i (sig k A j) b h3 (by rw [g2,Ent.held_ren]; exact hj) hb (by rw [← hβc j g1]; exact hbj)
      exact h2 (List.mem_map.2 ⟨_,tY hj,this.symm⟩)
  have hcov : ∀ i,i ∈ A → i ∈ H0.map (fun x=>sig k A x.1):=fun i hi=>by
    have:=List.all_eq_true.1 hh.cov i hi
    simpa using this
  have hold' : ∀ i,i ∉ H0.map (fun x=>sig k A x.1) → S.ent i ≠ .fresh → βn i = β i:=fun i h0 hf=>by
    refine hnO i (fun hA=>h0 (hcov i hA)) (fun hki=>hf ?_)
    exact hfrE i hki
  refine hn E' βn _ ⟨by simp [Act.put,hr.n],hr.nd.mono (fun b hx=>(hok.block b (dN hx) (fun hf=>by obtain ⟨i,_,h2,h3⟩:=hfoot b hf; exact hr.h.nodef h2 h3 _ hx)).trans hx),?_,?_⟩
  · exact {
      os:=hok.os.trans hr.h.os,tape:=hok.tape.trans hr.h.tape,output:=hok.output.trans hr.h.output,size:=Nat.le_trans hr.h.size hok.size
      block:=fun j hj hf=>by
        have hnf : ¬ oB βc H0 j:=fun h=>by
          rcases hfown j h with h1 | h1
          · omega
          · exact hf h1
        exact (hok.block j (Nat.lt_of_lt_of_le hj hr.h.size) hnf).trans (hr.h.block j hj hf)
      xlt:=hok.xlt
      xold:=fun b o hb hf=>by
        have hnf : ¬ oB βc H0 b:=fun h=>by
          rcases hfown b h with h1 | h1
          · omega
          · exact hf h1
        exact (hok.xold b o (Nat.lt_of_lt_of_le hb hr.h.size) hnf).trans (hr.h.xold b o hb hf)
      le:=hr.h.le.trans hle
      gid:=hr.h.gid
      given:=fun i b hi=>hβ1 i b (hr.h.given i b hi)
      ent := fun i => by
        rw [hent i]
        by_cases hi1 : i ∈ H1.map (fun x=>sig k A x.1)
        · rw [if_pos hi1]
          obtain ⟨j,hj,hbj,rfl⟩:=cases1 i hi1
          rw [hlook1 j hbj hj]
          have he:=hok.ent j
          have hrf:=(hH1r j hj).2
          have hb2:=hβ2 j hbj
          cases hE : entL H1 j with
          | none=>trivial
          | fresh=>rw [hE] at he; exact hb2.trans he
          | blk e es =>
            rw [hE] at he hrf
            rcases he with ⟨g1,g2⟩ | ⟨b,ws,sp,g1,g2,g3,g4,g5⟩
            · exact .inl ⟨hb2.trans g1,by rw [g2]; rfl⟩
            · exact .inr ⟨b,ws,sp,hb2.trans g1,hcown b g2,g3,g4,RdL.renp (fun id b hid hb=>(hβ2 id hid).trans hb) g5 hrf⟩
          | tail e sz n =>
            rw [hE] at he
            rcases he with ⟨g1,g2⟩ | ⟨b,c,g1,g2,g3,g4⟩
            · exact .inl ⟨hb2.trans g1,g2⟩
            · exact .inr ⟨b,c,hb2.trans g1,hcown b g2,g3,g4⟩
          | loop lk es st pe =>
            rw [hE] at hrf; cases hrf
          | kept n es=>rw [hE] at hrf; cases hrf
        · rw [if_neg hi1]
          by_cases hi0 : i ∈ H0.map (fun x=>sig k A x.1)
          · rw [if_pos hi0]; trivial
          · rw [if_neg hi0]
            have he:=hr.h.ent i
            have hnb : ∀ b,(S.ent i).held = true → β i = some b → βn i = some b ∧ E'.w.heap[b]? = E.w.heap[b]? ∧ ∀ o,(E'.X b o ↔ E.X b o):=fun b hhe hb=>by
              obtain ⟨g1,g2,g3⟩:=hold i hi1 hi0 hhe b hb
              exact ⟨g1,hok.block b g2 g3,fun o=>hok.xold b o g2 g3⟩
            cases hE : S.ent i with
            | none=>trivial
            | fresh =>
              rw [hE] at he
              show βn i = none
              by_cases hki : k ≤ i ∧ i < k + m
              · -- a fresh name of the callee's that is told by nothing
                have hbi : i - k ∉ H1.map (·.1):=fun hm=>by
                  have hbb:=(hH1r _ hm).1
                  refine hi1 ?_
                  obtain ⟨x,hx,hxe⟩:=List.mem_map.1 hm
                  refine List.mem_map.2 ⟨x,hx,?_⟩
                  have hx' : x.1 = i - k:=hxe
                  rw [hx']
                  simp only [sig,show ¬ 1000 ≤ i - k by omega,if_false]
                  omega
                have h3:=hok.ent (i - k)
                have h4 : entL H1 (i - k) = defE (i - k):=gO hbi
                rw [h4,defE,if_neg (by omega)] at h3
                simp only [βn,hki,and_self,if_true]
                exact h3
              · rw [hnO i (fun hA=>hi0 (hcov i hA)) hki]; exact he
            | blk e es =>
              rw [hE] at he
              rcases he with ⟨g1,g2⟩ | ⟨b,ws,sp,g1,g2,g3,g4,g5⟩
              · exact .inl ⟨(hold' i hi0 (by rw [hE]; exact fun h=>by cases h)).trans g1,g2⟩
              · obtain ⟨f1, f2, f3⟩ := hnb b (by rw [hE]; rfl) g1
                exact .inr ⟨b,ws,sp,f1,g2,f2.trans g3,fun o=>(f3 o).2 (g4 o),RdL.mono hle hβ1 g5⟩
            | tail e sz n =>
              rw [hE] at he
              rcases he with ⟨g1,g2⟩ | ⟨b,c,g1,g2,g3,g4⟩
              · exact .inl ⟨(hold' i hi0 (by rw [hE]; exact fun h=>by cases h)).trans g1,g2⟩
              · obtain ⟨f1, f2, f3⟩ := hnb b (by rw [hE]; rfl) g1
                exact .inr ⟨b,c,f1,g2,f2.trans g3,fun o ho=>(f3 o).2 (g4 o ho)⟩
            | loop lk es st pe =>
              rw [hE] at he
              obtain ⟨b,q,g1,g2,g3,g4,g5,g6,g7,g8,g9,g10⟩:=he
              obtain ⟨f1,f2,f3⟩:=hnb b (by rw [hE]; rfl) g1
              exact ⟨b,q,f1,g2,f2.trans g3,fun o=>(f3 o).2 (g4 o),g5,g6,g7,g8,g9,g10.1,RdL.mono hle hβ1 g10.2⟩
            | kept n es =>
              rw [hE] at he
              exact ⟨RdL.mono hle hβ1 he.1,fun c hc=>(hok.block c (dN (he.2 c hc)) (fun hf=>by obtain ⟨i,_,h2,h3⟩:=hfoot c hf; exact hr.h.nodef h2 h3 _ (he.2 c hc))).trans (he.2 c hc)⟩
      inj := fun i j b hi hj hbi hbj => by
        rw [hent i] at hi
        rw [hent j] at hj
        have hone : ∀ i,i ∈ H1.map (fun x=>sig k A x.1) → (look (defE i) i (H1.map fun x=>(sig k A x.1,x.2.ren (sig k A)))).held = true → βn i = some b → ∃ a,(entL H1 a).held = true ∧ β' a = some b ∧ i = sig k A a ∧ pJ m A a = true:=fun i hm hh hb=>by
          obtain ⟨a,ha,hba,rfl⟩:=cases1 i hm
          rw [hlook1 a hba ha,Ent.held_ren] at hh
          exact ⟨a,hh,(hβ2 a hba).symm.trans hb,rfl,hba⟩
        have hown1 : ∀ a,(entL H1 a).held = true → β' a = some b → E.w.heap.size ≤ b ∨ oB βc H0 b:=fun a hh hb=>by
          exact hok.own hh hb
        have hto : ∀ i,i ∉ H0.map (fun x=>sig k A x.1) → (S.ent i).held = true → βn i = some b → β i = some b:=fun i h0 hh hb=>by
          rw [← hold' i h0 (fun h=>by rw [h] at hh; cases hh)]; exact hb
        have hmix : ∀ i j,i ∈ H1.map (fun x=>sig k A x.1) → (look (defE i) i (H1.map fun x=>(sig k A x.1,x.2.ren (sig k A)))).held = true → βn i = some b → j ∉ H1.map (fun x=>sig k A x.1) → j ∉ H0.map (fun x=>sig k A x.1) → (S.ent j).held = true → βn j = some b → False:=fun i j h1 h2 h3 h4 h5 h6 h7=>by
          obtain ⟨a,ha,hb,_⟩:=hone i h1 h2 h3
          obtain ⟨_,f2,f3⟩:=hold j h4 h5 h6 b (hto j h5 h6 h7)
          rcases hown1 a ha hb with h | h
          · omega
          · exact f3 h
        by_cases hi1 : i ∈ H1.map (fun x=>sig k A x.1)
        · rw [if_pos hi1] at hi
          by_cases hj1 : j ∈ H1.map (fun x=>sig k A x.1)
          · rw [if_pos hj1] at hj
            obtain ⟨a,ha,hab,rfl,_⟩:=hone i hi1 hi hbi
            obtain ⟨c,hc,hcb,rfl,_⟩:=hone j hj1 hj hbj
            rw [hok.inj a c b ha hc hab hcb]
          · rw [if_neg hj1] at hj
            by_cases hj0 : j ∈ H0.map (fun x=>sig k A x.1)
            · rw [if_pos hj0] at hj; cases hj
            · rw [if_neg hj0] at hj
              exact (hmix i j hi1 hi hbi hj1 hj0 hj hbj).elim
        · rw [if_neg hi1] at hi
          by_cases hi0 : i ∈ H0.map (fun x=>sig k A x.1)
          · rw [if_pos hi0] at hi; cases hi
          · rw [if_neg hi0] at hi
            by_cases hj1 : j ∈ H1.map (fun x=>sig k A x.1)
            · rw [if_pos hj1] at hj
              exact (hmix j i hj1 hj hbj hi1 hi0 hi hbi).elim
            · rw [if_neg hj1] at hj
              by_cases hj0 : j ∈ H0.map (fun x=>sig k A x.1)
              · rw [if_pos hj0] at hj; cases hj
              · rw [if_neg hj0] at hj
                exact hr.h.inj i j b hi hj (hto i hi0 hi hbi) (hto j hj0 hj hbj) }
  · intro s
    have hts : t < a.tmps.size:=hr.n ▸ ht
    by_cases hst : t = s
    · subst hst
      have h1:=Rd.renp (p:=pJ m A) (fun id b hid hb=>(hβ2 id hid).trans hb) hrd hrp
      simpa [Act.put,St.get,St.set,bC,hts] using h1
    · have := Rd.mono hle hβ1 (hr.sl s)
      simpa [Act.put,St.get,St.set,bC,hst,Array.getElem?_setIfInBounds_ne] using this

theorem aDR {f : FuncId} {xs : List Operand} {ts : Array TypeId} {ds ds' : List D} {r r' : D} {H0 H1 U : List (Nat × Ent)} (k m : Nat) (A : List Nat) (ho : o.op = .call { callee:=.value (.func f),args:=xs.toArray,argTypes:=ts }) (hd : o.dst = some t) (ht : t < N)
    (hc : bF P f) (hx : SVs S xs ds') (hds : D.renL (sig k A) ds = ds') (hp : D.refsInL (eN A) ds = true) (hkm : Nat.ble (k + m) 1000 = true) (hfr : ∀ e ∈ (List.range m).map (fun j=>S.ent (k + j)),e = .fresh)
    (hh : HandM S k A H0) (hf : FnH P f ds H0 r H1) (hrr : r.ren (sig k A) = r') (hrp : r.refsIn (pJ m A) = true) (hH1 : ∀ x ∈ H1,pJ m A x.1 = true ∧ x.2.refsIn (pJ m A) = true)
    (hU : (H1.map fun x=>(sig k A x.1,x.2.ren (sig k A))) ++ (H0.map fun x=>(sig k A x.1,Ent.none)) = U) : IOp P O N o S ⟨(t,r') :: S.sl,U ++ S.H⟩:=by
  have h:=aCW (P:=P) (O:=O) (N:=N) (S:=S) (o:=o) (t:=t) (f:=f) (ds:=ds) (ds':=ds') (r:=r) (r':=r') (H0:=H0) (H1:=H1) (H2:=U ++ S.H) k m A hd ht (fun E β a hr=>⟨xs.map a.eval,by
    simp [execOp,ho,resolve,Deferred.ofValue,Act.eval,invoke,iG hc],hx.rd hr⟩) hds hp (Nat.le_of_ble_eq_true hkm) (fun j hj=>hfr _ (List.mem_map.2 ⟨j,List.mem_range.2 hj,rfl⟩)) hh hf hrr hrp hH1 (by rw [← hU,uC,List.append_assoc])
  exact h
end
end Go.IL
namespace Go.IL
section
variable {P : Program} {O : cR} {N : Nat} {S S' : St} {o : Oper} {t : Nat} {Q : Exit → St → Prop}

end
end Go.IL
open Go.RowKit (Below)
namespace Go.IL
def cpy {α : Type} (xs ys : List α) : List α:=ys.take xs.length ++ xs.drop ys.length
theorem cpy_len {α : Type} (xs ys : List α) : (cpy xs ys).length = xs.length:=by simp [cpy]; omega
theorem aEf {α : Type} {xs ys zs : List α} {n : Nat} (h : cpy xs ys = zs) (hl : xs.length = n) : zs.length = n:=by rw [← h,cpy_len,hl]
section
variable {P : Program} {O : cR} {N : Nat} {S S' : St} {o : Oper} {t : Nat} {Q : Exit → St → Prop}
theorem aEZ {α : Type} (f : Enc0 α) (xs ys : List α) : eY (D.flat (xs.map f.d)) 0 ((D.flat (ys.map f.d)).take (min ys.length xs.length * f.sz)) = D.flat ((cpy xs ys).map f.d):=by
  have e1 : (D.flat (ys.map f.d)).take (min ys.length xs.length * f.sz) = D.flat ((ys.take xs.length).map f.d):=by
    have h:=rR f ys (min ys.length xs.length)
    have hl : (D.flat ((ys.take (min ys.length xs.length)).map f.d)).length = min ys.length xs.length * f.sz:=by
      rw [f.flat_len,List.length_take]; congr 1; omega
    rw [h,← hl,List.take_append_of_le_length (Nat.le_refl _),List.take_length]
    congr 2
    rcases Nat.le_total ys.length xs.length with h | h
    · rw [Nat.min_eq_left h,List.take_length,List.take_of_length_le h]
    · rw [Nat.min_eq_right h]
  rw [e1]
  unfold eY cpy
  have e2 : (D.flat ((ys.take xs.length).map f.d)).length = min ys.length xs.length * f.sz:=by rw [f.flat_len,List.length_take]; congr 1; omega
  have e3 : (D.flat (xs.map f.d)).drop (min ys.length xs.length * f.sz) = D.flat ((xs.drop ys.length).map f.d):=by
    have h:=rR f xs (min ys.length xs.length)
    have hl : (D.flat ((xs.take (min ys.length xs.length)).map f.d)).length = min ys.length xs.length * f.sz:=by
      rw [f.flat_len,List.length_take]; congr 1; omega
    rw [h,← hl,List.drop_append_of_le_length (Nat.le_refl _),List.drop_length,List.nil_append]
    congr 2
    rcases Nat.le_total ys.length xs.length with h | h
    · rw [Nat.min_eq_left h]
    · rw [Nat.min_eq_right h,List.drop_length,List.drop_of_length_le h]
  rw [e2,Nat.zero_add,e3,List.take_zero,List.nil_append,f.flat_append]
theorem aDP {α : Type} (f : Enc0 α) {T T2 e : TypeId} {x y : Operand} {id n : Nat} {e' : TypeId} {xs ys zs : List α} {z : Option Value} {bytes : Nat} (ho : o.op = .call { callee := .builtin .copy, args := #[x, y], argTypes := #[T, T2] }) (hd : o.dst = some t) (ht : t < N)
    (hu : P.underlying T = some (.slice e)) (hi : TI P e z f.sz bytes) (hx : S.op x = .osl id f.sz n) (hl : xs.length = n) (he : S.ent id = .blk e' (D.flat (xs.map f.d)))
    (hy : ∀ E β a,Rel O N S E β a → Src E β (a.eval y) ys.length (D.flat (ys.map f.d))) (hz : cpy xs ys = zs) : IOp P O N o S ((S.setE id (.blk e' (D.flat (zs.map f.d)))).set t (.int .i64 ((min ys.length n : Nat) : Int))):=by
  intro E β a hr next Q hn
  subst hz
  have h1 : Rd E β (a.eval x) (.osl id f.sz n):=hx ▸ hr.op x
  have hone : ((D.flat (ys.map f.d)).take (min ys.length n * f.sz)).all D.one = true:=uA (f.one ys) _
  generalize hv : a.eval x = v at h1
  cases h1 with
  | nosl =>
    have hx0 : xs = []:=List.length_eq_zero_iff.1 hl
    subst hx0
    have e0 : cpy ([] : List α) ys = []:=by simp [cpy]
    rw [e0] at hn
    have hsame : Rel O N (S.setE id (.blk e' (D.flat (([] : List α).map f.d)))) E β a:=hr.same (fun _=>rfl) (fun j=>by
      by_cases hj : j = id
      · subst hj; rw [vS,he]
      · rw [sR hj])
    have hrun0 : ∀ r,(Builtin.copy_ #[T,T2] o.type #[a.eval x,a.eval y]).run P E.w = r → (execOp a.eval o).run P E.w = r.andThen fun v w'=>.ok (.value v) w':=fun r hr'=>by
      simp [execOp,ho,resolve,invoke,builtin,hr']
    have hra : (Builtin.copy_ #[T,T2] o.type #[a.eval x,a.eval y]).run P E.w = .ok (goInt 0) E.w:=by
      have hl0 : ∀ q : Addr,(loadCells q 0).run P E.w = .ok #[] E.w:=fun q=>by simpa using run_loadCells_list (P:=P) E.w q [] (by simp)
      have hmn : ∀ k,Nat.min k 0 = 0:=fun k=>Nat.min_zero k
      rcases hy E β a hr with ⟨hyv | ⟨ad,sc,hyv⟩,_,_⟩ | ⟨yb,yoff,ycap,us,hyv,_,_⟩ <;>
      · rw [hv, hyv]
        simp [Builtin.copy_,run_underlying hu,Builtin.lenOf,Builtin.firstCells,hi.run_size,hmn,storeCells,hl0]
    unfold Oper.wp
    rw [hrun0 _ hra]
    simp only [Result.andThen_ok,Oper.upon,hd]
    exact hn E β _ (hsame.set ht (by rw [Nat.min_zero]; unfold goInt; exact .int _ _ _))
  | osl _ _ b _ cap _ hb hc hsz c e2 f2 hcap hcs hcm =>
    subst hl
    exact aA9 ho hd ht hu hi he hy (f.flat_len ys) hone (by rw [f.flat_len]; omega) rfl (aEZ f xs ys) E β a hr (by
      rw [hv]; exact .rsl _ _ _ 0 _ cap b 0 hb hc hsz ⟨fun _=>rfl,Nat.le_refl _⟩ c e2 f2 hcap (by omega) hcm) next Q hn
theorem aCy {E : Env} {β : cF} {v : Value} {l : List D} (h : Rd E β v (.slice true l)) :
    (v = .slice none 0 0 ∧ l = []) ∨ (∃ b off sz vs,v = .slice (some ⟨b,off,none⟩) l.length l.length ∧ (∀ d ∈ l,d.cells.length = sz) ∧ 0 < sz ∧ E.row b off vs ∧ RdL E β0 vs (D.flat l)) ∨ ∃ ad,v = .slice (some ad) 0 0 ∧ l = []:=by
  cases h with
  | slice _ b off len cap sz _ vs _ hl hc hf hz hsz hr hv=>subst hl; rw [hf rfl]; exact .inr (.inl ⟨b,off,sz,vs,rfl,hz,hsz,hr,hv⟩)
  | nslice=>exact .inl ⟨rfl,rfl⟩
  | eslice _ ad cap _ hf=>rw [hf rfl]; exact .inr (.inr ⟨ad,rfl,rfl⟩)
theorem sL {E : Env} {β : cF} {a : Act} (hr : Rel O N S E β a) {len cap : Nat} {y m : Operand} {k1 k2 : IntKind} {h : Int} (hy : SV S y (.int k1 h)) (hm : SV S m (.int k2 h)) (h0 : 0 ≤ h) (h1 : h ≤ cap) :
    (Instr.sliceBounds true len cap none (some (a.eval y)) (some (a.eval m))).run P E.w = .ok (0,h.toNat,h.toNat) E.w:=by
  have e1 : (h.toNat : Int) = h:=by omega
  simp [Instr.sliceBounds,Instr.sliceBound,fM (hy.rd hr),fM (hm.rd hr),asIntOf,h0,h1,e1]
theorem aCU {T e : TypeId} {x y m : Operand} {s r : List D} {f : Bool} {h : Int} {k1 k2 : IntKind} {z : Option Value} {size bytes : Nat} (ho : o.op = .slice T x none (some y) (some m)) (hd : o.dst = some t) (ht : t < N) (hu : P.underlying T = some (.slice e)) (hi' : TI P e z size bytes)
    (hx : SV S x (.slice f s)) (hz : ∀ d ∈ s,d.cells.length = size) (hy : SV S y (.int k1 h)) (hm : SV S m (.int k2 h)) (h0 : 0 ≤ h) (h2 : h ≤ s.length) (hr' : s.take h.toNat = r) : IOp P O N o S (S.set t (.slice true r)) :=
  eZ hd ht fun E β a hr => by
    subst hr'
    rcases nG (hx.rd hr) with ⟨hev,rfl⟩ | ⟨b,off,cap,sz,vs,hev,hc,_,hzz,hsp,hrow,hvs⟩ | ⟨ad,cap,hev,rfl⟩
    · have e1 : h = 0 := by simp at h2; omega
      subst e1
      have hb:=sL (P:=P) hr (len:=0) (cap:=0) hy hm (Int.le_refl 0) (Int.le_refl 0)
      refine ⟨.slice none 0 0,?_,by simpa using Rd.nslice β true⟩
      simp [execOp,ho,hev,Instr.sliceAt,Instr.slice,run_underlying hu,hb,hi'.run_size]
    · have hb := sL (P := P) hr (len := s.length) (cap := cap) hy hm h0 (by omega)
      have hlen : (s.take h.toNat).length = h.toNat:=by rw [List.length_take]; omega
      by_cases hs0 : h.toNat = 0
      · have hs : s.take h.toNat = [] := by rw [hs0]; rfl
        refine ⟨.slice (some ⟨b,off,none⟩) 0 0,?_,by rw [hs]; exact .eslice _ _ 0 true (fun _=>rfl)⟩
        rw [hs0] at hb
        simp [execOp,ho,hev,Instr.sliceAt,Instr.slice,run_underlying hu,hb,hi'.run_size,gL]
      · have hflat := hvs.take (h.toNat * size)
        have hsplit : D.flat s = D.flat (s.take h.toNat) ++ D.flat (s.drop h.toNat):=by
          have : D.flat (s.take h.toNat) ++ D.flat (s.drop h.toNat) = D.flat (s.take h.toNat ++ s.drop h.toNat):=by simp only [D.flat]; rw [← List.flatMap_append]
          rw [this,List.take_append_drop]
        have hfl : (D.flat (s.take h.toNat)).length = h.toNat * size:=by
          have : ∀ l : List D,(∀ d ∈ l,d.cells.length = size) → (D.flat l).length = l.length * size:=by
            intro l
            induction l with
            | nil=>intro _; simp [D.flat]
            | cons d l ih=>intro hh; have h1:=ih (fun d' hd'=>hh d' (by simp [hd'])); have h2:=hh d (by simp); simp only [D.flat,List.flatMap_cons,List.length_append,List.length_cons] at *; rw [h1,h2,Nat.add_mul]; omega
          rw [this _ (fun d hd=>hz d (List.mem_of_mem_take hd)),hlen]
        rw [hsplit,← hfl,List.take_append_of_le_length (Nat.le_refl _),List.take_length] at hflat
        refine ⟨.slice (some ⟨b,off,none⟩) h.toNat h.toNat,?_,.slice _ b off _ _ size true (vs.take (D.flat (s.take h.toNat)).length) _ hlen (Nat.le_refl _) (fun _=>rfl) (fun d hd=>hz d (List.mem_of_mem_take hd)) ?_ (fun k v hk=>?_) hflat⟩
        · simp [execOp,ho,hev,Instr.sliceAt,Instr.slice,run_underlying hu,hb,hi'.run_size,gL]
        · have : s ≠ [] := by rintro rfl; simp at h2; omega
          obtain ⟨d,hd⟩:=List.exists_mem_of_ne_nil s this
          have h1:=hz d hd
          have h3:=hzz d hd
          omega
        · rw [List.getElem?_take] at hk
          split at hk
          · exact hrow k v hk
          · cases hk
    · have e1 : h = 0 := by simp at h2; omega
      subst e1
      have hb:=sL (P:=P) hr (len:=0) (cap:=cap) hy hm (Int.le_refl 0) (by omega)
      refine ⟨.slice (some ad) 0 0,?_,by simpa using Rd.eslice β ad 0 true (fun _=>rfl)⟩
      simp [execOp,ho,hev,Instr.sliceAt,Instr.slice,run_underlying hu,hb,hi'.run_size,Addr.add]
theorem aAx {T e : TypeId} {x y : Operand} {z : Value} {size bytes m : Nat} {l es : List D} (id' : Nat)
    (ho : o.op = .call { callee:=.builtin .append,args:=#[x,y],argTypes:=#[T,T] }) (hd : o.dst = some t) (ht : t < N)
    (hu : P.underlying T = some (.slice e)) (hi : TI P e (some z) size bytes) (hz : z.cells.size = size) (hsp : 0 < size) (hfr : S.ent id' = .fresh)
    (hx : SV S x (.slice true l)) (hl : (D.flat l).length = l.length * size) (hy : ∀ E β a,Rel O N S E β a → Src E β (a.eval y) m es) (hes : es.length = m * size) (hne : 0 < m)
    (hm : l.length + m ≤ maxLen) (hb : (l.length + m) * bytes ≤ 140737488355328) :
    IOp P O N o S ((S.setE id' (.blk e (D.flat l ++ es))).set t (.osl id' size (l.length + m))):=by
  have hs1 : S.sl = S.sl:=rfl
  have hs2 : ∀ j,S.ent j = S.ent j ∨ S.ent j = .none:=fun _=>.inl rfl
  intro E β a hr next Q hn
  obtain ⟨i,hi1,hi2,hi3,hi4⟩:=hi.at
  have hfre : β id' = none:=by have:=hr.h.ent id'; rw [hfr] at this; exact this
  have hrun : ∀ v,(Builtin.append_ #[T,T] o.type #[a.eval x,a.eval y]).run P E.w = v → (execOp a.eval o).run P E.w = v.andThen fun v w'=>.ok (.value v) w':=fun v hv=>by
    simp [execOp,ho,resolve,invoke,builtin,hv]
  have hts : t < a.tmps.size:=hr.n ▸ ht
  let S2 : St:=(S.setE id' (.blk e (D.flat l ++ es))).set t (.osl id' size (l.length + m))
  have slots : ∀ (E' : Env) (β' : cF) (v : Value),E.le E' → β.le β' → Rd E' β' v (.osl id' size (l.length + m)) → ∀ s,Rd E' β' ((a.put (some t) v).tmps.getD s undef) (S2.get s):=by
    intro E' β' v hle hβ hv s
    by_cases hst : t = s
    · subst hst
      simpa [S2,Act.put,St.get,St.set,bC,hts] using hv
    · have := Rd.mono hle hβ (hr.sl s)
      simpa [S2,Act.put,St.get,St.set,St.setE,bC,hst,Array.getElem?_setIfInBounds_ne,hs1] using this
  let β' : Nat → cF:=fun b j=>if j = id' then some b else β j
  have hβ : ∀ b,β.le (β' b):=fun b j k hj=>by
    by_cases hji : j = id'
    · subst hji; rw [hfre] at hj; cases hj
    · simp [β',hji,hj]
  have hsame : ∀ j,j ≠ id' → S2.ent j = S.ent j:=fun j hj=>by simp [S2,St.ent,entL,St.setE,St.set,bC,Ne.symm hj]
  have hother : ∀ b j,j ≠ id' → (S2.ent j = S.ent j ∧ β' b j = β j) ∨ S2.ent j = .none:=by
    intro b j hj
    rw [hsame j hj]
    rcases hs2 j with h | h
    · exact .inl ⟨h,by simp [β',hj]⟩
    · exact .inr h
  have hheld : ∀ j,j ≠ id' → (S2.ent j).held = true → (S.ent j).held = true:=fun j hj h=>by rw [← hsame j hj]; exact h
  have hheld0 : ∀ j,(S.ent j).held = true → (S.ent j).held = true:=fun j h=>by
    rcases hs2 j with h1 | h1
    · rw [← h1]; exact h
    · rw [h1] at h; cases h
  have hentid : S2.ent id' = .blk e (D.flat l ++ es):=by simp [S2,St.ent,entL,St.setE,St.set,bC]
  have fresh : ∀ (vs us : List Value) (cap : Nat),RdL E β vs (D.flat l) → RdL E β us es → l.length + m ≤ cap → cap ≤ maxLen →
      (Builtin.append_ #[T,T] o.type #[a.eval x,a.eval y]).run P E.w = .ok (.slice (some ⟨E.w.heap.size,0,none⟩) (l.length + m) cap) (E.w.drew.alloc (.cells (vs.toArray ++ us.toArray ++ Builtin.zeroCells z.cells (cap - (l.length + m))) e)) →
      o.wp P a E.w next Q:=by
    intro vs us cap hvs hus hcap hcm hra
    unfold Oper.wp
    rw [hrun _ hra]
    simp only [Result.andThen_ok,Oper.upon,hd]
    let E' : Env:=⟨E.w.drew.alloc (.cells (vs.toArray ++ us.toArray ++ Builtin.zeroCells z.cells (cap - (l.length + m))) e),fun b o=>b = E.w.heap.size ∨ E.X b o⟩
    have hs : Step O E E' E.w.heap.size :=
      ⟨rfl,rfl,rfl,by simp [E'],by simp [E'],.inl hr.h.size,fun k hk _=>heap_alloc_old E.w.drew _ hk,fun k o hk=>by simp [E',hk],fun _ h=>Nat.lt_irrefl _ (dN h)⟩
    have hle : E.le E':=hs.le (fun o v h1 _=>by have:=World.block_lt_of_cell? _ _ h1; simp at this) (fun c e f h1=>by have:=dN h1; simp at this)
    have hnew : E'.w.heap[E.w.heap.size]? = some (.cells (vs.toArray ++ us.toArray ++ Builtin.zeroCells z.cells (cap - (l.length + m))) e (0,0)):=heap_alloc_new E.w.drew _
    have hvl:=hvs.length
    have hul:=hus.length
    have hvs':=(RdL.mono hle (hβ E.w.heap.size) hvs).append (RdL.mono hle (hβ E.w.heap.size) hus)
    refine hn E' (β' E.w.heap.size) _ ⟨by simp [Act.put,hr.n],hr.nd.step hs,?_,slots E' _ _ hle (hβ _) ?_⟩
    · refine HOk.put hr.h hs hle (hβ _) (fun j hj => hother _ j hj) ?_ (id := id') (by simp [β']) ?_ (fun _ _ => trivial)
      · intro j hj hh hbj
        have:=hr.h.held_lt (hheld0 j (hheld j hj hh)) hbj
        omega
      · rw [hentid]
        exact ⟨vs ++ us,(Builtin.zeroCells z.cells (cap - (l.length + m))).toList,by rw [hnew]; simp,fun o=>.inl rfl,hvs'⟩
    · exact .osl _ _ E.w.heap.size _ cap size (by simp [β']) hcap hsp _ _ _ hnew
        (by simp only [Array.size_append,List.size_toArray,size_zeroCells,hz,hvl,hul,hl,hes]; rw [← Nat.add_mul,← Nat.add_mul]; exact Nat.mul_le_mul_right _ (by omega)) hcm
  rcases hy E β a hr with ⟨_,hm0,_⟩ | ⟨yb,yoff,ycap,us,hyv,hyr,hus⟩
  · omega
  · have hul : us.length = m * i.size := by rw [hus.length, hes, hi3]
    have up : ∀ {vs ds},RdL E β0 vs ds → RdL E β vs ds:=fun h=>RdL.mono (Env.le.refl _) (fun _ _ h=>by cases h) h
    rcases aCy (hx.rd hr) with ⟨hxv,rfl⟩ | ⟨b,off,sz,vs,hxv,_,_,hrow,hvs⟩ | ⟨ad,hxv,rfl⟩
    · simp only [List.length_nil, Nat.zero_add] at hm hb fresh ⊢
      have hra:=run_append_nil (P:=P) E.w T o.type e i z hu hi1 hi2 ⟨yb,yoff,none⟩ m ycap us hul hyr hne (by simp [maxLen] at hm; omega) (by rw [hi4]; omega)
      refine fresh [] us (grownCap E.w m 0 e) (.nil _) hus (by simpa using grownCap_ge _ _ _ _) (grownCap_le_maxLen _ _ _ _ (by simpa using hm)) ?_
      rw [hxv,hyv]
      simpa using hra
    · have hvl : vs.length = l.length * i.size := by rw [hvs.length, hl, hi3]
      have hra:=run_append_grow (P:=P) E.w T o.type e i z hu hi1 hi2 ⟨b,off,none⟩ l.length l.length vs hvl (fun j u hj=>by rw [gL]; exact (hrow j u hj).1) ⟨yb,yoff,none⟩ m ycap us hul hyr (by omega) (by simp [maxLen] at hm; omega) (growslice_fits (by omega) (by rw [hi4]; exact hb))
      refine fresh vs us (grownCap E.w (l.length + m) l.length e) (up hvs) hus (grownCap_ge _ _ _ _) (grownCap_le_maxLen _ _ _ _ hm) ?_
      rw [hxv,hyv]
      exact hra
    · have hra := run_append_grow (P := P) E.w T o.type e i z hu hi1 hi2 ad 0 0 [] (by simp) (fun j u hj => by simp at hj) ⟨yb, yoff, none⟩ m ycap us hul hyr (by omega) (by simp [maxLen] at hm; omega) (growslice_fits (by omega) (by rw [hi4]; simpa using hb))
      refine fresh [] us (grownCap E.w (0 + m) 0 e) (.nil _) hus (by simpa using grownCap_ge _ _ _ _) (grownCap_le_maxLen _ _ _ _ (by simpa using hm)) ?_
      rw [hxv,hyv]
      simpa using hra
theorem aDO {α : Type} (f : Enc α) {T e : TypeId} {x y m : Operand} {b : Bool} {k1 k2 : IntKind} {xs r : List α} {h : Int} {z : Option Value} {bytes : Nat} (ho : o.op = .slice T x none (some y) (some m)) (hd : o.dst = some t) (ht : t < N) (hu : P.underlying T = some (.slice e)) (hi' : TI P e z f.sz bytes)
    (hx : SV S x (.slice b (xs.map f.d))) (hy : SV S y (.int k1 h)) (hm : SV S m (.int k2 h)) (hc : cut xs 0 h = some r) : IOp P O N o S (S.set t (.slice true (r.map f.d))):=by
  obtain ⟨⟨_,h0,h1⟩,hr⟩:=aCd hc
  exact aCU ho hd ht hu hi' hx (f.len xs) hy hm h0 (by simpa using h1) (by rw [← hr,← List.map_take]; simp)
theorem aEP {α : Type} (f : Enc0 α) {T e : TypeId} {x y : Operand} {z : Value} {bytes : Nat} {xs ys zs : List α} (id' : Nat)
    (ho : o.op = .call { callee:=.builtin .append,args:=#[x,y],argTypes:=#[T,T] }) (hd : o.dst = some t) (ht : t < N)
    (hu : P.underlying T = some (.slice e)) (hi : TI P e (some z) f.sz bytes) (hz : z.cells.size = f.sz)
    (hx : SV S x (.slice true (xs.map f.d))) (hfr : S.ent id' = .fresh)
    (hy : ∀ E β a,Rel O N S E β a → Src E β (a.eval y) ys.length (D.flat (ys.map f.d))) (hne : 0 < ys.length) (ha : app bytes xs ys = some zs) :
    IOp P O N o S ((S.setE id' (.blk e (D.flat (zs.map f.d)))).set t (.osl id' f.sz zs.length)):=by
  obtain ⟨⟨h1,h2⟩,rfl⟩:=aEq ha
  have:=aAx id' ho hd ht hu hi hz f.pos hfr hx (by rw [f.flat_len,List.length_map]) hy (f.flat_len ys) hne (by rw [List.length_map]; exact h1) (by rw [List.length_map]; exact h2)
  rwa [List.length_map,f.flat_append,← List.length_append] at this
theorem fQ {ops : Array Oper} {o : Oper} {l : List Oper} {j tj t : Nat} {want g : Bool} (hg : o.guard = some (j,want)) (hj : (ops[j]?).bind (·.dst) = some tj)
    (hb : Grd S tj want g) (hd : (o.dst,rA o.op) = (some t,true)) (ht : t < N) (h1 : g = true → ILS P O N ops ({ o with guard:=none } :: l) S Q) (h2 : g = false → ILS P O N ops l (S.set t (.cnd g (.bool false))) Q) : ILS P O N ops (o :: l) S Q:=by
  obtain ⟨hd,hnd⟩:=Prod.mk.inj hd
  intro E β a hr
  have hwant:=hb.yields hr hj hg
  unfold wpListIn
  rw [hwant]
  cases g with
  | true =>
    simp only [if_true]
    have h3:=h1 rfl E β a hr
    have h4 : Oper.wpIn (fen O.round) 0 P { o with guard:=none } a E.w (wpListIn (fen O.round) 0 P ops (fun e a' w'=>∃ S' E' β',E'.w = w' ∧ Rel O N S' E' β' a' ∧ Q e S') l) (fun e a' w'=>∃ S' E' β',E'.w = w' ∧ Rel O N S' E' β' a' ∧ Q e S'):=by
      unfold wpListIn at h3
      simp only [Region.wanted,if_true] at h3
      exact h3
    have h5 : Oper.wpIn (fen O.round) 0 P o a E.w (wpListIn (fen O.round) 0 P ops (fun e a' w'=>∃ S' E' β',E'.w = w' ∧ Rel O N S' E' β' a' ∧ Q e S') l) (fun e a' w'=>∃ S' E' β',E'.w = w' ∧ Rel O N S' E' β' a' ∧ Q e S'):=h4
    exact h5
  | false =>
    simp only [Bool.false_eq_true,if_false,hd]
    exact ⟨fun _ _=>trivial,(h2 rfl E β _ (hr.set ht (.cnd _ _ _ _ (fun h=>by cases h) fun _=>rfl)))⟩
theorem Rel.uncnd {E : Env} {β : cF} {a : Act} (h : Rel O N S E β a) {t : Nat} {g : Bool} {d : D} (hS : S.get t = .cnd g d) (hg : g = true) : Rel O N (S.set t d) E β a:=by
  refine ⟨h.n,h.nd,h.h,fun s=>?_⟩
  by_cases hs : t = s
  · subst hs
    have:=h.sl t
    rw [hS] at this
    have e : (S.set t d).get t = d:=by simp [St.get,St.set,bC]
    rw [e]
    generalize a.tmps.getD t undef = v at this ⊢
    cases this with
    | cnd _ _ _ _ k _=>exact k hg
  · have e : (S.set t d).get s = S.get s := by simp [St.get, St.set, bC, hs]
    rw [e]; exact h.sl s
theorem nU {ops : Array Oper} {l : List Oper} (t : Nat) {g : Bool} {d : D} (hS : S.get t = .cnd g d) (hg : g = true) (k : ILS P O N ops l (S.set t d) Q) : ILS P O N ops l S Q :=
  fun E β a hr=>k E β a (hr.uncnd hS hg)
end
end Go.IL
namespace Go.IL
section
variable {P : Program} {O : cR} {N : Nat} {S S' : St} {o : Oper} {t : Nat} {Q : Exit → St → Prop}
theorem lb {a b : Nat} (h : Nat.ble (a + 1) b = true) : a < b:=Nat.le_of_ble_eq_true h
theorem svI {x : Operand} {k : IntKind} {n : Int} (h : S.op x = .int k n) : SV S x (.int k n):=sv h
theorem svB {x : Operand} {n : Bool} (h : S.op x = .bool n) : SV S x (.bool n):=sv h
theorem svR {x : Operand} {i j : Nat} (h : S.op x = .ref i j) : SV S x (.ref i j):=sv h
theorem svL {x : Operand} {f : Bool} {l : List D} (h : S.op x = .slice f l) : SV S x (.slice f l):=sv h
theorem svA {x : Operand} (l : List D) (h : S.op x = .agg l) : SV S x (.agg l):=sv h
theorem svcI {x : Operand} {b : Bool} {k : IntKind} {n : Int} (h : S.op x = .cnd b (.int k n)) (hb : b = true) : SV S x (.int k n):=svc h hb
theorem svcB {x : Operand} {b n : Bool} (h : S.op x = .cnd b (.bool n)) (hb : b = true) : SV S x (.bool n):=svc h hb
theorem svcR {x : Operand} {b : Bool} {i j : Nat} (h : S.op x = .cnd b (.ref i j)) (hb : b = true) : SV S x (.ref i j):=svc h hb
theorem svcL {x : Operand} {b : Bool} {f : Bool} {l : List D} (h : S.op x = .cnd b (.slice f l)) (hb : b = true) : SV S x (.slice f l):=svc h hb
theorem svcA {x : Operand} {b : Bool} (l : List D) (h : S.op x = .cnd b (.agg l)) (hb : b = true) : SV S x (.agg l):=svc h hb
theorem mvI {x : Operand} {k : IntKind} {n : Int} (ho : o.op = .move x) (hd : o.dst = some t) (ht : Nat.ble (t + 1) N = true) (hx : S.op x = .int k n) : IOp P O N o S (S.set t (.int k n)):=aK ho hd (lb ht) (sv hx)
theorem mvB {x : Operand} {n : Bool} (ho : o.op = .move x) (hd : o.dst = some t) (ht : Nat.ble (t + 1) N = true) (hx : S.op x = .bool n) : IOp P O N o S (S.set t (.bool n)):=aK ho hd (lb ht) (sv hx)
theorem mvR {x : Operand} {i j : Nat} (ho : o.op = .move x) (hd : o.dst = some t) (ht : Nat.ble (t + 1) N = true) (hx : S.op x = .ref i j) : IOp P O N o S (S.set t (.ref i j)):=aK ho hd (lb ht) (sv hx)
theorem mvL {x : Operand} {f : Bool} {l : List D} (ho : o.op = .move x) (hd : o.dst = some t) (ht : Nat.ble (t + 1) N = true) (hx : S.op x = .slice f l) : IOp P O N o S (S.set t (.slice f l)):=aK ho hd (lb ht) (sv hx)
theorem asI {x : Operand} {k : IntKind} {n : Int} (ho : o.op = .assign x) (hd : o.dst = some t) (ht : Nat.ble (t + 1) N = true) (hx : S.op x = .int k n) : IOp P O N o S (S.set t (.int k n)):=aE ho hd (lb ht) (sv hx)
theorem asB {x : Operand} {n : Bool} (ho : o.op = .assign x) (hd : o.dst = some t) (ht : Nat.ble (t + 1) N = true) (hx : S.op x = .bool n) : IOp P O N o S (S.set t (.bool n)):=aE ho hd (lb ht) (sv hx)
def LA (P : Program) (T : TypeId) (u : TypeDesc) (z : Option Value) (size bytes : Nat) (g : Bool) : Prop:=P.underlying T = some u ∧ gF P T = g ∧ TI P T z size bytes ∧ 0 < size
theorem LA.mk {T : TypeId} {u : TypeDesc} {z : Option Value} {size bytes : Nat} {g : Bool} (h1 : P.underlying T = some u) (h2 : gF P T = g) (h3 : TI P T z size bytes) (h4 : 0 < size) : LA P T u z size bytes g:=⟨h1,h2,h3,h4⟩
theorem lra {T : TypeId} {x : Operand} {u : TypeDesc} {z : Option Value} {size bytes : Nat} {id off : Nat} {e : TypeId} {ds : List D} (cs : List D) (l : LA P T u z size bytes true) (ho : o.op = .load T x) (hd : o.dst = some t) (ht : Nat.ble (t + 1) N = true)
    (hx : S.op x = .ref id off) (he : S.ent id = .blk e ds) (hn : off + size ≤ ds.length) (hdd : (ds.drop off).take size = cs) : IOp P O N o S (S.set t (.agg cs)):=cA ho hd (lb ht) l.1 l.2.1 l.2.2.1 l.2.2.2 (sv hx) he hn hdd
theorem lrL {T : TypeId} {x : Operand} {u : TypeDesc} {z : Option Value} {size bytes : Nat} {id off : Nat} {e : TypeId} {ds r : List D} {f : Bool} {m : List D} (l : LA P T u z size bytes false) (ho : o.op = .load T x) (hd : o.dst = some t) (ht : Nat.ble (t + 1) N = true)
    (hx : S.op x = .ref id off) (he : S.ent id = .blk e ds) (hn : off + size ≤ ds.length) (hdd : ds.drop off = .slice f m :: r) : IOp P O N o S (S.set t (.slice f m)):=aG ho hd (lb ht) l.1 l.2.1 l.2.2.1 l.2.2.2 (sv hx) he hn hdd
theorem rva {x : Nat} {T : TypeId} {id off : Nat} {e : TypeId} {ds cs : List D} {u : TypeDesc} {z : Option Value} {size bytes : Nat} (l : LA P T u z size bytes true) (hx : S.get x = .ref id off) (he : S.ent id = .blk e ds)
    (hn : off + size ≤ ds.length) (hd : (ds.drop off).take size = cs) : ResV P S (.cell x T) (.agg cs):=resv_a hx he l.1 l.2.1 l.2.2.1 l.2.2.2 hn hd
theorem stA {T : TypeId} {x y : Operand} {z : Option Value} {size bytes : Nat} {id off : Nat} {e : TypeId} {ds : List D} (c ds' : List D) (hi : TI P T z size bytes) (ho : o.op = .store T x y) (hd : o.dst = none)
    (hx : S.op x = .ref id off) (he : S.ent id = .blk e ds) (hy : S.op y = .agg c) (hb : (D.agg c).boxable = true) (hsz : (D.agg c).cells.length = size) (h1 : (D.agg c).cells.all D.one = true)
    (hn : off + size ≤ ds.length) (hds : eY ds off (D.agg c).cells = ds') : IOp P O N o S (S.setE id (.blk e ds')):=bQ ho hd hi (sv hx) he (sv hy) hb hsz h1 hn hds
theorem faR {T : TypeId} {x : Operand} {i : Nat} {fs : Array Field} {F : Field} {z : Option Value} {size bytes : Nat} {id off : Nat} (off' : Nat) (ho : o.op = .fieldAddr T x i) (hd : o.dst = some t) (ht : Nat.ble (t + 1) N = true)
    (hu : P.underlying T = some (.struct fs)) (hf : fs[i]? = some F) (hi : TI P F.type z size bytes) (hs : 0 < size) (hx : S.op x = .ref id off) (ho' : off + F.offset = off') : IOp P O N o S (S.set t (.ref id off')) :=
  aO ho hd (lb ht) hu hf hi hs (sv hx) ho'
theorem svaI {n : Node} {S0 : St} {s : Nat} {k : IntKind} {m : Int} (hA : rI n S S0) (hm : n.rs.elem s = true) (h : S0.get s = .int k m) : SV S (.tmp s) (.int k m):=sv (agr hA hm h)
theorem svaB {n : Node} {S0 : St} {s : Nat} {m : Bool} (hA : rI n S S0) (hm : n.rs.elem s = true) (h : S0.get s = .bool m) : SV S (.tmp s) (.bool m):=sv (agr hA hm h)
theorem svaR {n : Node} {S0 : St} {s i j : Nat} (hA : rI n S S0) (hm : n.rs.elem s = true) (h : S0.get s = .ref i j) : SV S (.tmp s) (.ref i j):=sv (agr hA hm h)
theorem svaL {n : Node} {S0 : St} {s : Nat} {f : Bool} {l : List D} (hA : rI n S S0) (hm : n.rs.elem s = true) (h : S0.get s = .slice f l) : SV S (.tmp s) (.slice f l):=sv (agr hA hm h)
theorem svaA {n : Node} {S0 : St} {s : Nat} (l : List D) (hA : rI n S S0) (hm : n.rs.elem s = true) (h : S0.get s = .agg l) : SV S (.tmp s) (.agg l):=sv (agr hA hm h)
theorem AllW.s {ρ : Nat → Nat} {t : Nat} {d : D} {l : List (Nat × D)} (h : S.get t = d.ren ρ) (hr : d.refsIn S'.okn = true) (k : AllW (SlW S S' ρ) l) : AllW (SlW S S' ρ) ((t,d) :: l):=.cons (.same h hr) k
theorem AllW.sames {ρ : Nat → Nat} : ∀ {l : List (Nat × D)},l.map (fun p=>S.get p.1) = l.map (fun p=>p.2.ren ρ) → (l.all fun p=>p.2.refsIn S'.okn) = true → AllW (SlW S S' ρ) l
  | [],_,_=>.nil
  | (t, d) :: l, h, hr => by
    simp only [List.map_cons,List.cons.injEq] at h
    simp only [List.all_cons,Bool.and_eq_true] at hr
    exact .cons (.same h.1 hr.1) (AllW.sames h.2 hr.2)
end
theorem SubL.k {d : D} {ds ds' : List D} (t : SubL ds ds') : SubL (d :: ds) (d :: ds'):=.cons (.refl d) t
theorem SubL.k4 {a b c d : D} {ds ds' : List D} (t : SubL ds ds') : SubL (a :: b :: c :: d :: ds) (a :: b :: c :: d :: ds'):=.k (.k (.k (.k t)))
theorem FDL.k {S : St} {d : D} {ds ds' : List D} (t : FDL S ds ds') : FDL S (d :: ds) (d :: ds'):=.cons (.refl d) t
theorem FDL.k4 {S : St} {a b c d : D} {ds ds' : List D} (t : FDL S ds ds') : FDL S (a :: b :: c :: d :: ds) (a :: b :: c :: d :: ds'):=.k (.k (.k (.k t)))
theorem SubL.all : ∀ (l : List D),SubL l l
  | []=>.nil
  | d :: l=>.cons (.refl d) (SubL.all l)
theorem FDL.all {S : St} (l : List D) : FDL S l l:=rS l
theorem aB6 {a b : Bool} (h : (a && false) = b) : b = false:=by rw [← h,Bool.and_false]
theorem aEk {a : Bool} (h : (a == true) = true) : a = true:=by simpa using h
theorem aEl {a : Bool} (h : (a == true) = false) : a = false:=by simpa using h
end Go.IL
open Go Go.IL
namespace Go.Fn
structure bK where
  ID : Int
  Value : Int
  deriving DecidableEq,Inhabited
def bN : Enc bK:=⟨⟨fun x=>.agg [.int .i64 x.ID,.int .i64 x.Value],2,by decide,fun _=>⟨rfl,rfl⟩⟩,fun _=>rfl⟩
structure aH where
  Kind : Int
  Flag : Bool
  Stream : Int
  Offset : Int
  Dep : Int
  Weight : Int
  N : Int
  Code : Int
  Pairs : (List bK)
  Data : (List UInt8)
  deriving DecidableEq,Inhabited
def aQ : Enc aH:=⟨⟨fun x=>.agg [.int .u8 x.Kind,.bool x.Flag,.int .i64 x.Stream,.int .i64 x.Offset,.int .i64 x.Dep,.int .i64 x.Weight,.int .i64 x.N,.int .i64 x.Code,.slice false (x.Pairs.map bN.d),.str x.Data],10,by decide,fun _=>⟨rfl,rfl⟩⟩,fun _=>rfl⟩

def kO (a0 : aH) : Option Bool :=
  bnd (decide ((a0.Pairs.length : Int) ≤ 10)) fun x1 =>
  bnd (decide ((a0.Data.length : Int) ≤ 100)) fun x2 =>
  bnd (x1 && x2) fun x3 =>
  some x3

def nW (a0 : Int) : Option Bool :=
  bnd (decide (a0 ≤ 10)) fun x1 =>
  bnd (!decide (a0 = 5)) fun x2 =>
  bnd (x1 && x2) fun x3 =>
  some x3

def lW (a0 : Int) (a1 : Int) (a2 : Int) : Option Bool :=
  bnd (decide (a1 ≤ a0)) fun x1 =>
  bnd (decide (a0 ≤ a2)) fun x2 =>
  bnd (x1 && x2) fun x3 =>
  some x3

def gJ (a0 : bK) : Option Bool :=
  bno (lW a0.ID 0 1099511627776) fun x1 =>
  bno (gd ((!x1) == false) (lW a0.Value 0 1099511627776) default) fun x2 =>
  bnd ((!x1) || (!x2)) fun x3 =>
  some x3

def cE (a0 : (List bK)) : Nat → Int → Option Int
  | 0,_=>none
  | n0 + 1, v7 =>
    bnd (decide (v7 < (a0.length : Int))) fun x14 =>
    bif x14 then (
      bno (gix a0 v7) fun x16 =>
      bno (gJ x16) fun x17 =>
      bif x17 then (
        some v7
      ) else (
        bnd (IntKind.wrap .i64 (v7 + 1)) fun x19 =>
        (cE a0 n0) x19
      )
    ) else (
      some (-1)
    )
def dL (a0 : (List bK)) : Option Int :=
  cE a0 fuel 0

def cV (a0 : (List bK)) : Option Bool :=
  bno (dL a0) fun x1 =>
  bnd (decide (0 ≤ x1)) fun x2 =>
  some x2

def eB (a0 : aH) (v15 : Int) (v16 : Int) (v17 : Int) : Option Bool :=
  bno (cV a0.Pairs) fun x18 =>
  bno (gd (x18 == false) (lW a0.N v15 v16) default) fun x19 =>
  bnd (x18 || (!x19)) fun x20 =>
  bno (gd (x20 == false) (lW a0.Code 0 v17) default) fun x21 =>
  bnd (x20 || (!x21)) fun x22 =>
  bif x22 then (
    some false
  ) else (
    bno (lW a0.Stream 0 1048576) fun x24 =>
    bno (gd (x24 == true) (lW a0.Dep 0 1048576) default) fun x25 =>
    bnd (x24 && x25) fun x26 =>
    bno (gd (x26 == true) (lW a0.Offset 0 1099511627776) default) fun x27 =>
    bnd (x26 && x27) fun x28 =>
    some x28
  )
def fY (a0 : aH) (v36 : Bool) : Option Bool :=
  bif v36 then (
    bno (lW a0.Weight 1 256) fun x38 =>
    bif (!x38) then (
      some false
    ) else (
      eB a0 0 1099511627776 255
    )
  ) else (
    eB a0 0 1099511627776 255
  )
def iS (a0 : aH) : Option Bool :=
  bnd (decide (a0.Kind = 8)) fun x29 =>
  bif x29 then (
    eB a0 1 1099511627776 255
  ) else (
    bnd (decide (a0.Kind = 10)) fun x31 =>
    bif x31 then (
      eB a0 0 3 1
    ) else (
      bnd (decide (a0.Kind = 1)) fun x40 =>
      bif x40 then (
        fY a0 x40
      ) else (
        bnd (decide (a0.Kind = 2)) fun x42 =>
        fY a0 x42
      )
    )
  )

def fE (v26 : (List Nat)) : Option (List Nat) :=
  bno (app 8 v26 ([6] : (List Nat))) fun x27 =>
  some x27
def eP (a0 : aH) : Option (List Nat) :=
  bnd (decide (a0.Kind = 0)) fun x28 =>
  bif x28 then (
    bno (app 8 ([] : (List Nat)) ([2,3] : (List Nat))) fun x30 =>
    some x30
  ) else (
    bnd (decide (a0.Kind = 9)) fun x31 =>
    bif x31 then (
      bno (app 8 ([] : (List Nat)) ([2,3] : (List Nat))) fun x33 =>
      some x33
    ) else (
      bnd (decide (a0.Kind = 1)) fun x34 =>
      bif x34 then (
        bno (app 8 ([] : (List Nat)) ([2,4,5] : (List Nat))) fun x36 =>
        some x36
      ) else (
        bnd (decide (a0.Kind = 2)) fun x37 =>
        bif x37 then (
          bno (app 8 ([] : (List Nat)) ([2,4,5] : (List Nat))) fun x39 =>
          some x39
        ) else (
          bnd (decide (a0.Kind = 3)) fun x40 =>
          bif x40 then (
            bno (app 8 ([] : (List Nat)) ([2,6,7] : (List Nat))) fun x42 =>
            some x42
          ) else (
            bnd (decide (a0.Kind = 7)) fun x43 =>
            bif x43 then (
              bno (app 8 ([] : (List Nat)) ([2,7] : (List Nat))) fun x45 =>
              some x45
            ) else (
              bnd (decide (a0.Kind = 8)) fun x46 =>
              bif x46 then (
                bno (app 8 ([] : (List Nat)) ([2] : (List Nat))) fun x48 =>
                fE x48
              ) else (
                bnd (decide (a0.Kind = 6)) fun x49 =>
                bif x49 then (
                  fE ([] : (List Nat))
                ) else (
                  bnd (decide (a0.Kind = 10)) fun x51 =>
                  bif x51 then (
                    bno (app 8 ([] : (List Nat)) ([6,7] : (List Nat))) fun x53 =>
                    some x53
                  ) else (
                    some ([] : (List Nat))
                  )
                )
              )
            )
          )
        )
      )
    )
  )

def lX (a0 : Int) : Option Bool :=
  bnd (decide (a0 = 0)) fun x1 =>
  bif x1 then (
    some true
  ) else (
    bnd (decide (a0 = 1)) fun x3 =>
    bif x3 then (
      some true
    ) else (
      bnd (decide (a0 = 2)) fun x5 =>
      bif x5 then (
        some true
      ) else (
        bnd (decide (a0 = 4)) fun x7 =>
        bif x7 then (
          some true
        ) else (
          bnd (decide (a0 = 6)) fun x9 =>
          bif x9 then (
            some true
          ) else (
            bnd (decide (a0 = 9)) fun x11 =>
            bif x11 then (
              some true
            ) else (
              some false
            )
          )
        )
      )
    )
  )

def eQ (a0 : aH) (v9 : Int) (v10 : Int) (v11 : Int) (v12 : Int) (v13 : Int) (v14 : Int) (v32 : (List bK)) (v33 : (List UInt8)) : Option aH :=
  bno (lX a0.Kind) fun x34 =>
  bif x34 then (
    some (⟨a0.Kind,false,v9,v10,v11,v12,v13,v14,v32,v33⟩ : aH)
  ) else (
    some (⟨a0.Kind,a0.Flag,v9,v10,v11,v12,v13,v14,v32,v33⟩ : aH)
  )
def eD (a0 : aH) (x1 : (List Nat)) : Nat → Int → Int → Int → Int → Int → Int → Int → Option aH
  | 0,_,_,_,_,_,_,_=>none
  | n0 + 1, v8, v9, v10, v11, v12, v13, v14 =>
    bnd (decide (v8 < (x1.length : Int))) fun x21 =>
    bif x21 then (
      bno (gix x1 v8) fun x23 =>
      bno (x1[(v8 : Int).toNat]?) fun x24 =>
      bno (zS [none,none,some v9,some v10,some v11,some v12,some v13,some v14,none,none] x24) fun x25 =>
      bnd (IntKind.wrap .i64 (v8 + 1)) fun x26 =>
      (eD a0 x1 n0) x26 (bif Nat.beq x24 2 then 0 else v9) (bif Nat.beq x24 3 then 0 else v10) (bif Nat.beq x24 4 then 0 else v11) (bif Nat.beq x24 5 then 0 else v12) (bif Nat.beq x24 6 then 0 else v13) (bif Nat.beq x24 7 then 0 else v14)
    ) else (
      bnd (decide (a0.Kind = 0)) fun x36 =>
      bif x36 then (
        eQ a0 v9 v10 v11 v12 v13 v14 a0.Pairs ([] : (List UInt8))
      ) else (
        bnd (decide (a0.Kind = 4)) fun x38 =>
        bif x38 then (
          bif (!a0.Flag) then (
            eQ a0 v9 v10 v11 v12 v13 v14 ([] : (List bK)) a0.Data
          ) else (
            eQ a0 v9 v10 v11 v12 v13 v14 a0.Pairs a0.Data
          )
        ) else (
          eQ a0 v9 v10 v11 v12 v13 v14 a0.Pairs a0.Data
        )
      )
    )
def jU (a0 : aH) : Option aH :=
  bno (eP a0) fun x1 =>
  eD a0 x1 fuel 0 a0.Stream a0.Offset a0.Dep a0.Weight a0.N a0.Code

def cZ (a0 : (List bK)) (a1 : (List bK)) : Nat → Int → Option Bool
  | 0,_=>none
  | n0 + 1, v10 =>
    bnd (decide (v10 < (a0.length : Int))) fun x18 =>
    bif x18 then (
      bno (gix a0 v10) fun x20 =>
      bno (gix a1 v10) fun x21 =>
      bnd ((decide (x20.ID = x21.ID) && (decide (x20.Value = x21.Value) && true))) fun x22 =>
      bif (!x22) then (
        some false
      ) else (
        bnd (IntKind.wrap .i64 (v10 + 1)) fun x24 =>
        (cZ a0 a1 n0) x24
      )
    ) else (
      some true
    )
def eA (a0 : (List bK)) (a1 : (List bK)) : Option Bool :=
  bnd (!decide ((a0.length : Int) = (a1.length : Int))) fun x1 =>
  bif x1 then (
    some false
  ) else (
    cZ a0 a1 fuel 0
  )

def pG (a0 : aH) (a1 : aH) : Option Bool :=
  bnd (!decide (a0.Kind = a1.Kind)) fun x1 =>
  bnd (!(a0.Flag == a1.Flag)) fun x2 =>
  bnd (x1 || x2) fun x3 =>
  bno (gd (x3 == false) (eA a0.Pairs a1.Pairs) default) fun x4 =>
  bnd (x3 || (!x4)) fun x5 =>
  bif x5 then (
    some false
  ) else (
    bnd (decide (a0.Stream = a1.Stream)) fun x7 =>
    bnd (decide (a0.Offset = a1.Offset)) fun x8 =>
    bnd (x7 && x8) fun x9 =>
    bnd (decide (a0.Dep = a1.Dep)) fun x10 =>
    bnd (x9 && x10) fun x11 =>
    bnd (decide (a0.Weight = a1.Weight)) fun x12 =>
    bnd (x11 && x12) fun x13 =>
    bnd (decide (a0.N = a1.N)) fun x14 =>
    bnd (x13 && x14) fun x15 =>
    bnd (decide (a0.Code = a1.Code)) fun x16 =>
    bnd (x15 && x16) fun x17 =>
    bnd (decide (a0.Data = a1.Data)) fun x18 =>
    bnd (x17 && x18) fun x19 =>
    some x19
  )

def jY (a0 : aH) (v8 : Bool) : Option Int :=
  bif v8 then (
    some 5
  ) else (
    bno (jU a0) fun x10 =>
    bno (pG x10 (⟨a0.Kind,false,0,0,0,0,0,0,[],[]⟩ : aH)) fun x11 =>
    bif (!x11) then (
      some 4
    ) else (
      some 0
    )
  )
def mJ (a0 : aH) : Option Int :=
  bno (nW a0.Kind) fun x1 =>
  bif (!x1) then (
    some 12
  ) else (
    bno (iS a0) fun x3 =>
    bif (!x3) then (
      some 8
    ) else (
      bnd (decide (32 < (a0.Data.length : Int))) fun x13 =>
      bif x13 then (
        jY a0 x13
      ) else (
        bnd (decide (4 < (a0.Pairs.length : Int))) fun x15 =>
        jY a0 x15
      )
    )
  )

def fZ (v16 : Int) (v17 : Int) : Option Int :=
  bnd (IntKind.wrap .u8 v16) fun x18 =>
  bno (gix ([0,1,2,2,3,3,3,3,4,4,4,4,4,4,4,4,5,5,5,5,5,5,5,5,5,5,5,5,5,5,5,5,6,6,6,6,6,6,6,6,6,6,6,6,6,6,6,6,6,6,6,6,6,6,6,6,6,6,6,6,6,6,6,6,7,7,7,7,7,7,7,7,7,7,7,7,7,7,7,7,7,7,7,7,7,7,7,7,7,7,7,7,7,7,7,7,7,7,7,7,7,7,7,7,7,7,7,7,7,7,7,7,7,7,7,7,7,7,7,7,7,7,7,7,7,7,7,7,8,8,8,8,8,8,8,8,8,8,8,8,8,8,8,8,8,8,8,8,8,8,8,8,8,8,8,8,8,8,8,8,8,8,8,8,8,8,8,8,8,8,8,8,8,8,8,8,8,8,8,8,8,8,8,8,8,8,8,8,8,8,8,8,8,8,8,8,8,8,8,8,8,8,8,8,8,8,8,8,8,8,8,8,8,8,8,8,8,8,8,8,8,8,8,8,8,8,8,8,8,8,8,8,8,8,8,8,8,8,8,8,8,8,8,8,8,8,8,8,8,8,8,8,8,8,8,8] : List UInt8) x18) fun x19 =>
  bnd (IntKind.wrap .i64 (x19.toNat : Int)) fun x20 =>
  bnd (IntKind.wrap .i64 (v17 + x20)) fun x21 =>
  some x21
def gA (v10 : Int) (v11 : Int) : Option Int :=
  bnd (decide (256 ≤ v10)) fun x22 =>
  bif x22 then (
    bno (shrI .u64 v10 8) fun x24 =>
    bnd (IntKind.wrap .i64 (v11 + 8)) fun x25 =>
    fZ x24 x25
  ) else (
    fZ v10 v11
  )
def gB (v4 : Int) (v5 : Int) : Option Int :=
  bnd (decide (65536 ≤ v4)) fun x26 =>
  bif x26 then (
    bno (shrI .u64 v4 16) fun x28 =>
    bnd (IntKind.wrap .i64 (v5 + 16)) fun x29 =>
    gA x28 x29
  ) else (
    gA v4 v5
  )
def kH (a0 : Int) : Option Int :=
  bnd (decide (4294967296 ≤ a0)) fun x30 =>
  bif x30 then (
    bno (shrI .u64 a0 32) fun x32 =>
    gB x32 32
  ) else (
    gB a0 0
  )

def lS (a0 : Int) : Option Int :=
  bno (kH a0) fun x1 =>
  some x1

def iT (a0 : Int) : Nat → Int → Option Int
  | 0,_=>none
  | n0 + 1, v14 =>
    bnd (decide (v14 < 4)) fun x24 =>
    bif x24 then (
      bnd (IntKind.wrap .u64 a0) fun x26 =>
      bno (lS x26) fun x27 =>
      bno (shlI .i64 8 v14) fun x28 =>
      bnd (IntKind.wrap .i64 (x28 - 2)) fun x29 =>
      bnd (decide (x27 ≤ x29)) fun x30 =>
      bif x30 then (
        some v14
      ) else (
        bnd (IntKind.wrap .i64 (v14 + 1)) fun x32 =>
        (iT a0 n0) x32
      )
    ) else (
      some (-1)
    )
def mB (a0 : Int) : Option Int :=
  bnd (decide (a0 < 0)) fun x1 =>
  bnd (decide (4611686018427387903 < a0)) fun x2 =>
  bnd (x1 || x2) fun x3 =>
  bif x3 then (
    some (-1)
  ) else (
    iT a0 fuel 0
  )

def jH (x1 : Int) : Nat → Int → (List UInt8) → Int → Option ((List UInt8) × Int)
  | 0,_,_,_=>none
  | n0 + 1, v16, v17, v18 =>
    bnd (decide (0 ≤ v18)) fun x28 =>
    bif x28 then (
      bnd (IntKind.wrap .u8 v16) fun x30 =>
      bno (gix v17 v18) fun x31 =>
      bno (v17[(v18 : Int).toNat]?) fun x32 =>
      bno (toU8 x30) fun x33 =>
      bnd (v17.set ((v18 : Int).toNat) x33) fun x34 =>
      bno (shrI .i64 v16 8) fun x35 =>
      bnd (IntKind.wrap .i64 (v18 - 1)) fun x36 =>
      (jH x1 n0) x35 x34 x36
    ) else (
      bno (gix v17 0) fun x37 =>
      bno (v17[(0 : Int).toNat]?) fun x38 =>
      bno (shlI .i64 x1 6) fun x39 =>
      bnd (IntKind.wrap .u8 x39) fun x40 =>
      bnd (orI .u8 (x38.toNat : Int) x40) fun x41 =>
      bno (gix v17 0) fun x42 =>
      bno (v17[(0 : Int).toNat]?) fun x43 =>
      bno (toU8 x41) fun x44 =>
      bnd (v17.set ((0 : Int).toNat) x44) fun x45 =>
      some (x45,0)
    )
def nK (a0 : Int) : Option ((List UInt8) × Int) :=
  bno (mB a0) fun x1 =>
  bnd (decide (x1 < 0)) fun x2 =>
  bif x2 then (
    some ([],8)
  ) else (
    bno (shlI .i64 1 x1) fun x4 =>
    bno (made 1 x4 (0 : UInt8)) fun x5 =>
    bnd (IntKind.wrap .i64 ((x5.length : Int) - 1)) fun x6 =>
    jH x1 fuel a0 x5 x6
  )

def iU (a0 : (List Int)) : Nat → (List UInt8) → Int → Option ((List UInt8) × Int)
  | 0,_,_=>none
  | n0 + 1, v9, v10 =>
    bnd (decide (v10 < (a0.length : Int))) fun x19 =>
    bif x19 then (
      bno (gix a0 v10) fun x21 =>
      bno (nK x21) fun x22 =>
      bnd (!decide (x22.2 = 0)) fun x23 =>
      bif x23 then (
        some ([],x22.2)
      ) else (
        bno (app 1 v9 x22.1) fun x25 =>
        bnd (IntKind.wrap .i64 (v10 + 1)) fun x26 =>
        (iU a0 n0) x25 x26
      )
    ) else (
      some (v9,0)
    )
def pO (a0 : (List Int)) : Option ((List UInt8) × Int) :=
  iU a0 fuel ([] : (List UInt8)) 0

def mC (a0 : (List Int)) : Option ((List UInt8) × Int) :=
  bno (pO a0) fun x1 =>
  some (x1.1,x1.2)

def eI (a0 : aH) : Nat → (List Int) → Int → Option (List UInt8)
  | 0,_,_=>none
  | n1 + 1, v30, v31 =>
    bnd (decide (v31 < (a0.Pairs.length : Int))) fun x37 =>
    bif x37 then (
      bno (gix a0.Pairs v31) fun x39 =>
      bno (app 8 v30 ([x39.ID,x39.Value] : (List Int))) fun x40 =>
      bnd (IntKind.wrap .i64 (v31 + 1)) fun x41 =>
      (eI a0 n1) x40 x41
    ) else (
      bno (mC v30) fun x42 =>
      bno (cat x42.1 a0.Data) fun x43 =>
      some x43
    )
def eJ (a0 : aH) (x1 : (List Nat)) : Nat → (List Int) → Int → Option (List UInt8)
  | 0,_,_=>none
  | n0 + 1, v9, v10 =>
    bnd (decide (v10 < (x1.length : Int))) fun x18 =>
    bif x18 then (
      bno (gix x1 v10) fun x20 =>
      bno (x1[(v10 : Int).toNat]?) fun x21 =>
      bno (zS [none,none,some a0.Stream,some a0.Offset,some a0.Dep,some a0.Weight,some a0.N,some a0.Code,none,none] x21) fun x22 =>
      bno (app 8 v9 ([x22] : (List Int))) fun x23 =>
      bnd (IntKind.wrap .i64 (v10 + 1)) fun x24 =>
      (eJ a0 x1 n0) x23 x24
    ) else (
      eI a0 fuel v9 0
    )
def gY (a0 : aH) : Option (List UInt8) :=
  bno (eP a0) fun x1 =>
  eJ a0 x1 fuel ([] : (List Int)) 0

def fB (a0 : (List UInt8)) : Option (List UInt8) :=
  xR a0 (
    some ([] : (List UInt8))
  ) (
    bno (app 1 ([] : (List UInt8)) a0) fun x3 =>
    some x3
  )

def nX (a0 : Int) (a1 : Int) : Option Bool :=
  bnd (decide (0 ≤ a0)) fun x1 =>
  bnd (decide (1 ≤ a1)) fun x2 =>
  bnd (x1 && x2) fun x3 =>
  bnd (decide (a1 ≤ 7)) fun x4 =>
  bnd (x3 && x4) fun x5 =>
  bnd (IntKind.wrap .i64 (8 * a1)) fun x6 =>
  bno (gd (x5 == true) (shrI .i64 a0 x6) 0) fun x7 =>
  bnd (decide (x7 = 0)) fun x8 =>
  bnd (x5 && x8) fun x9 =>
  some x9

def kT (a1 : Int) (a2 : Int) : Nat → (List UInt8) → Int → Option (List UInt8)
  | 0,_,_=>none
  | n0 + 1, v14, v15 =>
    bnd (decide (v15 < a2)) fun x26 =>
    bif x26 then (
      bnd (IntKind.wrap .i64 (a2 - 1)) fun x28 =>
      bnd (IntKind.wrap .i64 (x28 - v15)) fun x29 =>
      bnd (IntKind.wrap .i64 (8 * x29)) fun x30 =>
      bno (shrI .i64 a1 x30) fun x31 =>
      bnd (IntKind.wrap .u8 x31) fun x32 =>
      bno (toU8 x32) fun x33 =>
      bno (app 1 v14 ([x33] : (List UInt8))) fun x34 =>
      bnd (IntKind.wrap .i64 (v15 + 1)) fun x35 =>
      (kT a1 a2 n0) x34 x35
    ) else (
      some v14
    )
def nN (a0 : (List UInt8)) (a1 : Int) (a2 : Int) : Option (List UInt8) :=
  bno (fB a0) fun x1 =>
  bno (nX a1 a2) fun x2 =>
  bif (!x2) then (
    some x1
  ) else (
    kT a1 a2 fuel x1 0
  )

def lL (a0 : aH) (v5 : Int) : Option ((List UInt8) × Int) :=
  bno (gY a0) fun x6 =>
  bno (nK (x6.length : Int)) fun x7 =>
  bnd (!decide (x7.2 = 0)) fun x8 =>
  bif x8 then (
    some ([],x7.2)
  ) else (
    bnd (IntKind.wrap .i64 a0.Kind) fun x10 =>
    bno (nN ([] : (List UInt8)) x10 1) fun x11 =>
    bno (nN x11 v5 1) fun x12 =>
    bno (cat x12 x7.1) fun x13 =>
    bno (cat x13 x6) fun x14 =>
    some (x14,0)
  )
def rE (a0 : aH) : Option ((List UInt8) × Int) :=
  bno (mJ a0) fun x1 =>
  bnd (!decide (x1 = 0)) fun x2 =>
  bif x2 then (
    some ([],x1)
  ) else (
    bif a0.Flag then (
      lL a0 1
    ) else (
      lL a0 0
    )
  )

def jI (x5 : Int) (x6 : Int) (x12 : (List UInt8)) : Nat → Int → Int → Option (Int × Int × Int)
  | 0,_,_=>none
  | n0 + 1, v20, v21 =>
    bnd (decide (v21 < (x12.length : Int))) fun x29 =>
    bif x29 then (
      bno (gix x12 v21) fun x31 =>
      bno (shlI .i64 v20 8) fun x32 =>
      bnd (IntKind.wrap .i64 (x31.toNat : Int)) fun x33 =>
      bnd (orI .i64 x32 x33) fun x34 =>
      bnd (IntKind.wrap .i64 (v21 + 1)) fun x35 =>
      (jI x5 x6 x12 n0) x34 x35
    ) else (
      bno (mB v20) fun x36 =>
      bnd (!decide (x36 = x5)) fun x37 =>
      bif x37 then (
        some (0,0,4)
      ) else (
        some (v20,x6,0)
      )
    )
def mD (a0 : (List UInt8)) : Option (Int × Int × Int) :=
  bnd (decide (a0 = ([] : List UInt8))) fun x1 =>
  bif x1 then (
    some (0,0,3)
  ) else (
    bno (gix a0 0) fun x3 =>
    bno (shrI .u8 (x3.toNat : Int) 6) fun x4 =>
    bnd (IntKind.wrap .i64 x4) fun x5 =>
    bno (shlI .i64 1 x5) fun x6 =>
    bnd (decide ((a0.length : Int) < x6)) fun x7 =>
    bif x7 then (
      some (0,0,3)
    ) else (
      bno (gix a0 0) fun x9 =>
      bnd (andI .u8 (x9.toNat : Int) 63) fun x10 =>
      bnd (IntKind.wrap .i64 x10) fun x11 =>
      bno (cut a0 1 x6) fun x12 =>
      jI x5 x6 x12 fuel x11 0
    )
  )

def rQ (a0 : (List UInt8)) : Option (aH × Int × Int × Int) :=
  bnd (decide (a0 = ([] : List UInt8))) fun x1 =>
  bif x1 then (
    some ((⟨0,false,0,0,0,0,0,0,[],[]⟩ : aH),0,0,3)
  ) else (
    bno (gix a0 0) fun x3 =>
    bno (nW (x3.toNat : Int)) fun x4 =>
    bif (!x4) then (
      some ((⟨0,false,0,0,0,0,0,0,[],[]⟩ : aH),0,0,12)
    ) else (
      bnd (decide ((a0.length : Int) < 2)) fun x6 =>
      bif x6 then (
        some ((⟨0,false,0,0,0,0,0,0,[],[]⟩ : aH),0,0,3)
      ) else (
        bno (gix a0 1) fun x8 =>
        bnd (decide (1 < (x8.toNat : Int))) fun x9 =>
        bif x9 then (
          some ((⟨0,false,0,0,0,0,0,0,[],[]⟩ : aH),0,0,4)
        ) else (
          bno (cut a0 2 (a0.length : Int)) fun x11 =>
          bno (mD x11) fun x12 =>
          bnd (!decide (x12.2.2 = 0)) fun x13 =>
          bif x13 then (
            some ((⟨0,false,0,0,0,0,0,0,[],[]⟩ : aH),0,0,x12.2.2)
          ) else (
            bnd (decide (64 < x12.1)) fun x15 =>
            bif x15 then (
              some ((⟨0,false,0,0,0,0,0,0,[],[]⟩ : aH),0,0,5)
            ) else (
              bnd (IntKind.wrap .i64 ((a0.length : Int) - 2)) fun x17 =>
              bnd (IntKind.wrap .i64 (x17 - x12.2.1)) fun x18 =>
              bnd (decide (x18 < x12.1)) fun x19 =>
              bif x19 then (
                some ((⟨0,false,0,0,0,0,0,0,[],[]⟩ : aH),0,0,3)
              ) else (
                bno (gix a0 0) fun x21 =>
                bno (gix a0 1) fun x22 =>
                bnd (decide ((x22.toNat : Int) = 1)) fun x23 =>
                bnd (IntKind.wrap .i64 (2 + x12.2.1)) fun x24 =>
                bnd (IntKind.wrap .i64 (2 + x12.2.1)) fun x25 =>
                bnd (IntKind.wrap .i64 (x25 + x12.1)) fun x26 =>
                some ((⟨(x21.toNat : Int),x23,0,0,0,0,0,0,[],[]⟩ : aH),x24,x26,0)
              )
            )
          )
        )
      )
    )
  )

def jJ  : Nat → (List UInt8) → (List Int) → Option ((List Int) × Int)
  | 0,_,_=>none
  | n0 + 1, v8, v9 =>
    bnd (!decide (v8 = ([] : List UInt8))) fun x17 =>
    bif x17 then (
      bno (mD v8) fun x19 =>
      bnd (!decide (x19.2.2 = 0)) fun x20 =>
      bif x20 then (
        some ([],x19.2.2)
      ) else (
        bno (app 8 v9 ([x19.1] : (List Int))) fun x22 =>
        bno (cut v8 x19.2.1 (v8.length : Int)) fun x23 =>
        (jJ n0) x23 x22
      )
    ) else (
      some (v9,0)
    )
def oU (a0 : (List UInt8)) : Option ((List Int) × Int) :=
  jJ fuel a0 ([] : (List Int))

def fR  : Nat → (List Int) → (List bK) → Option ((List bK) × Bool)
  | 0,_,_=>none
  | n0 + 1, v13, v14 =>
    bnd (decide (0 < (v13.length : Int))) fun x21 =>
    bif x21 then (
      bno (gix v13 0) fun x23 =>
      bno (gix v13 1) fun x24 =>
      bno (app 16 v14 (([(⟨x23,x24⟩ : bK)] : (List bK)))) fun x25 =>
      bno (cut v13 2 (v13.length : Int)) fun x26 =>
      (fR n0) x26 x25
    ) else (
      some (v14,true)
    )
def jX (a0 : (List UInt8)) : Option ((List bK) × Bool) :=
  bno (oU a0) fun x1 =>
  bnd (!decide (x1.2 = 0)) fun x2 =>
  bno (gd (x2 == false) (remI (x1.1.length : Int) 2) 0) fun x3 =>
  bnd (decide (x3 = 1)) fun x4 =>
  bnd (x2 || x4) fun x5 =>
  bif x5 then (
    some ([],false)
  ) else (
    fR fuel x1.1 ([] : (List bK))
  )

def eO (a1 : aH) (x1 : (List Nat)) : Nat → (List UInt8) → Int → Int → Int → Int → Int → Int → Int → Option (Bool × aH)
  | 0,_,_,_,_,_,_,_,_=>none
  | n0 + 1, v12, v13, v14, v15, v16, v17, v18, v19 =>
    bnd (decide (v13 < (x1.length : Int))) fun x30 =>
    bif x30 then (
      bno (gix x1 v13) fun x32 =>
      bno (x1[(v13 : Int).toNat]?) fun x33 =>
      bno (mD v12) fun x34 =>
      bnd (!decide (x34.2.2 = 0)) fun x35 =>
      bif x35 then (
        some (false,(⟨a1.Kind,a1.Flag,v14,v15,v16,v17,v18,v19,a1.Pairs,a1.Data⟩ : aH))
      ) else (
        bno (zS [none,none,some v14,some v15,some v16,some v17,some v18,some v19,none,none] x33) fun x37 =>
        bno (cut v12 x34.2.1 (v12.length : Int)) fun x38 =>
        bnd (IntKind.wrap .i64 (v13 + 1)) fun x39 =>
        (eO a1 x1 n0) x38 x39 (bif Nat.beq x33 2 then x34.1 else v14) (bif Nat.beq x33 3 then x34.1 else v15) (bif Nat.beq x33 4 then x34.1 else v16) (bif Nat.beq x33 5 then x34.1 else v17) (bif Nat.beq x33 6 then x34.1 else v18) (bif Nat.beq x33 7 then x34.1 else v19)
      )
    ) else (
      bnd (decide (a1.Kind = 0)) fun x40 =>
      bif x40 then (
        some (true,(⟨a1.Kind,a1.Flag,v14,v15,v16,v17,v18,v19,a1.Pairs,v12⟩ : aH))
      ) else (
        bnd (decide (a1.Kind = 4)) fun x42 =>
        bif x42 then (
          bno (jX v12) fun x44 =>
          some (x44.2,(⟨a1.Kind,a1.Flag,v14,v15,v16,v17,v18,v19,x44.1,a1.Data⟩ : aH))
        ) else (
          bnd (decide (v12 = ([] : List UInt8))) fun x45 =>
          some (x45,(⟨a1.Kind,a1.Flag,v14,v15,v16,v17,v18,v19,a1.Pairs,a1.Data⟩ : aH))
        )
      )
    )
def iR (a0 : (List UInt8)) (a1 : aH) : Option (Bool × aH) :=
  bno (eP a1) fun x1 =>
  eO a1 x1 fuel a0 0 a1.Stream a1.Offset a1.Dep a1.Weight a1.N a1.Code

def pH (a0 : (List UInt8)) : Option (aH × Int × Int) :=
  bno (rQ a0) fun x1 =>
  bnd (!decide (x1.2.2.2 = 0)) fun x2 =>
  bif x2 then (
    some ((⟨0,false,0,0,0,0,0,0,[],[]⟩ : aH),0,x1.2.2.2)
  ) else (
    bno (cut a0 x1.2.1 x1.2.2.1) fun x4 =>
    bno (iR x4 x1.1) fun x5 =>
    bif (!x5.1) then (
      some ((⟨0,false,0,0,0,0,0,0,[],[]⟩ : aH),0,4)
    ) else (
      bno (mJ x5.2) fun x7 =>
      bnd (!decide (x7 = 0)) fun x8 =>
      bif x8 then (
        some ((⟨0,false,0,0,0,0,0,0,[],[]⟩ : aH),0,x7)
      ) else (
        some (x5.2,x1.2.2.1,0)
      )
    )
  )

def fA (a0 : aH) (a1 : aH) : Nat → Int → Option Bool
  | 0,_=>none
  | n0 + 1, v10 =>
    bnd (decide (v10 < (a0.Pairs.length : Int))) fun x18 =>
    bif x18 then (
      bno (gix a0.Pairs v10) fun x20 =>
      bno (gix a1.Pairs v10) fun x21 =>
      bnd ((decide (x20.ID = x21.ID) && (decide (x20.Value = x21.Value) && true))) fun x22 =>
      bif (!x22) then (
        some false
      ) else (
        bnd (IntKind.wrap .i64 (v10 + 1)) fun x24 =>
        (fA a0 a1 n0) x24
      )
    ) else (
      bnd (decide (a0.Kind = a1.Kind)) fun x25 =>
      bnd (a0.Flag == a1.Flag) fun x26 =>
      bnd (x25 && x26) fun x27 =>
      bnd (decide (a0.Stream = a1.Stream)) fun x28 =>
      bnd (x27 && x28) fun x29 =>
      bnd (decide (a0.Offset = a1.Offset)) fun x30 =>
      bnd (x29 && x30) fun x31 =>
      bnd (decide (a0.Dep = a1.Dep)) fun x32 =>
      bnd (x31 && x32) fun x33 =>
      bnd (decide (a0.Weight = a1.Weight)) fun x34 =>
      bnd (x33 && x34) fun x35 =>
      bnd (decide (a0.N = a1.N)) fun x36 =>
      bnd (x35 && x36) fun x37 =>
      bnd (decide (a0.Code = a1.Code)) fun x38 =>
      bnd (x37 && x38) fun x39 =>
      bnd (decide (a0.Data = a1.Data)) fun x40 =>
      bnd (x39 && x40) fun x41 =>
      some x41
    )
def jS (a0 : aH) (a1 : aH) : Option Bool :=
  bnd (!decide ((a0.Pairs.length : Int) = (a1.Pairs.length : Int))) fun x1 =>
  bif x1 then (
    some false
  ) else (
    fA a0 a1 fuel 0
  )

end Go.Fn
open Go Go.IL
namespace Go.Fn
structure cX where
  Buf : (List UInt8)
  Bad : Int
  Seen : Int
  deriving DecidableEq,Inhabited
def jQ (a0 : cX) : Option Int :=
  bnd (!decide (a0.Bad = 0)) fun x1 =>
  bnd (!decide (a0.Buf = ([] : List UInt8))) fun x2 =>
  bnd (x1 && x2) fun x3 =>
  bif x3 then (
    some 4
  ) else (
    bno (pH a0.Buf) fun x5 =>
    bnd (!decide (x5.2.2 = 3)) fun x6 =>
    bnd (decide (80 < (a0.Buf.length : Int))) fun x7 =>
    bnd (x6 || x7) fun x8 =>
    bif x8 then (
      some 5
    ) else (
      bnd (decide (a0.Seen < 0)) fun x10 =>
      bif x10 then (
        some 8
      ) else (
        some 0
      )
    )
  )

def jE (v37 : (List UInt8)) (v38 : Int) (v39 : Int) (v40 : (List aH)) : Option (cX × (List aH)) :=
  some ((⟨v37,v38,v39⟩ : cX),v40)
def gZ (a0 : cX) : Nat → (List UInt8) → Int → (List aH) → Option (cX × (List aH))
  | 0,_,_,_=>none
  | n2 + 1, v50, v51, v52 =>
    bno (pH v50) fun x62 =>
    bnd (decide (x62.2.2 = 0)) fun x63 =>
    bif x63 then (
      bno (cut v50 x62.2.1 (v50.length : Int)) fun x65 =>
      bnd (IntKind.wrap .i64 (v51 + 1)) fun x66 =>
      bno (app 96 v52 ([x62.1] : (List aH))) fun x67 =>
      bif (!true) then (
        jE x65 a0.Bad x66 x67
      ) else (
        (gZ a0 n2) x65 x66 x67
      )
    ) else (
      bnd (decide (x62.2.2 = 3)) fun x69 =>
      bif x69 then (
        jE v50 a0.Bad v51 v52
      ) else (
        jE ([] : (List UInt8)) x62.2.2 v51 v52
      )
    )
def mU (a0 : cX) (a1 : (List UInt8)) : Option (cX × (List aH)) :=
  bnd (!decide (a0.Bad = 0)) fun x1 =>
  bno (gd (x1 == false) (jQ a0) default) fun x2 =>
  bnd (!decide (x2 = 0)) fun x3 =>
  bnd (x1 || x3) fun x4 =>
  bif x4 then (
    some (a0,[])
  ) else (
    bno (cat a0.Buf a1) fun x6 =>
    gZ a0 fuel x6 a0.Seen ([] : (List aH))
  )

def eH (a0 : (List aH)) (a1 : (List aH)) : Nat → Int → Option Bool
  | 0,_=>none
  | n0 + 1, v10 =>
    bnd (decide (v10 < (a0.length : Int))) fun x18 =>
    bif x18 then (
      bno (gix a0 v10) fun x20 =>
      bno (gix a1 v10) fun x21 =>
      bno (jS x20 x21) fun x22 =>
      bif (!x22) then (
        some false
      ) else (
        bnd (IntKind.wrap .i64 (v10 + 1)) fun x24 =>
        (eH a0 a1 n0) x24
      )
    ) else (
      some true
    )
def fP (a0 : (List aH)) (a1 : (List aH)) : Option Bool :=
  bnd (!decide ((a0.length : Int) = (a1.length : Int))) fun x1 =>
  bif x1 then (
    some false
  ) else (
    eH a0 a1 fuel 0
  )

end Go.Fn
open Go Go.IL
namespace Go.Fn
structure aCi where
  Kind : Int
  N : Int
  Path : Int
  Fin : Bool
  deriving DecidableEq,Inhabited
structure aM where
  From : Int
  To : Int
  Path : Int
  Fin : Bool
  deriving DecidableEq,Inhabited
def aD : Enc aM:=⟨⟨fun x=>.agg [.int .i64 x.From,.int .i64 x.To,.int .i64 x.Path,.bool x.Fin],4,by decide,fun _=>⟨rfl,rfl⟩⟩,fun _=>rfl⟩

structure aI where
  From : Int
  To : Int
  deriving DecidableEq,Inhabited
def aJ : Enc aI:=⟨⟨fun x=>.agg [.int .i64 x.From,.int .i64 x.To],2,by decide,fun _=>⟨rfl,rfl⟩⟩,fun _=>rfl⟩

structure bB where
  Base : Int
  Data : (List UInt8)
  Next : Int
  Pieces : (List aM)
  Lost : (List aI)
  Closed : Bool
  Sent : Bool
  Again : Bool
  Done : Bool
  deriving DecidableEq,Inhabited
def yU  : Option bB :=
  some (⟨0,[],0,[],[],false,false,false,false⟩ : bB)

def dQ (a0 : (List aI)) : Option (List aI) :=
  xR a0 (
    some []
  ) (
    bno (app 16 ([] : (List aI)) a0) fun x3 =>
    some x3
  )

def fL (a0 : bB) : Option (Int × (List UInt8) × Int × (List aM) × (List aI) × Bool × Bool × Bool × Bool) :=
  bno (made 32 (a0.Pieces.length : Int) ((⟨0,0,0,false⟩ : aM) : aM)) fun x1 =>
  bnd (cpy x1 a0.Pieces) fun x2 =>
  bno (dQ a0.Lost) fun x3 =>
  some (a0.Base,a0.Data,a0.Next,x2,x3,a0.Closed,a0.Sent,a0.Again,a0.Done)

def rD (a0 : Int) : Option Bool :=
  bnd (decide (0 ≤ a0)) fun x1 =>
  bnd (decide (a0 ≤ 4611686018427387903)) fun x2 =>
  bnd (x1 && x2) fun x3 =>
  some x3

def gP (a0 : aI) : Option Bool :=
  bno (rD a0.From) fun x1 =>
  bno (gd (x1 == true) (rD a0.To) default) fun x2 =>
  bnd (x1 && x2) fun x3 =>
  some x3

def lT (a0 : aI) : Option Bool :=
  bno (gP (⟨a0.From,a0.To⟩ : aI)) fun x1 =>
  some (!x1)

def bY (a0 : (List aI)) : Nat → Int → Option Int
  | 0,_=>none
  | n0 + 1, v7 =>
    bnd (decide (v7 < (a0.length : Int))) fun x14 =>
    bif x14 then (
      bno (gix a0 v7) fun x16 =>
      bno (lT (⟨x16.From,x16.To⟩ : aI)) fun x17 =>
      bif x17 then (
        some v7
      ) else (
        bnd (IntKind.wrap .i64 (v7 + 1)) fun x19 =>
        (bY a0 n0) x19
      )
    ) else (
      some (-1)
    )
def dZ (a0 : (List aI)) : Option Int :=
  bY a0 fuel 0

def dE (a0 : (List aI)) : Option Bool :=
  bno (dZ a0) fun x1 =>
  bnd (decide (0 ≤ x1)) fun x2 =>
  some x2

def fI (a0 : aI) : Option Bool :=
  bnd (decide (a0.To ≤ a0.From)) fun x1 =>
  some x1

def cB (a0 : (List aI)) : Nat → Int → Option Int
  | 0,_=>none
  | n0 + 1, v7 =>
    bnd (decide (v7 < (a0.length : Int))) fun x14 =>
    bif x14 then (
      bno (gix a0 v7) fun x16 =>
      bno (fI (⟨x16.From,x16.To⟩ : aI)) fun x17 =>
      bif x17 then (
        some v7
      ) else (
        bnd (IntKind.wrap .i64 (v7 + 1)) fun x19 =>
        (cB a0 n0) x19
      )
    ) else (
      some (-1)
    )
def eE (a0 : (List aI)) : Option Int :=
  cB a0 fuel 0

def dK (a0 : (List aI)) : Option Bool :=
  bno (eE a0) fun x1 =>
  bnd (decide (0 ≤ x1)) fun x2 =>
  some x2

def fT (a0 : (List aI)) : Nat → Int → Option Int
  | 0,_=>none
  | n0 + 1, v13 =>
    bnd (decide (v13 < (a0.length : Int))) fun x22 =>
    bif x22 then (
      bno (gix a0 v13) fun x24 =>
      bnd (IntKind.wrap .i64 (v13 - 1)) fun x25 =>
      bno (gix a0 x25) fun x26 =>
      bnd (decide (x24.From ≤ x26.To)) fun x27 =>
      bif x27 then (
        some 10
      ) else (
        bnd (IntKind.wrap .i64 (v13 + 1)) fun x29 =>
        (fT a0 n0) x29
      )
    ) else (
      some 0
    )
def kJ (a0 : (List aI)) : Option Int :=
  bno (dE a0) fun x1 =>
  bif x1 then (
    some 8
  ) else (
    bno (dK a0) fun x3 =>
    bif x3 then (
      some 4
    ) else (
      fT a0 fuel 1
    )
  )

def kC (a0 : bB) : Option Bool :=
  bno (kJ a0.Lost) fun x1 =>
  bnd (!decide (x1 = 0)) fun x2 =>
  bif x2 then (
    some false
  ) else (
    bnd (decide ((a0.Lost.length : Int) = 0)) fun x4 =>
    bno (gd (x4 == false) (gix a0.Lost 0) default) fun x5 =>
    bnd (decide (a0.Base ≤ x5.From)) fun x6 =>
    bnd (IntKind.wrap .i64 ((a0.Lost.length : Int) - 1)) fun x7 =>
    bno (gd ((x4 == false) && (x6 == true)) (gix a0.Lost x7) default) fun x8 =>
    bnd (decide (x8.To ≤ a0.Next)) fun x9 =>
    bnd (x6 && x9) fun x10 =>
    bnd (x4 || x10) fun x11 =>
    some x11
  )

def qP (a0 : Int) : Option Bool :=
  bnd (decide (0 ≤ a0)) fun x1 =>
  bnd (decide (a0 < 4)) fun x2 =>
  bnd (x1 && x2) fun x3 =>
  some x3

def gV (a0 : aM) : Option aI :=
  some (⟨a0.From,a0.To⟩ : aI)

def dF (a0 : (List aI)) : Option (List aI) :=
  xR a0 (
    some ([] : (List aI))
  ) (
    bno (app 16 ([] : (List aI)) a0) fun x3 =>
    some x3
  )

def fO (v52 : Int) (kk0 : Int → (List aI) → Option (List aI)) (x99 : aI) (x100 : Int) (x101 : Int) : Nat → Int → (List aI) → Option (List aI)
  | 0,_,_=>none
  | n1 + 1, v113, v114 =>
    bnd (decide (v113 < 2)) fun x127 =>
    bif x127 then (
      bno (gix ([(⟨x99.From,x100⟩ : aI),(⟨x101,x99.To⟩ : aI)] : List aI) v113) fun x129 =>
      bno (fI (⟨x129.From,x129.To⟩ : aI)) fun x130 =>
      bif ((!x130) == true) then (
        bno (app 16 v114 (([(⟨x129.From,x129.To⟩ : aI)] : (List aI)))) fun x132 =>
        bnd ((!x130) && (!true)) fun x133 =>
        bif x133 then (
          some x132
        ) else (
          bnd (IntKind.wrap .i64 (v113 + 1)) fun x135 =>
          (fO v52 kk0 x99 x100 x101 n1) x135 x132
        )
      ) else (
        bnd ((!x130) && (!false)) fun x136 =>
        bif x136 then (
          some v114
        ) else (
          bnd (IntKind.wrap .i64 (v113 + 1)) fun x138 =>
          (fO v52 kk0 x99 x100 x101 n1) x138 v114
        )
      )
    ) else (
      bnd (IntKind.wrap .i64 (v52 + 1)) fun x139 =>
      kk0 x139 v114
    )
def iQ (a0 : (List aI)) (a1 : aI) : Nat → Int → (List aI) → Option (List aI)
  | 0,_,_=>none
  | n0 + 1, v52, v53 =>
    bnd (decide (v52 < (a0.length : Int))) fun x97 =>
    bif x97 then (
      bno (gix a0 v52) fun x99 =>
      bnd (min x99.To a1.From) fun x100 =>
      bnd (max x99.From a1.To) fun x101 =>
      fO v52 (iQ a0 a1 n0) x99 x100 x101 fuel 0 v53
    ) else (
      some v53
    )
def nS (a0 : (List aI)) (a1 : aI) : Option (List aI) :=
  bno (gP (⟨a1.From,a1.To⟩ : aI)) fun x1 =>
  bno (gd ((!x1) == false) (fI (⟨a1.From,a1.To⟩ : aI)) default) fun x2 =>
  bnd ((!x1) || x2) fun x3 =>
  bno (gd (x3 == false) (kJ a0) default) fun x4 =>
  bnd (!decide (x4 = 0)) fun x5 =>
  bnd (x3 || x5) fun x6 =>
  bif x6 then (
    bno (dF a0) fun x8 =>
    some x8
  ) else (
    iQ a0 a1 fuel 0 ([] : (List aI))
  )

def iP (a0 : (List aI)) : Nat → (List aI) → Int → Option (List aI)
  | 0,_,_=>none
  | n0 + 1, v13, v14 =>
    bnd (decide (v14 < (a0.length : Int))) fun x20 =>
    bif x20 then (
      bno (gix a0 v14) fun x22 =>
      bno (nS v13 (⟨x22.From,x22.To⟩ : aI)) fun x23 =>
      bnd (IntKind.wrap .i64 (v14 + 1)) fun x24 =>
      (iP a0 n0) x23 x24
    ) else (
      some v13
    )
def pC (a0 : (List aI)) (a1 : aI) : Option (List aI) :=
  bno (gP (⟨a1.From,a1.To⟩ : aI)) fun x1 =>
  bno (gd ((!x1) == false) (kJ a0) default) fun x2 =>
  bnd (!decide (x2 = 0)) fun x3 =>
  bnd ((!x1) || x3) fun x4 =>
  bno (gd (x4 == false) (fI (⟨a1.From,a1.To⟩ : aI)) default) fun x5 =>
  bnd (x4 || x5) fun x6 =>
  bif x6 then (
    some []
  ) else (
    iP a0 fuel (([(⟨a1.From,a1.To⟩ : aI)] : (List aI))) 0
  )

def cP (a0 : (List aI)) (a1 : (List aI)) : Nat → Int → Option Bool
  | 0,_=>none
  | n0 + 1, v10 =>
    bnd (decide (v10 < (a0.length : Int))) fun x18 =>
    bif x18 then (
      bno (gix a0 v10) fun x20 =>
      bno (gix a1 v10) fun x21 =>
      bnd ((decide (x20.From = x21.From) && (decide (x20.To = x21.To) && true))) fun x22 =>
      bif (!x22) then (
        some false
      ) else (
        bnd (IntKind.wrap .i64 (v10 + 1)) fun x24 =>
        (cP a0 a1 n0) x24
      )
    ) else (
      some true
    )
def eK (a0 : (List aI)) (a1 : (List aI)) : Option Bool :=
  bnd (!decide ((a0.length : Int) = (a1.length : Int))) fun x1 =>
  bif x1 then (
    some false
  ) else (
    cP a0 a1 fuel 0
  )

def nM (a0 : (List aI)) (a1 : (List aI)) : Option Bool :=
  bno (eK a0 a1) fun x1 =>
  some x1

def kD (a0 : bB) (a1 : aM) (a2 : Int) : Option Bool :=
  bnd (decide (a1.From < a2)) fun x1 =>
  bnd (decide (a1.To < a1.From)) fun x2 =>
  bnd (x1 || x2) fun x3 =>
  bnd (decide (a0.Next < a1.To)) fun x4 =>
  bnd (x3 || x4) fun x5 =>
  bno (gd (x5 == false) (qP a1.Path) default) fun x6 =>
  bnd (x5 || (!x6)) fun x7 =>
  bif x7 then (
    some false
  ) else (
    bnd (decide (a1.From = a1.To)) fun x9 =>
    bif x9 then (
      some a1.Fin
    ) else (
      bno (gV a1) fun x11 =>
      bno (pC a0.Lost (⟨x11.From,x11.To⟩ : aI)) fun x12 =>
      bno (gV a1) fun x13 =>
      bno (nM x12 ([(⟨x13.From,x13.To⟩ : aI)] : (List aI))) fun x14 =>
      some x14
    )
  )

def eR (a0 : bB) : Option Int :=
  bnd (IntKind.wrap .i64 (a0.Base + (a0.Data.length : Int))) fun x1 =>
  some x1

def eL (a0 : bB) : Nat → Int → Int → Option Bool
  | 0,_,_=>none
  | n0 + 1, v11, v12 =>
    bnd (decide (v12 < (a0.Pieces.length : Int))) fun x23 =>
    bif x23 then (
      bno (gix a0.Pieces v12) fun x25 =>
      bif x25.Fin then (
        bnd (IntKind.wrap .i64 (v11 + 1)) fun x27 =>
        bno (eR a0) fun x28 =>
        bnd (!decide (x25.To = x28)) fun x29 =>
        bif x29 then (
          some false
        ) else (
          bnd (IntKind.wrap .i64 (v12 + 1)) fun x31 =>
          (eL a0 n0) x27 x31
        )
      ) else (
        bnd (IntKind.wrap .i64 (v12 + 1)) fun x32 =>
        (eL a0 n0) v11 x32
      )
    ) else (
      bif (!a0.Sent) then (
        bnd (decide (v11 = 0)) fun x34 =>
        bnd (x34 && (!a0.Again)) fun x35 =>
        bnd (x35 && (!a0.Done)) fun x36 =>
        some x36
      ) else (
        bno (gd ((!a0.Closed) == false) (eR a0) default) fun x37 =>
        bnd (!decide (a0.Next = x37)) fun x38 =>
        bnd ((!a0.Closed) || x38) fun x39 =>
        bnd (a0.Again && a0.Done) fun x40 =>
        bnd (x39 || x40) fun x41 =>
        bif x41 then (
          some false
        ) else (
          bnd ((!a0.Again) && (!a0.Done)) fun x43 =>
          bnd (decide (v11 = 1)) fun x44 =>
          bnd (x43 && x44) fun x45 =>
          bnd (decide (v11 = 0)) fun x46 =>
          bnd ((!x43) && x46) fun x47 =>
          bnd (x45 || x47) fun x48 =>
          some x48
        )
      )
    )
def lP (a0 : bB) : Option Bool :=
  eL a0 fuel 0 0

def iF (a0 : bB) : Nat → Int → Int → Option Int
  | 0,_,_=>none
  | n1 + 1, v21, v22 =>
    bnd (decide (v22 < (a0.Pieces.length : Int))) fun x29 =>
    bif x29 then (
      bno (gix a0.Pieces v22) fun x31 =>
      bno (kD a0 x31 v21) fun x32 =>
      bif (!x32) then (
        some 10
      ) else (
        bnd (IntKind.wrap .i64 (v22 + 1)) fun x34 =>
        (iF a0 n1) x31.To x34
      )
    ) else (
      bno (lP a0) fun x35 =>
      bif (!x35) then (
        some 9
      ) else (
        some 0
      )
    )
def jK (a0 : bB) (v9 : Bool) : Option Int :=
  bif v9 then (
    some 8
  ) else (
    bnd (decide (4096 < (a0.Data.length : Int))) fun x11 =>
    bif x11 then (
      some 5
    ) else (
      bno (kC a0) fun x13 =>
      bif (!x13) then (
        some 4
      ) else (
        iF a0 fuel a0.Base 0
      )
    )
  )
def jW (a0 : bB) : Option Int :=
  bnd (decide (a0.Base < 0)) fun x37 =>
  bif x37 then (
    jK a0 x37
  ) else (
    bnd (decide (1099511623680 < a0.Base)) fun x39 =>
    bif x39 then (
      jK a0 x39
    ) else (
      bnd (decide (a0.Next < a0.Base)) fun x41 =>
      bif x41 then (
        jK a0 x41
      ) else (
        bnd (IntKind.wrap .i64 (a0.Next - a0.Base)) fun x43 =>
        bnd (decide ((a0.Data.length : Int) < x43)) fun x44 =>
        jK a0 x44
      )
    )
  )

def oX (a0 : bB) : Option Int :=
  bif a0.Closed then (
    some 0
  ) else (
    bnd (IntKind.wrap .i64 (4096 - (a0.Data.length : Int))) fun x2 =>
    some x2
  )

def oW (a0 : bB) (a1 : (List UInt8)) : Option (bB × Int) :=
  bno (fL a0) fun x1 =>
  bno (jW a0) fun x2 =>
  bnd (!decide (x2 = 0)) fun x3 =>
  bif x3 then (
    some ((⟨x1.1,x1.2.1,x1.2.2.1,x1.2.2.2.1,x1.2.2.2.2.1,x1.2.2.2.2.2.1,x1.2.2.2.2.2.2.1,x1.2.2.2.2.2.2.2.1,x1.2.2.2.2.2.2.2.2⟩ : bB),0)
  ) else (
    bno (oX a0) fun x5 =>
    bnd (min x5 (a1.length : Int)) fun x6 =>
    bno (eR a0) fun x7 =>
    bnd (IntKind.wrap .i64 (1099511623680 - x6)) fun x8 =>
    bnd (decide (x8 < x7)) fun x9 =>
    bif x9 then (
      some ((⟨x1.1,x1.2.1,x1.2.2.1,x1.2.2.2.1,x1.2.2.2.2.1,x1.2.2.2.2.2.1,x1.2.2.2.2.2.2.1,x1.2.2.2.2.2.2.2.1,x1.2.2.2.2.2.2.2.2⟩ : bB),0)
    ) else (
      bno (cut a1 0 x6) fun x11 =>
      bno (cat x1.2.1 x11) fun x12 =>
      some ((⟨x1.1,x12,x1.2.2.1,x1.2.2.2.1,x1.2.2.2.2.1,x1.2.2.2.2.2.1,x1.2.2.2.2.2.2.1,x1.2.2.2.2.2.2.2.1,x1.2.2.2.2.2.2.2.2⟩ : bB),x6)
    )
  )

def mL (a0 : bB) : Option Bool :=
  bnd ((!a0.Closed) || a0.Done) fun x1 =>
  bif x1 then (
    some false
  ) else (
    bnd (a0.Again || (!a0.Sent)) fun x3 =>
    some x3
  )

def lO (a0 : bB) (a1 : Int) (a2 : Int) : Option (aM × Bool) :=
  bnd (decide (0 < (a0.Lost.length : Int))) fun x1 =>
  bif x1 then (
    bno (gix a0.Lost 0) fun x3 =>
    bnd (IntKind.wrap .i64 (x3.To - x3.From)) fun x4 =>
    bnd (min a1 x4) fun x5 =>
    bnd (IntKind.wrap .i64 (x3.From + x5)) fun x6 =>
    some ((⟨x3.From,x6,0,false⟩ : aM),true)
  ) else (
    bno (eR a0) fun x7 =>
    bnd (IntKind.wrap .i64 (x7 - a0.Next)) fun x8 =>
    bnd (decide (0 < x8)) fun x9 =>
    bif x9 then (
      bnd (max a2 a0.Next) fun x11 =>
      bnd (IntKind.wrap .i64 (x11 - a0.Next)) fun x12 =>
      bnd (min (min x8 a1) x12) fun x13 =>
      bnd (IntKind.wrap .i64 (a0.Next + x13)) fun x14 =>
      bnd (decide (0 < x13)) fun x15 =>
      some ((⟨a0.Next,x14,0,false⟩ : aM),x15)
    ) else (
      bno (mL a0) fun x16 =>
      some ((⟨a0.Next,a0.Next,0,false⟩ : aM),x16)
    )
  )

def lN (a0 : aM) (a1 : aM) : Option Bool :=
  bnd (decide (a1.From < a0.From)) fun x1 =>
  bnd (decide (a0.From = a1.From)) fun x2 =>
  bnd (decide (a1.To ≤ a0.To)) fun x3 =>
  bnd (x2 && x3) fun x4 =>
  bnd (x1 || x4) fun x5 =>
  some x5

def cS (a0 : (List aM)) (a1 : aM) : Nat → Int → Option Int
  | 0,_=>none
  | n0 + 1, v7 =>
    bnd (decide (v7 < (a0.length : Int))) fun x14 =>
    bif x14 then (
      bno (gix a0 v7) fun x16 =>
      bno (lN x16 a1) fun x17 =>
      bif x17 then (
        some v7
      ) else (
        bnd (IntKind.wrap .i64 (v7 + 1)) fun x19 =>
        (cS a0 a1 n0) x19
      )
    ) else (
      some (-1)
    )
def dV (a0 : (List aM)) (a1 : aM) : Option Int :=
  cS a0 a1 fuel 0

def mZ (a0 : bB) (a1 : aM) : Option Int :=
  bno (cut a0.Pieces 0 (a0.Pieces.length : Int)) fun x1 =>
  bno (eR a0) fun x2 =>
  bno (eR a0) fun x3 =>
  bnd (IntKind.wrap .i64 (x3 + 1)) fun x4 =>
  bno (app 32 x1 (([(⟨x2,x4,0,false⟩ : aM)] : (List aM)))) fun x5 =>
  bno (dV x5 a1) fun x6 =>
  some x6

def gH (a0 : Int) (a1 : (List aM)) (a2 : (List aM)) : Option (List aM):=insS 32 a2 a0 a1

def oC (a0 : bB) (a1 : Int) (x1 : (Int × (List UInt8) × Int × (List aM) × (List aI) × Bool × Bool × Bool × Bool)) (x9 : (aM × Bool)) (x11 : Int) (v16 : (List aI)) (v22 : Bool) (v23 : Bool) (v24 : Bool) : Option (bB × aM × (List UInt8) × Bool) :=
  bno (mZ a0 (⟨x9.1.From,x9.1.To,a1,v24⟩ : aM)) fun x25 =>
  bno (gH x25 ([(⟨x9.1.From,x9.1.To,a1,v24⟩ : aM)] : (List aM)) x1.2.2.2.1) fun x26 =>
  bnd (IntKind.wrap .i64 (x9.1.From - a0.Base)) fun x27 =>
  bnd (IntKind.wrap .i64 (x9.1.To - a0.Base)) fun x28 =>
  bno (cut a0.Data x27 x28) fun x29 =>
  some (((⟨x1.1,x1.2.1,x11,x26,v16,x1.2.2.2.2.2.1,v22,v23,x1.2.2.2.2.2.2.2.2⟩ : bB),(⟨x9.1.From,x9.1.To,a1,v24⟩ : aM),x29,true))
def oD (a0 : bB) (a1 : Int) (x1 : (Int × (List UInt8) × Int × (List aM) × (List aI) × Bool × Bool × Bool × Bool)) (x9 : (aM × Bool)) (x11 : Int) (v16 : (List aI)) : Option (bB × aM × (List UInt8) × Bool) :=
  bno (eR a0) fun x30 =>
  bnd (decide (x9.1.To = x30)) fun x31 =>
  bno (gd (x31 == true) (mL a0) default) fun x32 =>
  bnd (x31 && x32) fun x33 =>
  bif x33 then (
    oC a0 a1 x1 x9 x11 v16 true false x33
  ) else (
    oC a0 a1 x1 x9 x11 v16 x1.2.2.2.2.2.2.1 x1.2.2.2.2.2.2.2.1 x33
  )
def wB (a0 : bB) (a1 : Int) (a2 : Int) (a3 : Int) : Option (bB × aM × (List UInt8) × Bool) :=
  bno (fL a0) fun x1 =>
  bno (qP a1) fun x2 =>
  bnd (decide (a2 < 1)) fun x3 =>
  bnd ((!x2) || x3) fun x4 =>
  bno (gd (x4 == false) (jW a0) default) fun x5 =>
  bnd (!decide (x5 = 0)) fun x6 =>
  bnd (x4 || x6) fun x7 =>
  bif x7 then (
    some (((⟨x1.1,x1.2.1,x1.2.2.1,x1.2.2.2.1,x1.2.2.2.2.1,x1.2.2.2.2.2.1,x1.2.2.2.2.2.2.1,x1.2.2.2.2.2.2.2.1,x1.2.2.2.2.2.2.2.2⟩ : bB),(⟨0,0,0,false⟩ : aM),[],false))
  ) else (
    bno (lO a0 a2 a3) fun x9 =>
    bif (!x9.2) then (
      some (((⟨x1.1,x1.2.1,x1.2.2.1,x1.2.2.2.1,x1.2.2.2.2.1,x1.2.2.2.2.2.1,x1.2.2.2.2.2.2.1,x1.2.2.2.2.2.2.2.1,x1.2.2.2.2.2.2.2.2⟩ : bB),(⟨0,0,0,false⟩ : aM),[],false))
    ) else (
      bnd (max x1.2.2.1 x9.1.To) fun x11 =>
      bnd (decide (x9.1.From < x9.1.To)) fun x35 =>
      bif x35 then (
        bno (gV (⟨x9.1.From,x9.1.To,a1,x9.1.Fin⟩ : aM)) fun x37 =>
        bno (nS x1.2.2.2.2.1 (⟨x37.From,x37.To⟩ : aI)) fun x38 =>
        oD a0 a1 x1 x9 x11 x38
      ) else (
        oD a0 a1 x1 x9 x11 x1.2.2.2.2.1
      )
    )
  )

def nO (a0 : aM) (a1 : Int) : Option Bool :=
  bnd (decide (a0.Path = a1)) fun x1 =>
  some x1

def kI (a0 : aI) (a1 : (List aI)) : Option (List aI) :=
  bno (fI (⟨a0.From,a0.To⟩ : aI)) fun x1 =>
  bif x1 then (
    some a1
  ) else (
    bnd (decide (0 < (a1.length : Int))) fun x3 =>
    bnd (IntKind.wrap .i64 ((a1.length : Int) - 1)) fun x4 =>
    bno (gd (x3 == true) (gix a1 x4) default) fun x5 =>
    bno (gd (x3 == true) (a1[(x4 : Int).toNat]?) default) fun x6 =>
    bnd (decide (a0.From ≤ x6.To)) fun x7 =>
    bnd (x3 && x7) fun x8 =>
    bif x8 then (
      bnd (IntKind.wrap .i64 ((a1.length : Int) - 1)) fun x10 =>
      bnd (IntKind.wrap .i64 ((a1.length : Int) - 1)) fun x11 =>
      bno (gix a1 x11) fun x12 =>
      bno (a1[(x11 : Int).toNat]?) fun x13 =>
      bnd (max x13.To a0.To) fun x14 =>
      bno (gix a1 x10) fun x15 =>
      bno (a1[(x10 : Int).toNat]?) fun x16 =>
      bnd (a1.set ((x10 : Int).toNat) (⟨x16.From,x14⟩ : aI)) fun x17 =>
      some x17
    ) else (
      bno (app 16 a1 (([(⟨a0.From,a0.To⟩ : aI)] : (List aI)))) fun x18 =>
      some x18
    )
  )

def oG (v26 : Int) (kk0 : (List aI) → Bool → Int → Option (List aI)) (x44 : aI) (v49 : (List aI)) (v50 : Bool) : Option (List aI) :=
  bno (kI (⟨x44.From,x44.To⟩ : aI) v49) fun x51 =>
  bnd (IntKind.wrap .i64 (v26 + 1)) fun x52 =>
  kk0 x51 v50 x52
def kK (a0 : (List aI)) (a1 : aI) : Nat → (List aI) → Bool → Int → Option (List aI)
  | 0,_,_,_=>none
  | n0 + 1, v24, v25, v26 =>
    bnd (decide (v26 < (a0.length : Int))) fun x42 =>
    bif x42 then (
      bno (gix a0 v26) fun x44 =>
      bnd (decide (a1.From ≤ x44.From)) fun x53 =>
      bnd ((!v25) && x53) fun x54 =>
      bif x54 then (
        bno (kI (⟨a1.From,a1.To⟩ : aI) v24) fun x56 =>
        oG v26 (kK a0 a1 n0) x44 x56 true
      ) else (
        oG v26 (kK a0 a1 n0) x44 v24 v25
      )
    ) else (
      bif (!v25) then (
        bno (kI (⟨a1.From,a1.To⟩ : aI) v24) fun x58 =>
        some x58
      ) else (
        some v24
      )
    )
def wV (a0 : (List aI)) (a1 : aI) : Option (List aI) :=
  bno (gP (⟨a1.From,a1.To⟩ : aI)) fun x1 =>
  bno (gd ((!x1) == false) (fI (⟨a1.From,a1.To⟩ : aI)) default) fun x2 =>
  bnd ((!x1) || x2) fun x3 =>
  bno (gd (x3 == false) (kJ a0) default) fun x4 =>
  bnd (!decide (x4 = 0)) fun x5 =>
  bnd (x3 || x5) fun x6 =>
  bif x6 then (
    bno (dF a0) fun x8 =>
    some x8
  ) else (
    kK a0 a1 fuel ([] : (List aI)) false 0
  )

def cT (a0 : (List aM)) (a1 : Int) : Nat → Int → Option Int
  | 0,_=>none
  | n0 + 1, v7 =>
    bnd (decide (v7 < (a0.length : Int))) fun x14 =>
    bif x14 then (
      bno (gix a0 v7) fun x16 =>
      bno (nO x16 a1) fun x17 =>
      bif x17 then (
        some v7
      ) else (
        bnd (IntKind.wrap .i64 (v7 + 1)) fun x19 =>
        (cT a0 a1 n0) x19
      )
    ) else (
      some (-1)
    )
def dX (a0 : (List aM)) (a1 : Int) : Option Int :=
  cT a0 a1 fuel 0

def cG (a1 : Int) : Nat → (List aM) → Int → Int → Option (List aM)
  | 0,_,_,_=>none
  | n0 + 1, v17, v18, v19 =>
    bnd (decide (v19 < (v17.length : Int))) fun x32 =>
    bif x32 then (
      bno (gix v17 v19) fun x34 =>
      bno (v17[(v19 : Int).toNat]?) fun x35 =>
      bno (nO x35 a1) fun x36 =>
      bif (!x36) then (
        bno (gix v17 v18) fun x38 =>
        bno (v17[(v18 : Int).toNat]?) fun x39 =>
        bnd (v17.set ((v18 : Int).toNat) x35) fun x40 =>
        bnd (IntKind.wrap .i64 (v18 + 1)) fun x41 =>
        bnd (IntKind.wrap .i64 (v19 + 1)) fun x42 =>
        (cG a1 n0) x40 x41 x42
      ) else (
        bnd (IntKind.wrap .i64 (v19 + 1)) fun x43 =>
        (cG a1 n0) v17 v18 x43
      )
    ) else (
      bno (cut v17 0 v18) fun x44 =>
      bno (cut x44 0 v18) fun x45 =>
      some x45
    )
def dO (a0 : (List aM)) (a1 : Int) : Option (List aM) :=
  bno (dX a0 a1) fun x1 =>
  bnd (decide (x1 = (-1))) fun x2 =>
  bif x2 then (
    some a0
  ) else (
    bnd (IntKind.wrap .i64 (x1 + 1)) fun x4 =>
    cG a1 fuel a0 x1 x4
  )

def lE (a0 : bB) (a1 : Int) (x1 : (Int × (List UInt8) × Int × (List aM) × (List aI) × Bool × Bool × Bool × Bool)) : Nat → Int → (List aI) → Bool → Option bB
  | 0,_,_,_=>none
  | n0 + 1, v15, v16, v17 =>
    bnd (decide (v15 < (a0.Pieces.length : Int))) fun x28 =>
    bif x28 then (
      bno (gix a0.Pieces v15) fun x30 =>
      bno (nO x30 a1) fun x31 =>
      bif x31 then (
        bno (gV x30) fun x33 =>
        bno (wV v16 (⟨x33.From,x33.To⟩ : aI)) fun x34 =>
        bnd (v17 || x30.Fin) fun x35 =>
        bnd (IntKind.wrap .i64 (v15 + 1)) fun x36 =>
        (lE a0 a1 x1 n0) x36 x34 x35
      ) else (
        bnd (IntKind.wrap .i64 (v15 + 1)) fun x37 =>
        (lE a0 a1 x1 n0) x37 v16 v17
      )
    ) else (
      bno (dO x1.2.2.2.1 a1) fun x38 =>
      some (⟨x1.1,x1.2.1,x1.2.2.1,x38,v16,x1.2.2.2.2.2.1,x1.2.2.2.2.2.2.1,v17,x1.2.2.2.2.2.2.2.2⟩ : bB)
    )
def wC (a0 : bB) (a1 : Int) : Option bB :=
  bno (fL a0) fun x1 =>
  bno (jW a0) fun x2 =>
  bnd (!decide (x2 = 0)) fun x3 =>
  bif x3 then (
    some (⟨x1.1,x1.2.1,x1.2.2.1,x1.2.2.2.1,x1.2.2.2.2.1,x1.2.2.2.2.2.1,x1.2.2.2.2.2.2.1,x1.2.2.2.2.2.2.2.1,x1.2.2.2.2.2.2.2.2⟩ : bB)
  ) else (
    lE a0 a1 x1 fuel 0 x1.2.2.2.2.1 x1.2.2.2.2.2.2.2.1
  )

def pQ (a0 : aM) : Option Bool :=
  bnd (decide (a0.From = a0.To)) fun x1 =>
  bnd (x1 && (!a0.Fin)) fun x2 =>
  some x2

def cU (a0 : (List aM)) : Nat → Int → Option Int
  | 0,_=>none
  | n0 + 1, v7 =>
    bnd (decide (v7 < (a0.length : Int))) fun x14 =>
    bif x14 then (
      bno (gix a0 v7) fun x16 =>
      bno (pQ x16) fun x17 =>
      bif x17 then (
        some v7
      ) else (
        bnd (IntKind.wrap .i64 (v7 + 1)) fun x19 =>
        (cU a0 n0) x19
      )
    ) else (
      some (-1)
    )
def dY (a0 : (List aM)) : Option Int :=
  cU a0 fuel 0

def cH  : Nat → (List aM) → Int → Int → Option (List aM)
  | 0,_,_,_=>none
  | n0 + 1, v17, v18, v19 =>
    bnd (decide (v19 < (v17.length : Int))) fun x32 =>
    bif x32 then (
      bno (gix v17 v19) fun x34 =>
      bno (v17[(v19 : Int).toNat]?) fun x35 =>
      bno (pQ x35) fun x36 =>
      bif (!x36) then (
        bno (gix v17 v18) fun x38 =>
        bno (v17[(v18 : Int).toNat]?) fun x39 =>
        bnd (v17.set ((v18 : Int).toNat) x35) fun x40 =>
        bnd (IntKind.wrap .i64 (v18 + 1)) fun x41 =>
        bnd (IntKind.wrap .i64 (v19 + 1)) fun x42 =>
        (cH n0) x40 x41 x42
      ) else (
        bnd (IntKind.wrap .i64 (v19 + 1)) fun x43 =>
        (cH n0) v17 v18 x43
      )
    ) else (
      bno (cut v17 0 v18) fun x44 =>
      bno (cut x44 0 v18) fun x45 =>
      some x45
    )
def dP (a0 : (List aM)) : Option (List aM) :=
  bno (dY a0) fun x1 =>
  bnd (decide (x1 = (-1))) fun x2 =>
  bif x2 then (
    some a0
  ) else (
    bnd (IntKind.wrap .i64 (x1 + 1)) fun x4 =>
    cH fuel a0 x1 x4
  )

def mN (a0 : bB) (a2 : Bool) (x1 : (Int × (List UInt8) × Int × (List aM) × (List aI) × Bool × Bool × Bool × Bool)) (x14 : Int) : Nat → Int → (List aM) → Option bB
  | 0,_,_=>none
  | n0 + 1, v31, v32 =>
    bnd (decide (v31 < (x1.2.2.2.1.length : Int))) fun x49 =>
    bif x49 then (
      bno (gix v32 v31) fun x51 =>
      bno (v32[(v31 : Int).toNat]?) fun x52 =>
      bnd (max x52.From x14) fun x53 =>
      bno (v32[(v31 : Int).toNat]?) fun x54 =>
      bnd (max x54.To x14) fun x55 =>
      bno (v32[(v31 : Int).toNat]?) fun x56 =>
      bnd (v32.set ((v31 : Int).toNat) (⟨x53,x56.To,x56.Path,x56.Fin⟩ : aM)) fun x57 =>
      bno (x57[(v31 : Int).toNat]?) fun x58 =>
      bnd (x57.set ((v31 : Int).toNat) (⟨x58.From,x55,x58.Path,x58.Fin⟩ : aM)) fun x59 =>
      bno (x59[(v31 : Int).toNat]?) fun x60 =>
      bnd (x60.Fin && (!a2)) fun x61 =>
      bno (x59[(v31 : Int).toNat]?) fun x62 =>
      bnd (x59.set ((v31 : Int).toNat) (⟨x62.From,x62.To,x62.Path,x61⟩ : aM)) fun x63 =>
      bnd (IntKind.wrap .i64 (v31 + 1)) fun x64 =>
      (mN a0 a2 x1 x14 n0) x64 x63
    ) else (
      bno (dP v32) fun x65 =>
      bnd (IntKind.wrap .i64 (x14 - a0.Base)) fun x66 =>
      bno (cut a0.Data x66 (a0.Data.length : Int)) fun x67 =>
      bno (nS x1.2.2.2.2.1 (⟨0,x14⟩ : aI)) fun x68 =>
      bif a2 then (
        some (⟨x14,x67,x1.2.2.1,x65,x68,x1.2.2.2.2.2.1,x1.2.2.2.2.2.2.1,false,true⟩ : bB)
      ) else (
        some (⟨x14,x67,x1.2.2.1,x65,x68,x1.2.2.2.2.2.1,x1.2.2.2.2.2.2.1,x1.2.2.2.2.2.2.2.1,x1.2.2.2.2.2.2.2.2⟩ : bB)
      )
    )
def wD (a0 : bB) (a1 : Int) (a2 : Bool) : Option bB :=
  bno (fL a0) fun x1 =>
  bno (jW a0) fun x2 =>
  bnd (!decide (x2 = 0)) fun x3 =>
  bnd (decide (a1 < 0)) fun x4 =>
  bnd (x3 || x4) fun x5 =>
  bnd (decide (a0.Next < a1)) fun x6 =>
  bnd (x5 || x6) fun x7 =>
  bno (gd ((x7 == false) && (a2 == true)) (eR a0) default) fun x8 =>
  bnd (!decide (a1 = x8)) fun x9 =>
  bnd (x9 || (!a0.Sent)) fun x10 =>
  bnd (a2 && x10) fun x11 =>
  bnd (x7 || x11) fun x12 =>
  bif x12 then (
    some (⟨x1.1,x1.2.1,x1.2.2.1,x1.2.2.2.1,x1.2.2.2.2.1,x1.2.2.2.2.2.1,x1.2.2.2.2.2.2.1,x1.2.2.2.2.2.2.2.1,x1.2.2.2.2.2.2.2.2⟩ : bB)
  ) else (
    bnd (max a1 a0.Base) fun x14 =>
    mN a0 a2 x1 x14 fuel 0 x1.2.2.2.1
  )

def wA (a0 : bB) (a1 : Int) : Option Bool :=
  bno (jW a0) fun x1 =>
  bnd (!decide (x1 = 0)) fun x2 =>
  bif x2 then (
    some false
  ) else (
    bno (lO a0 1 a1) fun x4 =>
    some x4.2
  )

def cL (a0 : (List aM)) (a1 : (List aM)) : Nat → Int → Option Bool
  | 0,_=>none
  | n0 + 1, v10 =>
    bnd (decide (v10 < (a0.length : Int))) fun x18 =>
    bif x18 then (
      bno (gix a0 v10) fun x20 =>
      bno (gix a1 v10) fun x21 =>
      bnd ((decide (x20.From = x21.From) && (decide (x20.To = x21.To) && (decide (x20.Path = x21.Path) && ((x20.Fin == x21.Fin) && true))))) fun x22 =>
      bif (!x22) then (
        some false
      ) else (
        bnd (IntKind.wrap .i64 (v10 + 1)) fun x24 =>
        (cL a0 a1 n0) x24
      )
    ) else (
      some true
    )
def eF (a0 : (List aM)) (a1 : (List aM)) : Option Bool :=
  bnd (!decide ((a0.length : Int) = (a1.length : Int))) fun x1 =>
  bif x1 then (
    some false
  ) else (
    cL a0 a1 fuel 0
  )

def qQ (a0 : bB) (a1 : bB) : Option Bool :=
  bno (eF a0.Pieces a1.Pieces) fun x1 =>
  bno (gd ((!x1) == false) (nM a0.Lost a1.Lost) default) fun x2 =>
  bnd ((!x1) || (!x2)) fun x3 =>
  bif x3 then (
    some false
  ) else (
    bnd (a0.Closed == a1.Closed) fun x5 =>
    bnd (a0.Sent == a1.Sent) fun x6 =>
    bnd (x5 && x6) fun x7 =>
    bnd (a0.Again == a1.Again) fun x8 =>
    bnd (x7 && x8) fun x9 =>
    bnd (a0.Done == a1.Done) fun x10 =>
    bnd (x9 && x10) fun x11 =>
    bnd (decide (a0.Base = a1.Base)) fun x12 =>
    bnd (x11 && x12) fun x13 =>
    bnd (decide (a0.Data = a1.Data)) fun x14 =>
    bnd (x13 && x14) fun x15 =>
    bnd (decide (a0.Next = a1.Next)) fun x16 =>
    bnd (x15 && x16) fun x17 =>
    some x17
  )

end Go.Fn
open Go Go.IL
namespace Go.Fn
structure aB7 where
  Kind : Int
  N : Int
  Path : Int
  Text : (List UInt8)
  deriving DecidableEq,Inhabited
structure aX where
  At : Int
  Data : (List UInt8)
  deriving DecidableEq,Inhabited
def aL : Enc aX:=⟨⟨fun x=>.agg [.int .i64 x.At,.str x.Data],2,by decide,fun _=>⟨rfl,rfl⟩⟩,fun _=>rfl⟩

structure bS where
  Base : Int
  Ready : (List UInt8)
  Parts : (List aX)
  deriving DecidableEq,Inhabited
structure cI where
  Recv : bS
  End : Int
  deriving DecidableEq,Inhabited
structure nY where
  Window : Int
  Limit : Int
  Used : Int
  Read : Int
  deriving DecidableEq,Inhabited
structure rH where
  ID : Int
  Send : bB
  Recv : cI
  Out : nY
  In : nY
  Mine : Int
  Hers : Int
  deriving DecidableEq,Inhabited
structure fU where
  State : bS
  end_ : Int
  deriving DecidableEq,Inhabited
structure sS where
  at_ : Int
  s : (List UInt8)
  fin : Bool
  deriving DecidableEq,Inhabited
structure uD where
  a : rH
  b : rH
  went : (List sS)
  wrote : (List UInt8)
  read : (List UInt8)
  given : Int
  end_ : Bool
  deriving DecidableEq,Inhabited
def wE  : Option bS :=
  some (⟨0,[],[]⟩ : bS)

def yX  : Option cI :=
  bno (wE) fun x1 =>
  some (⟨x1,(-1)⟩ : cI)

def mF (a0 : bS) : Option Int :=
  bnd (IntKind.wrap .i64 (a0.Base - (a0.Ready.length : Int))) fun x1 =>
  bnd (IntKind.wrap .i64 (x1 + 4096)) fun x2 =>
  bnd (min x2 1099511627776) fun x3 =>
  some x3

def eW (a0 : aX) : Option Int :=
  bnd (IntKind.wrap .i64 (a0.At + (a0.Data.length : Int))) fun x1 =>
  some x1

def gM (a0 : bS) (x8 : Int) : Nat → Int → Int → Option Int
  | 0,_,_=>none
  | n0 + 1, v23, v24 =>
    bnd (decide (v24 < (a0.Parts.length : Int))) fun x39 =>
    bif x39 then (
      bno (gix a0.Parts v24) fun x41 =>
      bnd (decide (x41.At ≤ v23)) fun x42 =>
      bnd (decide (x41.Data = ([] : List UInt8))) fun x43 =>
      bnd (x42 || x43) fun x44 =>
      bnd (decide (x8 < x41.At)) fun x45 =>
      bnd (x44 || x45) fun x46 =>
      bnd (IntKind.wrap .i64 (x8 - x41.At)) fun x47 =>
      bnd (decide (x47 < (x41.Data.length : Int))) fun x48 =>
      bnd (x46 || x48) fun x49 =>
      bif x49 then (
        some 10
      ) else (
        bno (eW x41) fun x51 =>
        bnd (IntKind.wrap .i64 (v24 + 1)) fun x52 =>
        (gM a0 x8 n0) x51 x52
      )
    ) else (
      some 0
    )
def lB (a0 : bS) : Option Int :=
  bnd (decide (a0.Base < 0)) fun x1 =>
  bnd (decide (1099511627776 < a0.Base)) fun x2 =>
  bnd (x1 || x2) fun x3 =>
  bnd (min a0.Base 4096) fun x4 =>
  bnd (decide (x4 < (a0.Ready.length : Int))) fun x5 =>
  bnd (x3 || x5) fun x6 =>
  bif x6 then (
    some 8
  ) else (
    bno (mF a0) fun x8 =>
    gM a0 x8 fuel a0.Base 0
  )

def mQ (a0 : cI) : Option fU :=
  some (⟨a0.Recv,a0.End⟩ : fU)

def gC (a0 : fU) : Option Int :=
  bnd (decide (0 < (a0.State.Parts.length : Int))) fun x1 =>
  bif x1 then (
    bnd (IntKind.wrap .i64 ((a0.State.Parts.length : Int) - 1)) fun x3 =>
    bno (gix a0.State.Parts x3) fun x4 =>
    bnd (IntKind.wrap .i64 ((a0.State.Parts.length : Int) - 1)) fun x5 =>
    bno (gix a0.State.Parts x5) fun x6 =>
    bnd (IntKind.wrap .i64 (x4.At + (x6.Data.length : Int))) fun x7 =>
    some x7
  ) else (
    some a0.State.Base
  )

def tA (a0 : cI) : Option Int :=
  bno (mQ a0) fun x1 =>
  bno (gC x1) fun x2 =>
  some x2

def lG (a0 : cI) : Option Int :=
  bno (lB a0.Recv) fun x1 =>
  bnd (!decide (x1 = 0)) fun x2 =>
  bif x2 then (
    some x1
  ) else (
    bnd (!decide (a0.End = (-1))) fun x4 =>
    bno (gd (x4 == true) (tA a0) default) fun x5 =>
    bnd (decide (a0.End < x5)) fun x6 =>
    bnd (decide (1099511627776 < a0.End)) fun x7 =>
    bnd (x6 || x7) fun x8 =>
    bnd (x4 && x8) fun x9 =>
    bif x9 then (
      some 8
    ) else (
      some 0
    )
  )

def gS (a0 : fU) : Option Bool :=
  bnd (decide (0 ≤ a0.end_)) fun x1 =>
  some x1

def iJ (a0 : fU) (a1 : Int) (a2 : Bool) : Option Bool :=
  bno (gS a0) fun x1 =>
  bif x1 then (
    bnd (decide (a0.end_ < a1)) fun x3 =>
    bnd (decide (a1 < a0.end_)) fun x4 =>
    bnd (a2 && x4) fun x5 =>
    bnd (x3 || x5) fun x6 =>
    some x6
  ) else (
    bno (gd (a2 == true) (gC a0) default) fun x7 =>
    bnd (decide (a1 < x7)) fun x8 =>
    bnd (a2 && x8) fun x9 =>
    some x9
  )

def dI (a0 : (List aX)) : Option (List aX) :=
  xR a0 (
    some []
  ) (
    bno (app 24 ([] : (List aX)) a0) fun x3 =>
    some x3
  )

def iI (a0 : bS) : Nat → Int → Int → Option Int
  | 0,_,_=>none
  | n0 + 1, v6, v7 =>
    bnd (decide (v7 < (a0.Parts.length : Int))) fun x13 =>
    bif x13 then (
      bno (gix a0.Parts v7) fun x15 =>
      bnd (IntKind.wrap .i64 (v6 + (x15.Data.length : Int))) fun x16 =>
      bnd (IntKind.wrap .i64 (v7 + 1)) fun x17 =>
      (iI a0 n0) x16 x17
    ) else (
      some v6
    )
def oZ (a0 : bS) : Option Int :=
  iI a0 fuel (a0.Ready.length : Int) 0

def jC (a0 : (List aX)) (v10 : (List aX)) (v102 : Int) (v103 : Int) (v104 : (List UInt8)) : Option (List aX) :=
  bno (app 24 v10 (([(⟨v103,v104⟩ : aX)] : (List aX)))) fun x105 =>
  bno (cut a0 v102 (a0.length : Int)) fun x106 =>
  bno (app 24 x105 x106) fun x107 =>
  some x107
def eV (a0 : (List aX)) (v10 : (List aX)) : Nat → Int → Int → (List UInt8) → Option (List aX)
  | 0,_,_,_=>none
  | n3 + 1, v131, v132, v133 =>
    bnd (decide (v131 < (a0.length : Int))) fun x157 =>
    bif x157 then (
      bno (gix a0 v131) fun x159 =>
      bno (eW (⟨v132,v133⟩ : aX)) fun x160 =>
      bnd (decide (x160 < x159.At)) fun x161 =>
      bif x161 then (
        jC a0 v10 v131 v132 v133
      ) else (
        bnd (decide (x159.At ≤ v132)) fun x163 =>
        bif x163 then (
          bno (eW x159) fun x165 =>
          bnd (IntKind.wrap .i64 (x165 - v132)) fun x166 =>
          bnd (min (v133.length : Int) x166) fun x167 =>
          bno (cut v133 x167 (v133.length : Int)) fun x168 =>
          bno (cat x159.Data x168) fun x169 =>
          bnd (IntKind.wrap .i64 (v131 + 1)) fun x170 =>
          (eV a0 v10 n3) x170 x159.At x169
        ) else (
          bnd (IntKind.wrap .i64 (x159.At - v132)) fun x171 =>
          bno (cut v133 0 x171) fun x172 =>
          bno (cat x172 x159.Data) fun x173 =>
          bno (eW x159) fun x174 =>
          bnd (IntKind.wrap .i64 (x174 - v132)) fun x175 =>
          bnd (min (v133.length : Int) x175) fun x176 =>
          bno (cut v133 x176 (v133.length : Int)) fun x177 =>
          bno (cat x173 x177) fun x178 =>
          bnd (IntKind.wrap .i64 (v131 + 1)) fun x179 =>
          (eV a0 v10 n3) x179 v132 x178
        )
      )
    ) else (
      jC a0 v10 v131 v132 v133
    )
def fV (a0 : (List aX)) (a1 : aX) : Nat → (List aX) → Int → Option (List aX)
  | 0,_,_=>none
  | n0 + 1, v10, v11 =>
    bnd (decide (v11 < (a0.length : Int))) fun x21 =>
    bno (gd (x21 == true) (gix a0 v11) default) fun x22 =>
    bno (gd (x21 == true) (eW x22) default) fun x23 =>
    bnd (decide (x23 < a1.At)) fun x24 =>
    bnd (x21 && x24) fun x25 =>
    bif x25 then (
      bno (gix a0 v11) fun x27 =>
      bno (app 24 v10 ([x27] : (List aX))) fun x28 =>
      bnd (IntKind.wrap .i64 (v11 + 1)) fun x29 =>
      (fV a0 a1 n0) x28 x29
    ) else (
      eV a0 v10 fuel v11 a1.At a1.Data
    )
def mP (a0 : (List aX)) (a1 : aX) : Option (List aX) :=
  fV a0 a1 fuel ([] : (List aX)) 0

def dW (a0 : Int) (a1 : Int) (a2 : (List aX)) : Option (List aX):=delS a2 a0 a1

def lF (x24 : Int) (v33 : Int) (v34 : (List UInt8)) (v35 : (List aX)) : Option (bS × Int) :=
  bno (oZ (⟨v33,v34,v35⟩ : bS)) fun x36 =>
  bnd (IntKind.wrap .i64 (x36 - x24)) fun x37 =>
  some ((⟨v33,v34,v35⟩ : bS),x37)
def jG (a0 : bS) (x1 : (List aX)) (v20 : Int) (v21 : (List UInt8)) : Option (bS × Int) :=
  bnd (decide (v21 = ([] : List UInt8))) fun x22 =>
  bif x22 then (
    some ((⟨a0.Base,a0.Ready,x1⟩ : bS),0)
  ) else (
    bno (oZ (⟨a0.Base,a0.Ready,x1⟩ : bS)) fun x24 =>
    bno (mP x1 (⟨v20,v21⟩ : aX)) fun x25 =>
    bno (gix x25 0) fun x38 =>
    bno (x25[(0 : Int).toNat]?) fun x39 =>
    bnd (decide (x39.At = a0.Base)) fun x40 =>
    bif x40 then (
      bno (eW x39) fun x42 =>
      bno (cat a0.Ready x39.Data) fun x43 =>
      bno (dW 0 1 x25) fun x44 =>
      lF x24 x42 x43 x44
    ) else (
      lF x24 a0.Base a0.Ready x25
    )
  )
def qR (a0 : bS) (a1 : Int) (a2 : (List UInt8)) : Option (bS × Int) :=
  bno (dI a0.Parts) fun x1 =>
  bnd (decide (a1 < 0)) fun x2 =>
  bnd (decide (1099511627776 < a1)) fun x3 =>
  bnd (x2 || x3) fun x4 =>
  bno (gd (x4 == false) (lB (⟨a0.Base,a0.Ready,x1⟩ : bS)) default) fun x5 =>
  bnd (!decide (x5 = 0)) fun x6 =>
  bnd (x4 || x6) fun x7 =>
  bif x7 then (
    some ((⟨a0.Base,a0.Ready,x1⟩ : bS),0)
  ) else (
    bno (mF (⟨a0.Base,a0.Ready,x1⟩ : bS)) fun x9 =>
    bnd (decide (x9 ≤ a1)) fun x10 =>
    bif x10 then (
      some ((⟨a0.Base,a0.Ready,x1⟩ : bS),0)
    ) else (
      bnd (IntKind.wrap .i64 (x9 - a1)) fun x12 =>
      bnd (min (a2.length : Int) x12) fun x13 =>
      bno (cut a2 0 x13) fun x14 =>
      bnd (decide (a1 < a0.Base)) fun x45 =>
      bif x45 then (
        bnd (IntKind.wrap .i64 (a0.Base - a1)) fun x47 =>
        bnd (min (x14.length : Int) x47) fun x48 =>
        bno (cut x14 x48 (x14.length : Int)) fun x49 =>
        jG a0 x1 a0.Base x49
      ) else (
        jG a0 x1 a1 x14
      )
    )
  )

def pT (x13 : (bS × Int)) (v15 : Int) : Option (cI × Int × Int) :=
  some ((⟨x13.1,v15⟩ : cI),x13.2,0)
def sZ (a0 : cI) (a1 : Int) (a2 : (List UInt8)) (a3 : Bool) : Option (cI × Int × Int) :=
  bnd (decide (a1 < 0)) fun x1 =>
  bnd (IntKind.wrap .i64 (1099511627776 - (a2.length : Int))) fun x2 =>
  bnd (decide (x2 < a1)) fun x3 =>
  bnd (x1 || x3) fun x4 =>
  bno (gd (x4 == false) (lG a0) default) fun x5 =>
  bnd (!decide (x5 = 0)) fun x6 =>
  bnd (x4 || x6) fun x7 =>
  bif x7 then (
    some (a0,0,2)
  ) else (
    bnd (IntKind.wrap .i64 (a1 + (a2.length : Int))) fun x9 =>
    bno (mQ a0) fun x10 =>
    bno (iJ x10 x9 a3) fun x11 =>
    bif x11 then (
      some (a0,0,5)
    ) else (
      bno (qR a0.Recv a1 a2) fun x13 =>
      bif a3 then (
        pT x13 x9
      ) else (
        pT x13 a0.End
      )
    )
  )

def oY (a0 : bS) (a1 : Int) : Option (bS × (List UInt8)) :=
  bno (dI a0.Parts) fun x1 =>
  bnd (decide (a1 < 1)) fun x2 =>
  bno (gd (x2 == false) (lB (⟨a0.Base,a0.Ready,x1⟩ : bS)) default) fun x3 =>
  bnd (!decide (x3 = 0)) fun x4 =>
  bnd (x2 || x4) fun x5 =>
  bif x5 then (
    some ((⟨a0.Base,a0.Ready,x1⟩ : bS),[])
  ) else (
    bnd (min a1 (a0.Ready.length : Int)) fun x7 =>
    bno (cut a0.Ready 0 x7) fun x8 =>
    bno (cut a0.Ready x7 (a0.Ready.length : Int)) fun x9 =>
    some ((⟨a0.Base,x9,x1⟩ : bS),x8)
  )

def rO (a0 : cI) : Option Bool :=
  bno (mQ a0) fun x1 =>
  bno (gS x1) fun x2 =>
  bnd (decide (x1.State.Base = x1.end_)) fun x3 =>
  bnd (x2 && x3) fun x4 =>
  bno (gd (x4 == true) (lG a0) default) fun x5 =>
  bnd (decide (x5 = 0)) fun x6 =>
  bnd (x4 && x6) fun x7 =>
  some x7

def pA (a0 : cI) : Option Bool :=
  bnd (decide (a0.Recv.Ready = ([] : List UInt8))) fun x1 =>
  bno (gd (x1 == true) (rO a0) default) fun x2 =>
  bnd (x1 && x2) fun x3 =>
  some x3

def qU (a0 : cI) (a1 : Int) : Option (cI × (List UInt8) × Bool) :=
  bno (oY a0.Recv a1) fun x1 =>
  bno (pA (⟨x1.1,a0.End⟩ : cI)) fun x2 =>
  some ((⟨x1.1,a0.End⟩ : cI),x1.2,x2)

def cM (a0 : (List aX)) (a1 : (List aX)) : Nat → Int → Option Bool
  | 0,_=>none
  | n0 + 1, v10 =>
    bnd (decide (v10 < (a0.length : Int))) fun x18 =>
    bif x18 then (
      bno (gix a0 v10) fun x20 =>
      bno (gix a1 v10) fun x21 =>
      bnd ((decide (x20.At = x21.At) && (decide (x20.Data = x21.Data) && true))) fun x22 =>
      bif (!x22) then (
        some false
      ) else (
        bnd (IntKind.wrap .i64 (v10 + 1)) fun x24 =>
        (cM a0 a1 n0) x24
      )
    ) else (
      some true
    )
def eG (a0 : (List aX)) (a1 : (List aX)) : Option Bool :=
  bnd (!decide ((a0.length : Int) = (a1.length : Int))) fun x1 =>
  bif x1 then (
    some false
  ) else (
    cM a0 a1 fuel 0
  )

def rK (a0 : bS) (a1 : bS) : Option Bool :=
  bnd (decide (a0.Base = a1.Base)) fun x1 =>
  bnd (decide (a0.Ready = a1.Ready)) fun x2 =>
  bnd (x1 && x2) fun x3 =>
  bno (gd (x3 == true) (eG a0.Parts a1.Parts) default) fun x4 =>
  bnd (x3 && x4) fun x5 =>
  some x5

def qT (a0 : cI) (a1 : cI) : Option Bool :=
  bnd (decide (a0.End = a1.End)) fun x1 =>
  bno (gd (x1 == true) (rK a0.Recv a1.Recv) default) fun x2 =>
  bnd (x1 && x2) fun x3 =>
  some x3

end Go.Fn
open Go Go.IL
namespace Go.Fn
structure bH where
  Send : bB
  Recv : cI
  In : cX
  deriving DecidableEq,Inhabited
structure kN where
  Scope : Int
  Code : Int
  deriving DecidableEq,Inhabited
def kM  : Option bH :=
  bno (yU) fun x1 =>
  bno (yX) fun x2 =>
  some (⟨x1,x2,(⟨[],0,0⟩ : cX)⟩ : bH)

def dT (a0 : bH) : Option Int :=
  bno (jW a0.Send) fun x1 =>
  bnd (!decide (x1 = 0)) fun x2 =>
  bif x2 then (
    some x1
  ) else (
    bno (lG a0.Recv) fun x4 =>
    bnd (!decide (x4 = 0)) fun x5 =>
    bif x5 then (
      some x4
    ) else (
      bno (jQ a0.In) fun x7 =>
      bnd (!decide (x7 = 0)) fun x8 =>
      bif x8 then (
        some x7
      ) else (
        bnd (decide (0 ≤ a0.Recv.End)) fun x10 =>
        bnd (a0.Send.Closed || x10) fun x11 =>
        bnd (!decide (a0.Recv.Recv.Ready = ([] : List UInt8))) fun x12 =>
        bnd (x11 || x12) fun x13 =>
        bnd (!decide (a0.In.Bad = 0)) fun x14 =>
        bnd (x13 || x14) fun x15 =>
        bif x15 then (
          some 4
        ) else (
          some 0
        )
      )
    )
  )

def kP (a0 : Int) : Option Bool :=
  bnd (decide (a0 = 1)) fun x1 =>
  bif x1 then (
    some true
  ) else (
    bnd (decide (a0 = 2)) fun x3 =>
    bif x3 then (
      some true
    ) else (
      bnd (decide (a0 = 3)) fun x5 =>
      bif x5 then (
        some true
      ) else (
        bnd (decide (a0 = 4)) fun x7 =>
        bif x7 then (
          some true
        ) else (
          bnd (decide (a0 = 6)) fun x9 =>
          bif x9 then (
            some true
          ) else (
            bnd (decide (a0 = 7)) fun x11 =>
            bif x11 then (
              some true
            ) else (
              bnd (decide (a0 = 8)) fun x13 =>
              bif x13 then (
                some true
              ) else (
                some false
              )
            )
          )
        )
      )
    )
  )

def gQ (a0 : bH) (a1 : aH) : Option (bH × Int) :=
  bno (dT a0) fun x1 =>
  bnd (!decide (x1 = 0)) fun x2 =>
  bif x2 then (
    some (a0,x1)
  ) else (
    bno (kP a1.Kind) fun x4 =>
    bif (!x4) then (
      some (a0,12)
    ) else (
      bno (rE a1) fun x6 =>
      bnd (!decide (x6.2 = 0)) fun x7 =>
      bif x7 then (
        some (a0,x6.2)
      ) else (
        bno (oX a0.Send) fun x9 =>
        bnd (decide (x9 < (x6.1.length : Int))) fun x10 =>
        bif x10 then (
          some (a0,7)
        ) else (
          bno (oW a0.Send x6.1) fun x12 =>
          bnd (decide (x12.2 < (x6.1.length : Int))) fun x13 =>
          bif x13 then (
            some (a0,7)
          ) else (
            some ((⟨x12.1,a0.Recv,a0.In⟩ : bH),0)
          )
        )
      )
    )
  )

def nC (a0 : bB) (a1 : Int) (a2 : Int) (a3 : aM) (a4 : (List UInt8)) (a5 : Bool) : Option (bB × aM × (List UInt8) × Bool) :=
  bno (wB a0 a1 a2 1099511627776) fun x1 =>
  some (x1.1,x1.2.1,x1.2.2.1,x1.2.2.2)

def hG (a0 : bH) (a1 : Int) (a2 : Int) (a3 : aM) (a4 : (List UInt8)) (a5 : Bool) : Option (bH × aM × (List UInt8) × Bool) :=
  bno (dT a0) fun x1 =>
  bnd (decide (x1 = 0)) fun x2 =>
  bif x2 then (
    bno (nC a0.Send a1 a2 a3 a4 a5) fun x4 =>
    some ((⟨x4.1,a0.Recv,a0.In⟩ : bH),x4.2.1,x4.2.2.1,x4.2.2.2)
  ) else (
    some (a0,a3,a4,a5)
  )

def oL (a0 : bH) (a1 : Int) (a2 : Int) : Option (bH × aM × (List UInt8) × Bool) :=
  bno (hG a0 a1 a2 (⟨0,0,0,false⟩ : aM) ([] : (List UInt8)) false) fun x1 =>
  some (x1.1,x1.2.1,x1.2.2.1,x1.2.2.2)

def jV (a0 : aH) : Option Bool :=
  bno (kP a0.Kind) fun x1 =>
  some (!x1)

def bV (a0 : (List aH)) : Nat → Int → Option Int
  | 0,_=>none
  | n0 + 1, v7 =>
    bnd (decide (v7 < (a0.length : Int))) fun x14 =>
    bif x14 then (
      bno (gix a0 v7) fun x16 =>
      bno (jV x16) fun x17 =>
      bif x17 then (
        some v7
      ) else (
        bnd (IntKind.wrap .i64 (v7 + 1)) fun x19 =>
        (bV a0 n0) x19
      )
    ) else (
      some (-1)
    )
def dC (a0 : (List aH)) : Option Int :=
  bV a0 fuel 0

def pR (a0 : Int) : Option kN :=
  bnd (decide (a0 = 0)) fun x1 =>
  bif x1 then (
    some (⟨0,0⟩ : kN)
  ) else (
    bnd (decide (a0 = 5)) fun x3 =>
    bif x3 then (
      some (⟨3,6⟩ : kN)
    ) else (
      some (⟨3,1⟩ : kN)
    )
  )

def eX (a0 : bH) (a1 : Int) (a2 : (List UInt8)) : Option (bH × (List aH) × Int) :=
  bno (dT a0) fun x1 =>
  bnd (!decide (x1 = 0)) fun x2 =>
  bif x2 then (
    some (a0,[],2)
  ) else (
    bno (sZ a0.Recv a1 a2 false) fun x4 =>
    bnd (!decide (x4.2.2 = 0)) fun x5 =>
    bif x5 then (
      some (a0,[],x4.2.2)
    ) else (
      bno (qU x4.1 4096) fun x7 =>
      bno (mU a0.In x7.2.1) fun x8 =>
      bno (dC x8.2) fun x9 =>
      bnd (decide (0 ≤ x9)) fun x10 =>
      bif x10 then (
        bno (cut x8.2 0 x9) fun x12 =>
        some (a0,x12,1)
      ) else (
        bno (pR x8.1.Bad) fun x13 =>
        bnd (!decide (x13.Scope = 0)) fun x14 =>
        bif x14 then (
          some (a0,x8.2,x13.Code)
        ) else (
          some ((⟨a0.Send,x7.1,x8.1⟩ : bH),x8.2,0)
        )
      )
    )
  )

def nD (a0 : bB) (a1 : Int) : Option bB :=
  bno (wC a0 a1) fun x1 =>
  some x1

def hM (a0 : bH) (a1 : Int) : Option bH :=
  bno (dT a0) fun x1 =>
  bnd (decide (x1 = 0)) fun x2 =>
  bif x2 then (
    bno (nD a0.Send a1) fun x4 =>
    some (⟨x4,a0.Recv,a0.In⟩ : bH)
  ) else (
    some a0
  )

def rF (a0 : bH) (a1 : Int) : Option bH :=
  bno (hM a0 a1) fun x1 =>
  some x1

def lY (a0 : bB) (a1 : Int) : Option bB :=
  bno (wD a0 a1 false) fun x1 =>
  some x1

def gD (a0 : bH) (a1 : Int) : Option bH :=
  bno (dT a0) fun x1 =>
  bnd (decide (x1 = 0)) fun x2 =>
  bif x2 then (
    bno (lY a0.Send a1) fun x4 =>
    some (⟨x4,a0.Recv,a0.In⟩ : bH)
  ) else (
    some a0
  )

def oR (a0 : bH) (a1 : Int) : Option bH :=
  bno (gD a0 a1) fun x1 =>
  some x1

def qE (a0 : bH) : Option Int :=
  some a0.Recv.Recv.Base

def mV (a0 : bH) : Option Bool :=
  bno (dT a0) fun x1 =>
  bnd (decide (x1 = 0)) fun x2 =>
  bno (gd (x2 == true) (wA a0.Send 1099511627776) default) fun x3 =>
  bnd (x2 && x3) fun x4 =>
  some x4

def gR (a0 : bH) (a1 : bH) : Option Bool :=
  bnd ((decide (a0.In.Buf = a1.In.Buf) && (decide (a0.In.Bad = a1.In.Bad) && (decide (a0.In.Seen = a1.In.Seen) && true)))) fun x1 =>
  bno (gd (x1 == true) (qQ a0.Send a1.Send) default) fun x2 =>
  bnd (x1 && x2) fun x3 =>
  bno (gd (x3 == true) (qT a0.Recv a1.Recv) default) fun x4 =>
  bnd (x3 && x4) fun x5 =>
  some x5

def fC  : Option Bool :=
  bno (kM) fun x1 =>
  bno (gQ x1 (⟨6,false,0,0,0,0,7,0,[],[]⟩ : aH)) fun x2 =>
  bno (gQ x2.1 (⟨9,false,0,0,0,0,0,0,[],[]⟩ : aH)) fun x3 =>
  bno (oL x2.1 1 3) fun x4 =>
  bno (oL x4.1 2 9) fun x5 =>
  bno (kM) fun x6 =>
  bno (eX x6 3 x5.2.2.1) fun x7 =>
  bno (eX x7.1 0 x4.2.2.1) fun x8 =>
  bno (eX x8.1 4 [4,1,0,10,0,2,0,0]) fun x9 =>
  bno (rF x5.1 1) fun x10 =>
  bno (oR x10 4) fun x11 =>
  bnd (decide (x2.2 = 0)) fun x12 =>
  bnd (decide (x3.2 = 12)) fun x13 =>
  bnd (x12 && x13) fun x14 =>
  bnd (x14 && x4.2.2.2) fun x15 =>
  bnd (decide (x4.2.1.To = 3)) fun x16 =>
  bnd (x15 && x16) fun x17 =>
  bnd (decide (x4.2.2.1 = ([6,0,1] : List UInt8))) fun x18 =>
  bnd (x17 && x18) fun x19 =>
  bnd (x19 && x5.2.2.2) fun x20 =>
  bnd (decide (x5.2.1.From = 3)) fun x21 =>
  bnd (x20 && x21) fun x22 =>
  bnd (decide (x5.2.2.1 = ([7] : List UInt8))) fun x23 =>
  bnd (x22 && x23) fun x24 =>
  bnd (decide ((x7.2.1.length : Int) = 0)) fun x25 =>
  bnd (x24 && x25) fun x26 =>
  bnd (decide (x7.2.2 = 0)) fun x27 =>
  bnd (x26 && x27) fun x28 =>
  bnd (decide ((x8.2.1.length : Int) = 1)) fun x29 =>
  bnd (x28 && x29) fun x30 =>
  bno (gd (x30 == true) (gix x8.2.1 0) default) fun x31 =>
  bnd (decide (x31.N = 7)) fun x32 =>
  bnd (x30 && x32) fun x33 =>
  bnd (decide (x8.2.2 = 0)) fun x34 =>
  bnd (x33 && x34) fun x35 =>
  bno (gd (x35 == true) (qE x8.1) default) fun x36 =>
  bnd (decide (x36 = 4)) fun x37 =>
  bnd (x35 && x37) fun x38 =>
  bnd (decide ((x9.2.1.length : Int) = 1)) fun x39 =>
  bnd (x38 && x39) fun x40 =>
  bno (gd (x40 == true) (gix x9.2.1 0) default) fun x41 =>
  bnd (x40 && x41.Flag) fun x42 =>
  bnd (decide (x9.2.2 = 1)) fun x43 =>
  bnd (x42 && x43) fun x44 =>
  bno (gd (x44 == true) (mV x10) default) fun x45 =>
  bnd (x44 && x45) fun x46 =>
  bno (gd (x46 == true) (mV x5.1) default) fun x47 =>
  bnd (x46 && (!x47)) fun x48 =>
  bnd (decide (x11.Send.Base = 4)) fun x49 =>
  bnd (x48 && x49) fun x50 =>
  bno (gd (x50 == true) (mV x11) default) fun x51 =>
  bnd (x50 && (!x51)) fun x52 =>
  bno (gd (x52 == true) (dT x11) default) fun x53 =>
  bnd (decide (x53 = 0)) fun x54 =>
  bnd (x52 && x54) fun x55 =>
  bno (gd (x55 == true) (dT ((⟨(⟨0,[],0,[],[],false,false,false,false⟩ : bB),(⟨(⟨0,[],[]⟩ : bS),0⟩ : cI),(⟨[],0,0⟩ : cX)⟩ : bH))) default) fun x56 =>
  bnd (decide (x56 = 4)) fun x57 =>
  bnd (x55 && x57) fun x58 =>
  bno (gd (x58 == true) (gR x10 x11) default) fun x59 =>
  bnd (x58 && (!x59)) fun x60 =>
  bno (gd (x60 == true) (gR x11 x11) default) fun x61 =>
  bnd (x60 && x61) fun x62 =>
  bnd (bif x62 then true else false) fun x63 =>
  bnd (bif x63 then true else false) fun x64 =>
  bnd (bif x64 then true else false) fun x65 =>
  bnd (bif x65 then true else false) fun x66 =>
  bnd (bif x66 then true else false) fun x67 =>
  some x67

def dR (a0 : (List aH)) : Nat → (List aH) → Int → Option (List aH)
  | 0,_,_=>none
  | n0 + 1, v6, v7 =>
    bnd (decide (v7 < (a0.length : Int))) fun x13 =>
    bif x13 then (
      bno (gix a0 v7) fun x15 =>
      bno (app 96 v6 ([x15] : (List aH))) fun x16 =>
      bnd (IntKind.wrap .i64 (v7 + 1)) fun x17 =>
      (dR a0 n0) x16 x17
    ) else (
      some v6
    )
def fJ (a0 : (List aH)) : Option (List aH) :=
  dR a0 fuel ([] : (List aH)) 0

def eM (v123 : Bool) : Option Bool :=
  some v123
def dA (a0 : (List aH)) (a1 : Int) : Nat → (List aH) → Int → Int → (List UInt8) → Int → (List aM) → (List aI) → Bool → Bool → Bool → Bool → Int → (List UInt8) → (List aX) → Int → (List UInt8) → Int → Int → Option Bool
  | 0,_,_,_,_,_,_,_,_,_,_,_,_,_,_,_,_,_,_=>none
  | n0 + 1, v19, v20, v21, v22, v23, v24, v25, v26, v27, v28, v29, v30, v31, v32, v33, v34, v35, v36 =>
    bnd (decide (v20 < (a0.length : Int))) fun x51 =>
    bif x51 then (
      bno (gix a0 v20) fun x53 =>
      bno (kO x53) fun x54 =>
      bif (!x54) then (
        bno (fC) fun x56 =>
        some x56
      ) else (
        bno (gix a0 v20) fun x57 =>
        bno (gQ ((⟨(⟨v21,v22,v23,v24,v25,v26,v27,v28,v29⟩ : bB),(⟨(⟨v30,v31,v32⟩ : bS),v33⟩ : cI),(⟨v34,v35,v36⟩ : cX)⟩ : bH)) x57) fun x58 =>
        bnd (decide (x58.2 = 0)) fun x59 =>
        bif x59 then (
          bno (gix a0 v20) fun x61 =>
          bno (app 96 v19 ([x61] : (List aH))) fun x62 =>
          bnd (IntKind.wrap .i64 (v20 + 1)) fun x63 =>
          (dA a0 a1 n0) x62 x63 x58.1.Send.Base x58.1.Send.Data x58.1.Send.Next x58.1.Send.Pieces x58.1.Send.Lost x58.1.Send.Closed x58.1.Send.Sent x58.1.Send.Again x58.1.Send.Done x58.1.Recv.Recv.Base x58.1.Recv.Recv.Ready x58.1.Recv.Recv.Parts x58.1.Recv.End x58.1.In.Buf x58.1.In.Bad x58.1.In.Seen
        ) else (
          bnd (IntKind.wrap .i64 (v20 + 1)) fun x64 =>
          (dA a0 a1 n0) v19 x64 x58.1.Send.Base x58.1.Send.Data x58.1.Send.Next x58.1.Send.Pieces x58.1.Send.Lost x58.1.Send.Closed x58.1.Send.Sent x58.1.Send.Again x58.1.Send.Done x58.1.Recv.Recv.Base x58.1.Recv.Recv.Ready x58.1.Recv.Recv.Parts x58.1.Recv.End x58.1.In.Buf x58.1.In.Bad x58.1.In.Seen
        )
      )
    ) else (
      bnd (IntKind.wrap .i64 a1) fun x65 =>
      bnd (IntKind.wrap .i64 ((v22.length : Int) + 1)) fun x66 =>
      bno (remI x65 x66) fun x67 =>
      bno (kM) fun x68 =>
      bno (eX x68 0 v22) fun x69 =>
      bno (kM) fun x70 =>
      bno (cut v22 x67 (v22.length : Int)) fun x71 =>
      bno (eX x70 x67 x71) fun x72 =>
      bno (cut v22 0 x67) fun x73 =>
      bno (eX x72.1 0 x73) fun x74 =>
      bnd (decide (0 < x67)) fun x75 =>
      bnd (decide (0 < (x72.2.1.length : Int))) fun x76 =>
      bnd (x75 && x76) fun x77 =>
      bnd (decide (x69.2.2 = 0)) fun x124 =>
      bnd (decide (x72.2.2 = 0)) fun x125 =>
      bnd (x124 && x125) fun x126 =>
      bnd (decide (x74.2.2 = 0)) fun x127 =>
      bnd (x126 && x127) fun x128 =>
      bif (x128 == true) then (
        bno (fJ x69.2.1) fun x130 =>
        bno (fP x130 v19) fun x132 =>
        bnd (bif x128 then x132 else false) fun x133 =>
        bif (x133 == true) then (
          bno (fJ x72.2.1) fun x135 =>
          bno (fJ x74.2.1) fun x137 =>
          bno (app 96 x135 x137) fun x139 =>
          bno (fP x139 v19) fun x141 =>
          bnd (bif x133 then x141 else false) fun x142 =>
          bno (gd (x142 == true) (gR x69.1 x74.1) default) fun x143 =>
          bnd (x142 && x143) fun x144 =>
          bnd (x144 && (!x77)) fun x145 =>
          bno (gd (x145 == true) (fC) default) fun x146 =>
          bnd (x145 && x146) fun x147 =>
          eM x147
        ) else (
          bnd (x133 && false) fun x151 =>
          bno (gd (x151 == true) (gR x69.1 x74.1) default) fun x152 =>
          bnd (x151 && x152) fun x153 =>
          bnd (x153 && (!x77)) fun x154 =>
          bno (gd (x154 == true) (fC) default) fun x155 =>
          bnd (x154 && x155) fun x156 =>
          eM x156
        )
      ) else (
        bnd (x128 && false) fun x158 =>
        bnd (x158 && false) fun x163 =>
        bno (gd (x163 == true) (gR x69.1 x74.1) default) fun x164 =>
        bnd (x163 && x164) fun x165 =>
        bnd (x165 && (!x77)) fun x166 =>
        bno (gd (x166 == true) (fC) default) fun x167 =>
        bnd (x166 && x167) fun x168 =>
        eM x168
      )
    )
def fD (a0 : (List aH)) (a1 : Int) : Option Bool :=
  bnd (decide (8 < (a0.length : Int))) fun x1 =>
  bif x1 then (
    bno (fC) fun x3 =>
    some x3
  ) else (
    bno (kM) fun x4 =>
    dA a0 a1 fuel ([] : (List aH)) 0 x4.Send.Base x4.Send.Data x4.Send.Next x4.Send.Pieces x4.Send.Lost x4.Send.Closed x4.Send.Sent x4.Send.Again x4.Send.Done x4.Recv.Recv.Base x4.Recv.Recv.Ready x4.Recv.Recv.Parts x4.Recv.End x4.In.Buf x4.In.Bad x4.In.Seen
  )
end Go.Fn
