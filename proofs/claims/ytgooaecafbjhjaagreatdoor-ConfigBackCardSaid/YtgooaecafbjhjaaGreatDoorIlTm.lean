/-
  A part of the proof: rules and plain facts. No condition.
-/
import Derived.Test.YtgooaecafbjhjaaGreatDoorIlS
import Derived.WalkSpells
import Derived.Laws.StructEq
import Derived.RangeFuncIn
import Derived.Laws.FloatArith
import Derived.Laws.Cover2
import Derived.Laws.Externs
import Derived.Lib.AppendZerosOnto
import Derived.Laws.CopyRow
import Derived.Lib.Overlaps
set_option linter.all false
namespace Go.IL
open RowKit (Below)

def wK (β : bW) (H : List (Nat × Ent)) (b : Nat) : Prop:=∃ i,(entL H i).held = true ∧ β i = some b

def FnH (P : Program) (f : FuncId) (ds : List D) (H0 : List (Nat × Ent)) (r : D) (H1 : List (Nat × Ent)) : Prop :=
  ∀ (E : Env) (β : bW) (vs : List Value), E.good → (∀ i b, β i = some b → 1000 ≤ i) →
    HOk ⟨E.w,E.X,wK β H0,β,none,fun _=>[],fun _=>0,fun _=>[],fun _=>(#[],.skip,.skip)⟩ E β (entL H0) → RdL E β vs ds →
    Calls P f vs.toArray E.w fun e w'=>∃ v,e = .returned v ∧ ∃ E' β',E'.w = w' ∧ HOk ⟨E.w,E.X,wK β H0,β,none,fun _=>[],fun _=>0,fun _=>[],fun _=>(#[],.skip,.skip)⟩ E' β' (entL H1) ∧ Rd E' β' v r

def Ent.ren (ρ : Nat → Nat) : Ent → Ent
  | .blk e ds=>.blk e (D.renL ρ ds)
  | .loop k ds st p=>.loop k (D.renL ρ ds) st p
  | .kept k ds=>.kept k (D.renL ρ ds)
  | .mp ks ds=>.mp ks (D.renL ρ ds)
  | e=>e
def Ent.refsIn (p : Nat → Bool) : Ent → Bool
  | .blk _ ds=>D.refsInL p ds
  | .mp _ ds=>D.refsInL p ds
  | .loop ..=>false
  | .kept ..=>false
  | _=>true
theorem Ent.held_ren (ρ : Nat → Nat) (e : Ent) : (e.ren ρ).held = e.held:=by cases e <;> rfl

mutual
theorem Rd.renp {E : Env} {β β' : bW} {ρ : Nat → Nat} {p : Nat → Bool} (hp : ∀ id b,p id = true → β id = some b → β' (ρ id) = some b) : ∀ {v : Value} {d : D},Rd E β v d → d.refsIn p = true → Rd E β' v (d.ren ρ)
  | _,_,.dead _ v,_=>.dead _ v
  | _,_,.bool _ b,_=>.bool _ b
  | _,_,.int _ k n,_=>.int _ k n
  | _,_,.float _ k m n h,_=>.float _ k m n h
  | _,_,.str _ l,_=>.str _ l
  | _,_,.slice _ b off len cap sz full vs l hl hc hf hz hsz hr hv,_=>.slice _ b off len cap sz full vs l hl hc hf hz hsz hr hv
  | _,_,.nslice _ f,_=>.nslice _ f
  | _,_,.eslice _ a c f h,_=>.eslice _ a c f h
  | _,_,.nils _,_=>.nils _
  | _,_,.agg _ vs cs hv,hi=>.agg _ vs _ (RdL.renp hp hv (by simpa [D.refsIn] using hi))
  | _,_,.tuple _ vs cs hv,hi=>.tuple _ vs _ (RdL.renp hp hv (by simpa [D.refsIn] using hi))
  | _,_,.fptr _ b off vs cs hr hv,_=>.fptr _ b off vs cs hr hv
  | _,_,.nilp _,_=>.nilp _
  | _,_,.nilf _,_=>.nilf _
  | _,_,.nili _,_=>.nili _
  | _,_,.fn _ f vs caps hv,hi=>.fn _ f vs _ (RdL.renp hp hv (by simpa [D.refsIn] using hi))
  | _,_,.mv _ f us first hv,hi=>.mv _ f us _ (RdL.renp hp hv (by simpa [D.refsIn] using hi))
  | _,_,.ref _ id off b hb,hi=>.ref _ _ off b (hp _ _ (by simpa [D.refsIn] using hi) hb)
  | _,_,.rsl _ id sz off len cap b o hb hc hsz ho c e f h1 h2 h3,hi=>.rsl _ _ sz off len cap b o (hp _ _ (by simpa [D.refsIn] using hi) hb) hc hsz ho c e f h1 h2 h3
  | _,_,.gsl _ id b len cap sz vs l hb hl hc hz hsz hr hv c e f h1 h2 h3,hi=>.gsl _ _ b len cap sz vs l (hp _ _ (by simpa [D.refsIn] using hi) hb) hl hc hz hsz hr hv c e f h1 h2 h3
  | _,_,.ngsl _ id sz,_=>.ngsl _ _ sz
  | _,_,.osl _ id b len cap sz hb hc hsz c e f h1 h2 h3,hi=>.osl _ _ b len cap sz (hp _ _ (by simpa [D.refsIn] using hi) hb) hc hsz c e f h1 h2 h3
  | _,_,.nosl _ id sz,_=>.nosl _ _ sz
  | _,_,.cnd _ v b d hv hu,hi=>.cnd _ v b _ (fun hb=>Rd.renp hp (hv hb) (by simpa [D.refsIn] using hi)) hu
  | _,_,.yld _ id l hb,hi=>.yld _ _ l (hp id l (by simpa [D.refsIn] using hi) hb)
  | _,_,.mref _ id l hb,hi=>.mref _ _ l (hp id l (by simpa [D.refsIn] using hi) hb)
  | _,_,.optp0 _,_=>.optp0 _
  | _,_,.optp1 _ a,_=>.optp1 _ a
  | _,_,.mapp _ m,_=>.mapp _ m
theorem RdL.renp {E : Env} {β β' : bW} {ρ : Nat → Nat} {p : Nat → Bool} (hp : ∀ id b,p id = true → β id = some b → β' (ρ id) = some b) : ∀ {vs : List Value} {ds : List D},RdL E β vs ds → D.refsInL p ds = true → RdL E β' vs (D.renL ρ ds)
  | _,_,.nil _,_=>.nil _
  | _, _, .cons (d := d) (ds := ds) hv t, hi =>
    have hi' : d.refsIn p = true ∧ D.refsInL p ds = true:=by simpa [D.refsInL] using hi
    .cons (Rd.renp hp hv hi'.1) (RdL.renp hp t hi'.2)
end

def sig (k : Nat) (A : List Nat) (i : Nat) : Nat:=if 1000 ≤ i then A.getD (i - 1000) 0 else k + i
def iD (A : List Nat) (i : Nat) : Bool:=Nat.ble 1000 i && Nat.blt i (1000 + A.length)
def pF (k : Nat) (A : List Nat) (i : Nat) : Bool:=Nat.blt (k + i) 1000 || iD A i

theorem nE {α : Type} {z : α} {i : Nat} : ∀ {l : List (Nat × α)},i ∈ l.map (·.1) → ∃ e,(i,e) ∈ l ∧ look z i l = e
  | (j, e) :: l, h => by
    rw [aX]
    by_cases hj : j = i
    · subst hj; exact ⟨e,by simp,by simp⟩
    · rw [if_neg hj]
      have : i ∈ l.map (·.1):=by simp only [List.map_cons,List.mem_cons] at h; rcases h with h | h; exact absurd h.symm hj; exact h
      obtain ⟨e',h1,h2⟩:=nE (z:=z) this
      exact ⟨e',by simp [h1],h2⟩
theorem kL {α : Type} {z : α} {i : Nat} : ∀ {l : List (Nat × α)},i ∉ l.map (·.1) → look z i l = z
  | [],_=>rfl
  | (j, e) :: l, h => by
    simp only [List.map_cons,List.mem_cons,not_or] at h
    rw [aX,if_neg (Ne.symm h.1)]; exact kL h.2

theorem aCE {H : List (Nat × Ent)} {i : Nat} (h : (entL H i).held = true) : (i,entL H i) ∈ H:=by
  by_cases hm : i ∈ H.map (·.1)
  · obtain ⟨e, h1, h2⟩ := nE (z := defE i) hm
    rw [show entL H i = e from h2]; exact h1
  · have : entL H i = defE i := kL hm
    rw [this] at h; unfold defE at h; split at h <;> cases h

section
variable {P : Program} {O : cG} {N : Nat} {S S' : St} {o : Oper} {t : Nat}

structure Hand (S : St) (k : Nat) (A : List Nat) (H0 : List (Nat × Ent)) : Prop where
  keys : (S.H.map (·.1)).all (fun i=>Nat.blt i k || Nat.ble 1000 i) = true
  kA : A.all (fun i=>Nat.blt i k || Nat.ble 1000 i) = true
  nd : A.Nodup
  cov : A.all (fun i=>(H0.map fun x=>sig k A x.1).contains i) = true
  ents : ∀ x ∈ H0,iD A x.1 = true ∧ x.2.held = true ∧ S.ent (sig k A x.1) = x.2.ren (sig k A) ∧ x.2.refsIn (iD A) = true

def aDS (k : Nat) (A : List Nat) (H0 H1 H : List (Nat × Ent)) : List (Nat × Ent) :=
  (H1.map fun x=>(sig k A x.1,x.2.ren (sig k A))) ++ ((H0.map fun x=>(sig k A x.1,Ent.none)) ++ H)

theorem yP {k i : Nat} {A : List Nat} (h : iD A i = true) : sig k A i ∈ A:=by
  simp only [iD,Bool.and_eq_true,Nat.ble_eq,Nat.blt_eq] at h
  simp only [sig,if_pos h.1]
  rw [List.getD_eq_getElem?_getD,List.getElem?_eq_getElem (show i - 1000 < A.length by omega)]
  exact List.getElem_mem _
theorem aBu : ∀ {A : List Nat},A.Nodup → ∀ {j : Nat} (hj : j < A.length),A.idxOf A[j] = j
  | [],_,_,hj=>absurd hj (by simp)
  | a :: A,_,0,_=>by simp [List.idxOf_cons]
  | a :: A, hn, j + 1, hj => by
    rw [List.nodup_cons] at hn
    have hj' : j < A.length:=by simpa using hj
    have hne : ¬ a = A[j]:=fun h=>hn.1 (h ▸ List.getElem_mem hj')
    have:=aBu hn.2 hj'
    simp only [List.getElem_cons_succ,List.idxOf_cons]
    rw [this,show (a == A[j]) = false from by simpa using hne]; rfl
theorem aFG {i : Nat} : ∀ {A : List Nat} (h : A.idxOf i < A.length),A[A.idxOf i] = i
  | [],h=>absurd h (by simp)
  | a :: A, h => by
    by_cases hai : a = i
    · subst hai; simp [List.idxOf_cons]
    · have e : (a :: A).idxOf i = A.idxOf i + 1 := by rw [List.idxOf_cons, show (a == i) = false from by simpa using hai]; rfl
      have h' : A.idxOf i < A.length:=by rw [e] at h; simpa using h
      have:=aFG h'
      simp only [e,List.getElem_cons_succ]; exact this
theorem aCP {k i : Nat} {A : List Nat} (hn : A.Nodup) (h : iD A i = true) : 1000 + A.idxOf (sig k A i) = i:=by
  simp only [iD,Bool.and_eq_true,Nat.ble_eq,Nat.blt_eq] at h
  simp only [sig,if_pos h.1]
  have hlt : i - 1000 < A.length:=by omega
  rw [List.getD_eq_getElem?_getD,List.getElem?_eq_getElem hlt,Option.getD_some,aBu hn hlt]
  omega
theorem aEW {k i j : Nat} {A : List Nat} (hn : A.Nodup) (hi : iD A i = true) (hj : iD A j = true) (h : sig k A i = sig k A j) : i = j:=by
  rw [← aCP (k:=k) hn hi,← aCP (k:=k) hn hj,h]
theorem aB7 {k i : Nat} {A : List Nat} (h : i ∈ A) : iD A (1000 + A.idxOf i) = true ∧ sig k A (1000 + A.idxOf i) = i:=by
  have hlt:=List.idxOf_lt_length_of_mem h
  constructor
  · simp only [iD,Bool.and_eq_true,Nat.ble_eq,Nat.blt_eq]; omega
  · simp only [sig, if_pos (Nat.le_add_right 1000 _)]
    rw [show 1000 + A.idxOf i - 1000 = A.idxOf i by omega,List.getD_eq_getElem?_getD,List.getElem?_eq_getElem hlt,Option.getD_some]
    exact aFG hlt

theorem aDw {f : FuncId} {ds ds' : List D} {r r' : D} {H0 H1 H2 : List (Nat × Ent)} (k : Nat) (A : List Nat) (hd : o.dst = some t) (ht : t < N)
    (h : ∀ E β a,Rel O N S E β a → ∃ vs : List Value,(execOp a.eval o).run P E.w = .ok (.enter f vs.toArray) E.w ∧ RdL E β vs ds') (hds : D.renL (sig k A) ds = ds') (hp : D.refsInL (iD A) ds = true)
    (hh : Hand S k A H0) (hf : FnH P f ds H0 r H1) (hrr : r.ren (sig k A) = r') (hrp : r.refsIn (pF k A) = true) (hH1 : ∀ x ∈ H1,pF k A x.1 = true ∧ x.2.refsIn (pF k A) = true)
    (hH2 : aDS k A H0 H1 S.H = H2) : IOp P O N o S (St.set ⟨S.sl,H2⟩ t r'):=by
  intro E β a hr next Q hn
  obtain ⟨vs,hrun,hv⟩:=h E β a hr
  unfold Oper.wp
  rw [hrun]
  simp only [Oper.upon,hd]
  subst hds hrr hH2
  let βc : bW:=fun i=>if iD A i = true then β (sig k A i) else none
  have hβc : ∀ id,iD A id = true → βc id = β (sig k A id):=fun id hid=>by simp [βc,hid]
  have hvc : RdL E βc vs ds:=RdL.ren hβc ds hv hp
  have h0 : ∀ i,(entL H0 i).held = true → iD A i = true ∧ S.ent (sig k A i) = (entL H0 i).ren (sig k A) ∧ (entL H0 i).refsIn (iD A) = true:=fun i hi=>by
    have h1:=hh.ents _ (aCE hi)
    exact ⟨h1.1,h1.2.2.1,h1.2.2.2⟩
  have hcall : HOk ⟨E.w,E.X,wK βc H0,βc,none,fun _=>[],fun _=>0,fun _=>[],fun _=>(#[],.skip,.skip)⟩ E βc (entL H0):={
    tab:=hr.h.good.tab,os:=rfl,tape:=rfl,output:=rfl,size:=Nat.le_refl _,block:=fun _ _ _=>rfl,xlt:=hr.h.xlt,xold:=fun _ _ _ _=>Iff.rfl,le:=Env.le.refl _
    gid:=fun i b hi=>by
      by_cases hg : iD A i = true
      · simp only [iD,Bool.and_eq_true,Nat.ble_eq] at hg; exact hg.1
      · simp [βc,hg] at hi
    given:=fun _ _ hi=>hi
    ent := fun i => by
      cases hhe : (entL H0 i).held with
      | true =>
        obtain ⟨h1,h2,h3⟩:=h0 i hhe
        have he:=hr.h.ent (sig k A i)
        rw [h2] at he
        have hown : ∀ b,βc i = some b → (⟨E.w,E.X,wK βc H0,βc,none,fun _=>[],fun _=>0,fun _=>[],fun _=>(#[],.skip,.skip)⟩ : cG).own b:=fun b hb=>.inr ⟨i,hhe,hb⟩
        cases hE : entL H0 i with
        | none=>trivial
        | fresh=>rw [hE] at hhe; cases hhe
        | blk e es =>
          rw [hE] at he h3
          rcases he with ⟨g1,g2⟩ | ⟨b,ws,sp,g1,g2,g3,g4,g5⟩
          · exact .inl ⟨(hβc i h1).trans g1,xT g2⟩
          · exact .inr ⟨b,ws,sp,(hβc i h1).trans g1,hown b ((hβc i h1).trans g1),g3,g4,RdL.ren hβc es g5 h3⟩
        | tail e sz n =>
          rw [hE] at he
          rcases he with ⟨g1,g2⟩ | ⟨b,c,g1,g2,g3,g4⟩
          · exact .inl ⟨(hβc i h1).trans g1,g2⟩
          · exact .inr ⟨b,c,(hβc i h1).trans g1,hown b ((hβc i h1).trans g1),g3,g4⟩
        | loop lk es st pe =>
          rw [hE] at h3; cases h3
        | mp ks es =>
          rw [hE] at he h3
          obtain ⟨b,xs,cl,g1,g2,g3,g4,g5,g6⟩:=he
          exact ⟨b,xs,cl,(hβc i h1).trans g1,hown b ((hβc i h1).trans g1),g3,g4,g5,RdL.ren hβc es g6 h3⟩
        | kept n es=>rw [hE] at hhe; cases hhe
      | false =>
        cases hE : entL H0 i with
        | none=>trivial
        | fresh =>
          show βc i = none
          by_cases hm : i ∈ H0.map (·.1)
          · obtain ⟨e, h1, h2⟩ := nE (z := defE i) hm
            have h3:=hh.ents _ h1
            have : entL H0 i = e:=h2
            rw [hE] at this; rw [← this] at h3; exact absurd h3.2.1 (by simp [Ent.held])
          · have : entL H0 i = defE i := kL hm
            rw [hE] at this
            unfold defE at this
            split at this
            · cases this
            · rename_i hlt
              have : ¬ iD A i = true:=by simp only [iD,Bool.and_eq_true,Nat.ble_eq]; omega
              simp [βc,this]
        | blk=>rw [hE] at hhe; cases hhe
        | tail=>rw [hE] at hhe; cases hhe
        | loop=>rw [hE] at hhe; cases hhe
        | mp=>rw [hE] at hhe; cases hhe
        | kept n es =>
          exfalso
          by_cases hm : i ∈ H0.map (·.1)
          · obtain ⟨e, h1, h2⟩ := nE (z := defE i) hm
            have h3:=hh.ents _ h1
            have : entL H0 i = e:=h2
            rw [hE] at this; rw [← this] at h3; exact absurd h3.2.1 (by simp [Ent.held])
          · have : entL H0 i = defE i := kL hm
            rw [hE] at this
            unfold defE at this
            split at this <;> cases this
    inj:=fun i j b hi hj h1 h2=>by
      obtain ⟨a1,a2,_⟩:=h0 i hi
      obtain ⟨b1,b2,_⟩:=h0 j hj
      have h1 : β (sig k A i) = some b:=(hβc i a1).symm.trans h1
      have h2 : β (sig k A j) = some b:=(hβc j b1).symm.trans h2
      exact aEW hh.nd a1 b1 (hr.h.inj _ _ b (by rw [a2,Ent.held_ren]; exact hi) (by rw [b2,Ent.held_ren]; exact hj) h1 h2) }
  refine (hf E βc vs hr.h.good hcall.gid hcall hvc).mono ?_
  rintro e w' ⟨v,rfl,E',β',rfl,hok,hrd⟩
  -- old blocks that were not handed over
  have hfoot : ∀ b,wK βc H0 b → ∃ i,iD A i = true ∧ (S.ent (sig k A i)).held = true ∧ β (sig k A i) = some b:=fun b ⟨i,hi,hb⟩=>by
    obtain ⟨h1,h2,_⟩:=h0 i hi
    exact ⟨i,h1,by rw [h2,Ent.held_ren]; exact hi,by rw [← hβc i h1]; exact hb⟩
  have hfown : ∀ b,wK βc H0 b → O.own b:=fun b hb=>by
    obtain ⟨i,_,h2,h3⟩:=hfoot b hb
    have he:=hr.h.ent (sig k A i)
    exact hr.h.own h2 h3
  have hcown : ∀ b,(⟨E.w,E.X,wK βc H0,βc,none,fun _=>[],fun _=>0,fun _=>[],fun _=>(#[],.skip,.skip)⟩ : cG).own b → O.own b:=fun b hb=>by
    rcases hb with hb | hb
    · exact .inl (Nat.le_trans hr.h.size hb)
    · exact hfown b hb
  have hfresh : ∀ i,k ≤ i → i < 1000 → β i = none:=fun i h1 h2=>by
    have he:=hr.h.ent i
    have : S.ent i = .fresh:=by
      have hnm : i ∉ S.H.map (·.1):=fun hm=>by
        have:=List.all_eq_true.1 hh.keys i hm
        simp only [Bool.or_eq_true,Nat.blt_eq,Nat.ble_eq] at this; omega
      have h3 : S.ent i = defE i:=kL hnm
      rw [h3,defE,if_neg (by omega)]
    rw [this] at he; exact he
  let βn : bW:=fun i=>if k ≤ i ∧ i < 1000 then β' (i - k) else if i ∈ A then β' (1000 + A.idxOf i) else β i
  have hAk : ∀ i,i ∈ A → ¬ (k ≤ i ∧ i < 1000):=fun i hi=>by
    have:=List.all_eq_true.1 hh.kA _ hi
    simp only [Bool.or_eq_true,Nat.blt_eq,Nat.ble_eq] at this; omega
  have hnA : ∀ i,i ∈ A → βn i = β' (1000 + A.idxOf i):=fun i hi=>by simp [βn,hAk i hi,hi]
  have hnO : ∀ i,i ∉ A → ¬ (k ≤ i ∧ i < 1000) → βn i = β i:=fun i h1 h2=>by simp [βn,h1,h2]
  have hβ1 : β.le βn:=fun i b hi=>by
    by_cases hki : k ≤ i ∧ i < 1000
    · rw [hfresh i hki.1 hki.2] at hi; cases hi
    · by_cases hA : i ∈ A
      · rw [hnA i hA]
        obtain ⟨h1,h2⟩:=aB7 (k:=k) hA
        exact hok.given _ _ (((hβc _ h1).trans (by rw [h2])).trans hi)
      · rw [hnO i hA hki]; exact hi
  have hβ2 : ∀ i,pF k A i = true → βn (sig k A i) = β' i:=fun i hi=>by
    by_cases hg : iD A i = true
    · rw [hnA _ (yP hg),aCP hh.nd hg]
    · simp only [pF, hg, Bool.or_false, Nat.blt_eq] at hi
      have h2 : ¬ 1000 ≤ i:=by omega
      have h1 : sig k A i = k + i:=by simp [sig,h2]
      rw [h1]
      simp [βn,hi]
  have hle : E.le E':=hok.le
  -- the entries behind the call
  have hkey1 : ∀ i,pF k A i = true → ∀ j,pF k A j = true → sig k A i = sig k A j → i = j:=fun i hi j hj hij=>by
    by_cases hgi : iD A i = true
    · by_cases hgj : iD A j = true
      · exact aEW hh.nd hgi hgj hij
      · exfalso
        simp only [pF,hgj,Bool.or_false,Nat.blt_eq] at hj
        have h2 : sig k A j = k + j:=by simp [sig,show ¬ 1000 ≤ j by omega]
        exact hAk _ (yP (k:=k) hgi) (by rw [hij,h2]; omega)
    · by_cases hgj : iD A j = true
      · exfalso
        simp only [pF,hgi,Bool.or_false,Nat.blt_eq] at hi
        have h2 : sig k A i = k + i:=by simp [sig,show ¬ 1000 ≤ i by omega]
        exact hAk _ (yP (k:=k) hgj) (by rw [← hij,h2]; omega)
      · simp only [pF, hgi, hgj, Bool.or_false, Nat.blt_eq] at hi hj
        simp only [sig,show ¬ 1000 ≤ i by omega,show ¬ 1000 ≤ j by omega,if_false] at hij
        omega
  have hent : ∀ i,(St.set ⟨S.sl,aDS k A H0 H1 S.H⟩ t (r.ren (sig k A))).ent i =
      if i ∈ H1.map (fun x=>sig k A x.1) then (look (defE i) i (H1.map fun x=>(sig k A x.1,x.2.ren (sig k A)))) else if i ∈ H0.map (fun x=>sig k A x.1) then .none else S.ent i:=fun i=>by
    simp only [St.ent,entL,St.set,aDS,qU,List.map_map]
    have e1 : (Prod.fst ∘ fun x : Nat × Ent=>(sig k A x.1,x.2.ren (sig k A))) = fun x=>sig k A x.1:=rfl
    have e2 : (Prod.fst ∘ fun x : Nat × Ent=>(sig k A x.1,Ent.none)) = fun x=>sig k A x.1:=rfl
    rw [e1,e2]
    split
    · rfl
    · split
      · rename_i h1 h2
        obtain ⟨e,h3,h4⟩:=nE (z:=defE i) (l:=H0.map fun x=>(sig k A x.1,Ent.none)) (by rw [List.map_map,e2]; exact h2)
        rw [h4]
        obtain ⟨x,_,hx⟩:=List.mem_map.1 h3
        cases hx; rfl
      · rfl
  have hlook1 : ∀ j,pF k A j = true → j ∈ H1.map (·.1) → look (defE (sig k A j)) (sig k A j) (H1.map fun x=>(sig k A x.1,x.2.ren (sig k A))) = (entL H1 j).ren (sig k A):=by
    intro j hj
    unfold entL
    have aux : ∀ (z z' : Ent) (l : List (Nat × Ent)),(∀ x ∈ l,pF k A x.1 = true) → j ∈ l.map (·.1) → look z (sig k A j) (l.map fun x=>(sig k A x.1,x.2.ren (sig k A))) = (look z' j l).ren (sig k A):=by
      intro z z' l
      induction l with
      | nil=>intro _ h; simp at h
      | cons x l ih =>
        obtain ⟨i,e⟩:=x
        intro hl hm
        simp only [List.map_cons,aX]
        by_cases hij : i = j
        · subst hij; rw [if_pos rfl,if_pos rfl]
        · rw [if_neg (fun h => hij (hkey1 i (hl (i, e) List.mem_cons_self) j hj h)), if_neg hij]
          refine ih (fun x hx=>hl x (List.mem_cons_of_mem _ hx)) ?_
          simp only [List.map_cons,List.mem_cons] at hm
          rcases hm with h | h
          · exact absurd h.symm hij
          · exact h
    exact aux _ _ H1 (fun x hx=>(hH1 x hx).1)
  have hH1r : ∀ j,j ∈ H1.map (·.1) → pF k A j = true ∧ (entL H1 j).refsIn (pF k A) = true:=fun j hj=>by
    obtain ⟨e,h1,h2⟩:=nE (z:=defE j) hj
    have h3:=hH1 _ h1
    exact ⟨h3.1,by rw [show entL H1 j = e from h2]; exact h3.2⟩
  have cases1 : ∀ i,i ∈ H1.map (fun x=>sig k A x.1) → ∃ j,j ∈ H1.map (·.1) ∧ pF k A j = true ∧ i = sig k A j:=fun i hi=>by
    obtain ⟨x,hx,rfl⟩:=List.mem_map.1 hi
    exact ⟨x.1,List.mem_map.2 ⟨x,hx,rfl⟩,(hH1 x hx).1,rfl⟩
  -- an entry that was not handed over
  have hold : ∀ i,i ∉ H1.map (fun x=>sig k A x.1) → i ∉ H0.map (fun x=>sig k A x.1) → (S.ent i).held = true → ∀ b,β i = some b → βn i = some b ∧ b < E.w.heap.size ∧ ¬ wK βc H0 b:=fun i h1 h2 h3 b hb=>by
    refine ⟨hβ1 i b hb,?_,?_⟩
    · exact hr.h.lt h3 hb
    · rintro ⟨j, hj, hbj⟩
      obtain ⟨g1,g2,_⟩:=h0 j hj
      have : i = sig k A j:=hr.h.inj i (sig k A j) b h3 (by rw [g2,Ent.held_ren]; exact hj) hb (by rw [← hβc j g1]; exact hbj)
      exact h2 (List.mem_map.2 ⟨_,aCE hj,this.symm⟩)
  have hcov : ∀ i,i ∈ A → i ∈ H0.map (fun x=>sig k A x.1):=fun i hi=>by
    have:=List.all_eq_true.1 hh.cov i hi
    simpa using this
  have hold' : ∀ i,i ∉ H0.map (fun x=>sig k A x.1) → S.ent i ≠ .fresh → βn i = β i:=fun i h0 hf=>by
    refine hnO i (fun hA=>h0 (hcov i hA)) (fun hki=>hf ?_)
    have hnm : i ∉ S.H.map (·.1):=fun hm=>by
      have:=List.all_eq_true.1 hh.keys i hm
      simp only [Bool.or_eq_true,Nat.blt_eq,Nat.ble_eq] at this; omega
    have h3 : S.ent i = defE i:=kL hnm
    rw [h3,defE,if_neg (by omega)]
  refine hn E' βn _ ⟨by simp [Act.put,hr.n],hr.nd.mono (fun b hx=>(hok.block b (dI hx) (fun hf=>by obtain ⟨i,_,h2,h3⟩:=hfoot b hf; exact hr.h.nodef h2 h3 _ hx)).trans hx),?_,?_⟩
  · exact {
      tab:=hr.h.tab,os:=hok.os.trans hr.h.os,tape:=hok.tape.trans hr.h.tape,output:=hok.output.trans hr.h.output,size:=Nat.le_trans hr.h.size hok.size
      block:=fun j hj hf=>by
        have hnf : ¬ wK βc H0 j:=fun h=>by
          rcases hfown j h with h1 | h1
          · omega
          · exact hf h1
        exact (hok.block j (Nat.lt_of_lt_of_le hj hr.h.size) hnf).trans (hr.h.block j hj hf)
      xlt:=hok.xlt
      xold:=fun b o hb hf=>by
        have hnf : ¬ wK βc H0 b:=fun h=>by
          rcases hfown b h with h1 | h1
          · omega
          · exact hf h1
        exact (hok.xold b o (Nat.lt_of_lt_of_le hb hr.h.size) hnf).trans (hr.h.xold b o hb hf)
      le:=hr.h.le.trans hle
      gid:=hr.h.gid
      given:=fun i b hi=>hβ1 i b (hr.h.given i b hi)
      ent := fun i => by
        rw [hent i]
        by_cases hi1 : i ∈ H1.map (fun x=>sig k A x.1)
        · rw [if_pos hi1]
          obtain ⟨j,hj,hbj,rfl⟩:=cases1 i hi1
          rw [hlook1 j hbj hj]
          have he:=hok.ent j
          have hrf:=(hH1r j hj).2
          have hb2:=hβ2 j hbj
          cases hE : entL H1 j with
          | none=>trivial
          | fresh=>rw [hE] at he; exact hb2.trans he
          | blk e es =>
            rw [hE] at he hrf
            rcases he with ⟨g1,g2⟩ | ⟨b,ws,sp,g1,g2,g3,g4,g5⟩
            · exact .inl ⟨hb2.trans g1,by rw [g2]; rfl⟩
            · exact .inr ⟨b,ws,sp,hb2.trans g1,hcown b g2,g3,g4,RdL.renp (fun id b hid hb=>(hβ2 id hid).trans hb) g5 hrf⟩
          | tail e sz n =>
            rw [hE] at he
            rcases he with ⟨g1,g2⟩ | ⟨b,c,g1,g2,g3,g4⟩
            · exact .inl ⟨hb2.trans g1,g2⟩
            · exact .inr ⟨b,c,hb2.trans g1,hcown b g2,g3,g4⟩
          | loop lk es st pe =>
            rw [hE] at hrf; cases hrf
          | mp ks es =>
            rw [hE] at he hrf
            obtain ⟨b,xs,cl,g1,g2,g3,g4,g5,g6⟩:=he
            exact ⟨b,xs,cl,hb2.trans g1,hcown b g2,g3,g4,g5,RdL.renp (fun id b hid hb=>(hβ2 id hid).trans hb) g6 hrf⟩
          | kept n es=>rw [hE] at hrf; cases hrf
        · rw [if_neg hi1]
          by_cases hi0 : i ∈ H0.map (fun x=>sig k A x.1)
          · rw [if_pos hi0]; trivial
          · rw [if_neg hi0]
            have he:=hr.h.ent i
            have hnb : ∀ b,(S.ent i).held = true → β i = some b → βn i = some b ∧ E'.w.heap[b]? = E.w.heap[b]? ∧ ∀ o,(E'.X b o ↔ E.X b o):=fun b hhe hb=>by
              obtain ⟨g1,g2,g3⟩:=hold i hi1 hi0 hhe b hb
              exact ⟨g1,hok.block b g2 g3,fun o=>hok.xold b o g2 g3⟩
            cases hE : S.ent i with
            | none=>trivial
            | fresh =>
              rw [hE] at he
              show βn i = none
              by_cases hki : k ≤ i ∧ i < 1000
              · -- a fresh name of the callee's that is told by nothing
                have hbi : i - k ∉ H1.map (·.1):=fun hm=>by
                  have hbb:=(hH1r _ hm).1
                  refine hi1 ?_
                  obtain ⟨x,hx,hxe⟩:=List.mem_map.1 hm
                  refine List.mem_map.2 ⟨x,hx,?_⟩
                  have hx' : x.1 = i - k:=hxe
                  rw [hx']
                  simp only [sig,show ¬ 1000 ≤ i - k by omega,if_false]
                  omega
                have h3:=hok.ent (i - k)
                have h4 : entL H1 (i - k) = defE (i - k):=kL hbi
                rw [h4,defE,if_neg (by omega)] at h3
                simp only [βn,hki,and_self,if_true]
                exact h3
              · rw [hnO i (fun hA=>hi0 (hcov i hA)) hki]; exact he
            | blk e es =>
              rw [hE] at he
              rcases he with ⟨g1,g2⟩ | ⟨b,ws,sp,g1,g2,g3,g4,g5⟩
              · exact .inl ⟨(hold' i hi0 (by rw [hE]; exact fun h=>by cases h)).trans g1,g2⟩
              · obtain ⟨f1, f2, f3⟩ := hnb b (by rw [hE]; rfl) g1
                exact .inr ⟨b,ws,sp,f1,g2,f2.trans g3,fun o=>(f3 o).2 (g4 o),RdL.mono hle hβ1 g5⟩
            | tail e sz n =>
              rw [hE] at he
              rcases he with ⟨g1,g2⟩ | ⟨b,c,g1,g2,g3,g4⟩
              · exact .inl ⟨(hold' i hi0 (by rw [hE]; exact fun h=>by cases h)).trans g1,g2⟩
              · obtain ⟨f1, f2, f3⟩ := hnb b (by rw [hE]; rfl) g1
                exact .inr ⟨b,c,f1,g2,f2.trans g3,fun o ho=>(f3 o).2 (g4 o ho)⟩
            | loop lk es st pe =>
              rw [hE] at he
              obtain ⟨b,q,g1,g2,g3,g4,g5,g6,g7,g8,g9,g10⟩:=he
              obtain ⟨f1,f2,f3⟩:=hnb b (by rw [hE]; rfl) g1
              exact ⟨b,q,f1,g2,f2.trans g3,fun o=>(f3 o).2 (g4 o),g5,g6,g7,g8,g9,g10.1,RdL.mono hle hβ1 g10.2⟩
            | mp ks es =>
              rw [hE] at he
              obtain ⟨b,xs,cl,g1,g2,g3,g4,g5,g6⟩:=he
              obtain ⟨f1,f2,f3⟩:=hnb b (by rw [hE]; rfl) g1
              exact ⟨b,xs,cl,f1,g2,f2.trans g3,fun o=>(f3 o).2 (g4 o),g5,RdL.mono hle hβ1 g6⟩
            | kept n es =>
              rw [hE] at he
              exact ⟨RdL.mono hle hβ1 he.1,fun c hc=>(hok.block c (dI (he.2 c hc)) (fun hf=>by obtain ⟨i,_,h2,h3⟩:=hfoot c hf; exact hr.h.nodef h2 h3 _ (he.2 c hc))).trans (he.2 c hc)⟩
      inj := fun i j b hi hj hbi hbj => by
        rw [hent i] at hi
        rw [hent j] at hj
        have hone : ∀ i,i ∈ H1.map (fun x=>sig k A x.1) → (look (defE i) i (H1.map fun x=>(sig k A x.1,x.2.ren (sig k A)))).held = true → βn i = some b → ∃ a,(entL H1 a).held = true ∧ β' a = some b ∧ i = sig k A a ∧ pF k A a = true:=fun i hm hh hb=>by
          obtain ⟨a,ha,hba,rfl⟩:=cases1 i hm
          rw [hlook1 a hba ha,Ent.held_ren] at hh
          exact ⟨a,hh,(hβ2 a hba).symm.trans hb,rfl,hba⟩
        have hown1 : ∀ a,(entL H1 a).held = true → β' a = some b → E.w.heap.size ≤ b ∨ wK βc H0 b:=fun a hh hb=>by
          exact hok.own hh hb
        have hto : ∀ i,i ∉ H0.map (fun x=>sig k A x.1) → (S.ent i).held = true → βn i = some b → β i = some b:=fun i h0 hh hb=>by
          rw [← hold' i h0 (fun h=>by rw [h] at hh; cases hh)]; exact hb
        have hmix : ∀ i j,i ∈ H1.map (fun x=>sig k A x.1) → (look (defE i) i (H1.map fun x=>(sig k A x.1,x.2.ren (sig k A)))).held = true → βn i = some b → j ∉ H1.map (fun x=>sig k A x.1) → j ∉ H0.map (fun x=>sig k A x.1) → (S.ent j).held = true → βn j = some b → False:=fun i j h1 h2 h3 h4 h5 h6 h7=>by
          obtain ⟨a,ha,hb,_⟩:=hone i h1 h2 h3
          obtain ⟨_,f2,f3⟩:=hold j h4 h5 h6 b (hto j h5 h6 h7)
          rcases hown1 a ha hb with h | h
          · omega
          · exact f3 h
        by_cases hi1 : i ∈ H1.map (fun x=>sig k A x.1)
        · rw [if_pos hi1] at hi
          by_cases hj1 : j ∈ H1.map (fun x=>sig k A x.1)
          · rw [if_pos hj1] at hj
            obtain ⟨a,ha,hab,rfl,_⟩:=hone i hi1 hi hbi
            obtain ⟨c,hc,hcb,rfl,_⟩:=hone j hj1 hj hbj
            rw [hok.inj a c b ha hc hab hcb]
          · rw [if_neg hj1] at hj
            by_cases hj0 : j ∈ H0.map (fun x=>sig k A x.1)
            · rw [if_pos hj0] at hj; cases hj
            · rw [if_neg hj0] at hj
              exact (hmix i j hi1 hi hbi hj1 hj0 hj hbj).elim
        · rw [if_neg hi1] at hi
          by_cases hi0 : i ∈ H0.map (fun x=>sig k A x.1)
          · rw [if_pos hi0] at hi; cases hi
          · rw [if_neg hi0] at hi
            by_cases hj1 : j ∈ H1.map (fun x=>sig k A x.1)
            · rw [if_pos hj1] at hj
              exact (hmix j i hj1 hj hbj hi1 hi0 hi hbi).elim
            · rw [if_neg hj1] at hj
              by_cases hj0 : j ∈ H0.map (fun x=>sig k A x.1)
              · rw [if_pos hj0] at hj; cases hj
              · rw [if_neg hj0] at hj
                exact hr.h.inj i j b hi hj (hto i hi0 hi hbi) (hto j hj0 hj hbj) }
  · intro s
    have hts : t < a.tmps.size:=hr.n ▸ ht
    by_cases hst : t = s
    · subst hst
      have h1:=Rd.renp (p:=pF k A) (fun id b hid hb=>(hβ2 id hid).trans hb) hrd hrp
      simpa [Act.put,St.get,St.set,aX,hts] using h1
    · have := Rd.mono hle hβ1 (hr.sl s)
      simpa [Act.put,St.get,St.set,aX,hst,Array.getElem?_setIfInBounds_ne] using this

theorem aFE {f : FuncId} {xs : List Operand} {ts : Array TypeId} {ds ds' : List D} {r r' : D} {H0 H1 H2 : List (Nat × Ent)} (k : Nat) (A : List Nat) (ho : o.op = .call { callee:=.value (.func f),args:=xs.toArray,argTypes:=ts }) (hd : o.dst = some t) (ht : t < N)
    (hc : aV P f) (hx : SVs S xs ds') (hds : D.renL (sig k A) ds = ds') (hp : D.refsInL (iD A) ds = true)
    (hh : Hand S k A H0) (hf : FnH P f ds H0 r H1) (hrr : r.ren (sig k A) = r') (hrp : r.refsIn (pF k A) = true) (hH1 : ∀ x ∈ H1,pF k A x.1 = true ∧ x.2.refsIn (pF k A) = true)
    (hH2 : aDS k A H0 H1 S.H = H2) : IOp P O N o S (St.set ⟨S.sl,H2⟩ t r') :=
  aDw k A hd ht (fun E β a hr=>⟨xs.map a.eval,by
    simp [execOp,ho,resolve,Deferred.ofValue,Act.eval,invoke,nP hc],hx.rd hr⟩) hds hp hh hf hrr hrp hH1 hH2

theorem aCn {f : FuncId} {fn : Func} {c : Code} {ds rs : List D} {H0 H1 : List (Nat × Ent)} (hf : P.funcs[f]? = some fn) (hb : fn.body = some c) (hN : fn.ntmps = N) (hlen : ds.length ≤ N)
    (h : ∀ O : cG,O.Plain → IWP P O N c ⟨(List.range ds.length).zip ds,H0⟩ (fun e S=>(e = .normal ∨ e = .ret) ∧ ∃ ρ,Weak S ⟨[],H1⟩ ρ ∧ (∃ ds0,aAP P S fn.results.toList ds0 ∧ WkL ds0 (D.renL ρ rs)) ∧ D.refsInL (St.okn ⟨[],H1⟩) rs = true)) : FnH P f ds H0 (retD rs) H1:=by
  intro E β vs hX hβ hok0 hvs
  let O : cG:=⟨E.w,E.X,wK β H0,β,none,fun _=>[],fun _=>0,fun _=>[],fun _=>(#[],.skip,.skip)⟩
  have hl:=hvs.length
  have hrel : Rel O N ⟨(List.range ds.length).zip ds, H0⟩ E β { tmps := vs.toArray ++ Array.replicate (fn.ntmps - vs.toArray.size) undef, defers := [] } := by
    refine ⟨by simp; omega,qI.nil,hok0,?_⟩
    intro s
    have key : ∀ (ds : List D) (vs : List Value) (k : Nat),RdL E β vs ds → Rd E β (if s < k then undef else vs.getD (s - k) undef) (look .dead s ((List.range' k ds.length).zip ds)):=by
      intro ds
      induction ds with
      | nil=>intro vs k _; simp [look]; exact .dead _ _
      | cons d ds ih =>
        intro vs k hv
        cases hv with
        | cons h1 h2 =>
          simp only [List.length_cons,List.range'_succ,List.zip_cons_cons,aX]
          by_cases hks : k = s
          · subst hks; simpa using h1
          · rw [if_neg hks]
            have:=ih _ (k + 1) h2
            by_cases hlt : s < k
            · simpa [hlt,show s < k + 1 by omega] using this
            · have h3 : ¬ s < k + 1 := by omega
              rw [if_neg hlt]; rw [if_neg h3] at this
              rw [show s - k = (s - (k + 1)) + 1 by omega]
              simpa using this
    have:=key ds vs 0 hvs
    rw [List.range_eq_range']
    simp only [Nat.not_lt_zero,if_false,Nat.sub_zero] at this
    have hg : (vs.toArray ++ Array.replicate (fn.ntmps - vs.toArray.size) undef).getD s undef = vs.getD s undef:=by
      by_cases hs : s < vs.length
      · simp [hs,Array.getElem?_append]
      · simp [Array.getElem?_append, hs, List.getElem?_eq_none (Nat.le_of_not_lt hs)]
        simp [Array.getElem?_replicate]
        split <;> rfl
    show Rd E β (Array.getD _ s undef) _
    rw [hg]
    exact this
  refine nT hf hb rfl (fun b hb hf=>by obtain ⟨i,hi,hbi⟩:=hf; exact absurd (hok0.lt hi hbi) (Nat.not_lt.2 hb)) hrel (O:=O) (h O ⟨rfl,fun b hb hf=>by obtain ⟨i,hi,hbi⟩:=hf; exact absurd (hok0.lt hi hbi) (Nat.not_lt.2 hb),fun _=>rfl⟩) ?_
  rintro e S' E' β' a' hr' ⟨he,ρ,hw,⟨ds0,hres,hwk⟩,hin⟩
  refine ⟨he,?_⟩
  obtain ⟨vs',h1,h2⟩:=oU (P:=P) hr' hres
  obtain ⟨β3,hr3,hβ3⟩:=hr'.weak' hw
  have h3 : RdL E' β3 vs' rs:=RdL.ren hβ3 rs (h2.wk hwk) hin
  have hrun : (results fn a'.tmps).run P E'.w = .ok (if h : vs'.toArray.size = 1 then vs'.toArray[0] else .tuple vs'.toArray) E'.w:=by
    have hF : results fn a'.tmps = (fn.results.mapM (resF a'.tmps)) >>= fun vs=>pure (if h : vs.size = 1 then vs[0] else .tuple vs):=by
      unfold results
      congr 2
    rw [hF,← Array.toArray_toList (xs:=fn.results),List.mapM_toArray]
    simp only [Sem.run_bind,Sem.run_map,h1,Result.andThen_ok,Sem.run_pure]
  have hfin : ∃ v,(results fn a'.tmps).run P E'.w = .ok v E'.w ∧ Rd E' β3 v (retD rs):=by
    refine ⟨_,hrun,?_⟩
    cases h3 with
    | nil=>simpa [retD] using Rd.tuple (E:=E') β3 [] [] (.nil _)
    | cons h5 h6 =>
      cases h6 with
      | nil=>simpa [retD] using h5
      | cons h7 h8 =>
        simp only [retD,List.size_toArray,List.length_cons]
        rw [dif_neg (by omega)]
        exact .tuple _ _ _ (.cons h5 (.cons h7 h8))
  obtain ⟨v,h5,h6⟩:=hfin
  exact ⟨v,h5,v,rfl,E',β3,rfl,hr3.h,h6⟩

theorem iZ {f : FuncId} {fn : Func} {c : Code} {ds rs : List D} {H0 H1 : List (Nat × Ent)} (hf : P.funcs[f]? = some fn) (hb : fn.body = some c) (hN : fn.ntmps = N) (hlen : ds.length ≤ N)
    (h : ∀ O : cG,O.Plain → IWP P O N c ⟨(List.range ds.length).zip ds,H0⟩ (fun e S=>(e = .normal ∨ e = .ret) ∧ ∃ ρ,Weak S ⟨[],H1⟩ ρ ∧ aAP P S fn.results.toList (D.renL ρ rs) ∧ D.refsInL (St.okn ⟨[],H1⟩) rs = true)) : FnH P f ds H0 (retD rs) H1 :=
  aCn hf hb hN hlen fun O hO=>aA7 (h O hO) fun e S ⟨he,ρ,hw,hr,hi⟩=>⟨he,ρ,hw,⟨_,hr,.refl _⟩,hi⟩

theorem FnH.pure {f : FuncId} {ds : List D} {r : D} (h : FnH P f ds [] r []) (hp : r.refsIn noRef = true) : bR P f ds r:=by
  intro E vs hX hv
  have e : wK β0 [] = fun _=>False:=by
    funext b; apply propext; constructor
    · rintro ⟨i,_,hi⟩; cases hi
    · exact fun h=>h.elim
  refine (h E β0 vs hX (fun i b hi=>by cases hi) (by rw [e]; exact aBH hX) hv).mono ?_
  rintro e w' ⟨v,rfl,E',β',rfl,hok,hrd⟩
  refine ⟨v,rfl,⟨hok.os,hok.tape,hok.output,hok.size,fun k hk=>hok.block k hk (by rintro ⟨i,_,hi⟩; cases hi)⟩,?_⟩
  have hxx : E'.le ⟨E'.w,E.X⟩:=by
    constructor
    · intro b o v hc hx
      exact ⟨hc,fun hX'=>hx ((hok.xold b o (hX.xlt b o hX') (by rintro ⟨i,_,hi⟩; cases hi)).2 hX')⟩
    · intro b c e f hc; exact ⟨c,f,hc,rfl⟩
  exact Rd.mono hxx (bW.le.refl _) (hrd.bare hp)

theorem aAB {ops : Array Oper} {l : List Oper} {xt yt e : TypeId} {x y : Operand} {f : Bool} {s : List D} {Q : Exit → St → Prop} (hg : o.guard = none) (ho : o.op = .binOp .eql xt x y yt) (hd : o.dst = some t) (ht : t < N) (hu : P.underlying xt = some (.slice e))
    (hx : SV S x (.slice f s)) (hy : S.op y = .nils) (k : ∀ b,(b = true → s = []) → ILS P O N ops l (S.set t (.bool b)) Q) : ILS P O N ops (o :: l) S Q:=by
  intro E β a hr
  refine wpListIn_plain hg fun K hK=>aDV _ (by rw [ho]; rfl) ?_
  have hyv : a.eval y = .slice none 0 0:=by
    have:=hr.op y
    rw [hy] at this
    generalize a.eval y = v at this
    cases this; rfl
  have key : ∃ b : Bool,(b = true → s = []) ∧ (execOp a.eval o).run P E.w = .ok (.value (.bool b)) E.w:=by
    rcases qQ (hx.rd hr) with ⟨hev,hs⟩ | ⟨b,off,cap,sz,vs,hev,_⟩ | ⟨ad,cap,hev,hs⟩
    · refine ⟨true, fun _ => hs, ?_⟩
      have h1:=Lib.run_eql_slice_nil (P:=P) E.w xt e none 0 0 0 0 hu
      simp [execOp,ho,hev,hyv,eqGuard,h1]
    · refine ⟨false, (fun h => by cases h), ?_⟩
      have h1:=Lib.run_eql_slice_nil (P:=P) E.w xt e (some ⟨b,off,none⟩) s.length cap 0 0 hu
      simp [execOp,ho,hev,hyv,eqGuard,h1]
    · refine ⟨false, (fun h => by cases h), ?_⟩
      have h1:=Lib.run_eql_slice_nil (P:=P) E.w xt e (some ad) 0 cap 0 0 hu
      simp [execOp,ho,hev,hyv,eqGuard,h1]
  obtain ⟨b,hb,hrun⟩:=key
  unfold Oper.wp
  rw [hrun]
  simp only [Oper.upon,hd]
  exact hK _ _ (k b hb E β _ (hr.set ht (.bool _ _)))


end
end Go.IL
namespace Go.IL
section
variable {P : Program} {O : cG} {N : Nat} {S S' : St} {o : Oper} {t : Nat} {Q : Exit → St → Prop}

theorem aDb {ds : List D} {off : Nat} {d : D} (h : off < ds.length) : gL ds off [d] = ds.set off d:=by
  rw [gL,List.set_eq_take_append_cons_drop,if_pos h]
  simp

theorem aBz {T : TypeId} {x y : Operand} {z : Option Value} {bytes : Nat} {id off : Nat} {e : TypeId} {ds ds' : List D} {d : D} (ho : o.op = .store T x y) (hd : o.dst = none)
    (hi : TI P T z 1 bytes) (hx : SV S x (.ref id off)) (he : S.ent id = .blk e ds) (hy : SV S y d) (h1 : d.one = true) (hn : off < ds.length) (hds : ds.set off d = ds') : IOp P O N o S (S.setE id (.blk e ds')) :=
  qW ho hd hi hx he hy (by cases d <;> first | rfl | (simp [D.one,D.boxable] at h1)) (by cases d <;> first | rfl | (simp [D.one] at h1)) (by cases d <;> first | (simp [D.cells]; exact h1) | (simp [D.one] at h1)) (by omega)
    (by rw [← hds,← aDb hn]; congr 1; cases d <;> first | rfl | (simp [D.one] at h1))

theorem drop_at {ds : List D} {off : Nat} {d : D} (h : ds[off]? = some d) : ds.drop off = d :: ds.drop (off + 1):=by
  have hlt:=(List.getElem?_eq_some_iff.1 h).1
  rw [List.drop_eq_getElem_cons hlt,(List.getElem?_eq_some_iff.1 h).2]

end
end Go.IL
namespace Go.IL
section
variable {P : Program} {O : cG} {N : Nat} {S S' : St} {o : Oper} {t : Nat} {Q : Exit → St → Prop}

theorem HOk.held_lt {E : Env} {β : bW} {H : Nat → Ent} (h : HOk O E β H) {j b : Nat} (hh : (H j).held = true) (hb : β j = some b) : b < E.w.heap.size:=by
  exact h.lt hh hb

def Src (E : Env) (β : bW) (v : Value) (m : Nat) (es : List D) : Prop :=
  ((v = .slice none 0 0 ∨ ∃ ad cap,v = .slice (some ad) 0 cap) ∧ m = 0 ∧ es = []) ∨ ∃ b off cap us,v = .slice (some ⟨b,off,none⟩) m cap ∧ (∀ j u,us[j]? = some u → E.w.cell? ((⟨b,off,none⟩ : Addr).add j) = some u) ∧ RdL E β us es

theorem rD {T e : TypeId} {x y : Operand} {z : Value} {size bytes n m : Nat} {ds es : List D} {S1 : St} (id' : Nat)
    (ho : o.op = .call { callee:=.builtin .append,args:=#[x,y],argTypes:=#[T,T] }) (hd : o.dst = some t) (ht : t < N)
    (hu : P.underlying T = some (.slice e)) (hi : TI P e (some z) size bytes) (hz : z.cells.size = size) (hsp : 0 < size)
    (hs1 : S1.sl = S.sl) (hs2 : ∀ j,S1.ent j = S.ent j ∨ S1.ent j = .none) (hfr : S.ent id' = .fresh)
    (hx : ∀ E β a,Rel O N S E β a → (a.eval x = .slice none 0 0 ∧ n = 0 ∧ ds = []) ∨ ∃ b cap c vs,a.eval x = .slice (some ⟨b,0,none⟩) n cap ∧ n ≤ cap ∧ cap ≤ maxLen ∧ E.w.heap[b]? = some (.cells c e (0,0)) ∧
      cap * size ≤ c.size ∧ c.toList.take vs.length = vs ∧ RdL E β vs ds ∧ O.own b ∧ (∀ o,E.X b o) ∧ ∀ j,(S1.ent j).held = true → β j ≠ some b)
    (hl : ds.length = n * size) (hy : ∀ E β a,Rel O N S E β a → Src E β (a.eval y) m es) (hes : es.length = m * size) (hone : es.all D.one = true)
    (hm : n + m ≤ maxLen) (hb : (n + m) * bytes ≤ 140737488355328) :
    IOp P O N o S ((S1.setE id' (.blk e (ds ++ es))).set t (.osl id' size (n + m))):=by
  intro E β a hr next Q hn
  obtain ⟨i,hi1,hi2,hi3,hi4⟩:=hi.at
  have hfre : β id' = none:=by have:=hr.h.ent id'; rw [hfr] at this; exact this
  have hrun : ∀ v,(Builtin.append_ #[T,T] o.type #[a.eval x,a.eval y]).run P E.w = v → (execOp a.eval o).run P E.w = v.andThen fun v w'=>.ok (.value v) w':=fun v hv=>by
    simp [execOp,ho,resolve,invoke,builtin,hv]
  have hts : t < a.tmps.size:=hr.n ▸ ht
  let S2 : St:=(S1.setE id' (.blk e (ds ++ es))).set t (.osl id' size (n + m))
  have slots : ∀ (E' : Env) (β' : bW) (v : Value),E.le E' → β.le β' → Rd E' β' v (.osl id' size (n + m)) → ∀ s,Rd E' β' ((a.put (some t) v).tmps.getD s undef) (S2.get s):=by
    intro E' β' v hle hβ hv s
    by_cases hst : t = s
    · subst hst
      simpa [S2,Act.put,St.get,St.set,aX,hts] using hv
    · have := Rd.mono hle hβ (hr.sl s)
      simpa [S2,Act.put,St.get,St.set,St.setE,aX,hst,Array.getElem?_setIfInBounds_ne,hs1] using this
  let β' : Nat → bW:=fun b j=>if j = id' then some b else β j
  have hβ : ∀ b,β.le (β' b):=fun b j k hj=>by
    by_cases hji : j = id'
    · subst hji; rw [hfre] at hj; cases hj
    · simp [β',hji,hj]
  have hsame : ∀ j,j ≠ id' → S2.ent j = S1.ent j:=fun j hj=>by simp [S2,St.ent,entL,St.setE,St.set,aX,Ne.symm hj]
  have hother : ∀ b j,j ≠ id' → (S2.ent j = S.ent j ∧ β' b j = β j) ∨ S2.ent j = .none:=by
    intro b j hj
    rw [hsame j hj]
    rcases hs2 j with h | h
    · exact .inl ⟨h,by simp [β',hj]⟩
    · exact .inr h
  have hheld : ∀ j,j ≠ id' → (S2.ent j).held = true → (S1.ent j).held = true:=fun j hj h=>by rw [← hsame j hj]; exact h
  have hheld0 : ∀ j,(S1.ent j).held = true → (S.ent j).held = true:=fun j h=>by
    rcases hs2 j with h1 | h1
    · rw [← h1]; exact h
    · rw [h1] at h; cases h
  have hentid : S2.ent id' = .blk e (ds ++ es):=by simp [S2,St.ent,entL,St.setE,St.set,aX]
  have fresh : ∀ (vs us : List Value) (cap : Nat),RdL E β vs ds → RdL E β us es → n + m ≤ cap → cap ≤ maxLen →
      (Builtin.append_ #[T,T] o.type #[a.eval x,a.eval y]).run P E.w = .ok (.slice (some ⟨E.w.heap.size,0,none⟩) (n + m) cap) (E.w.drew.alloc (.cells (vs.toArray ++ us.toArray ++ Builtin.zeroCells z.cells (cap - (n + m))) e)) →
      o.wp P a E.w next Q:=by
    intro vs us cap hvs hus hcap hcm hra
    unfold Oper.wp
    rw [hrun _ hra]
    simp only [Result.andThen_ok,Oper.upon,hd]
    let E' : Env:=⟨E.w.drew.alloc (.cells (vs.toArray ++ us.toArray ++ Builtin.zeroCells z.cells (cap - (n + m))) e),fun b o=>b = E.w.heap.size ∨ E.X b o⟩
    have hs : Step O E E' E.w.heap.size :=
      ⟨rfl,rfl,rfl,by simp [E'],by simp [E'],.inl hr.h.size,fun k hk _=>heap_alloc_old E.w.drew _ hk,fun k o hk=>by simp [E',hk],fun _ h=>Nat.lt_irrefl _ (dI h)⟩
    have hle : E.le E':=hs.le (fun o v h1 _=>by have:=World.block_lt_of_cell? _ _ h1; simp at this) (fun c e f h1=>by have:=dI h1; simp at this)
    have hnew : E'.w.heap[E.w.heap.size]? = some (.cells (vs.toArray ++ us.toArray ++ Builtin.zeroCells z.cells (cap - (n + m))) e (0,0)):=heap_alloc_new E.w.drew _
    have hvl:=hvs.length
    have hul:=hus.length
    have hvs':=(RdL.mono hle (hβ E.w.heap.size) hvs).append (RdL.mono hle (hβ E.w.heap.size) hus)
    refine hn E' (β' E.w.heap.size) _ ⟨by simp [Act.put,hr.n],hr.nd.step hs,?_,slots E' _ _ hle (hβ _) ?_⟩
    · refine HOk.put hr.h hs hle (hβ _) (fun j hj => hother _ j hj) ?_ (id := id') (by simp [β']) ?_ (fun _ _ => trivial)
      · intro j hj hh hbj
        have:=hr.h.held_lt (hheld0 j (hheld j hj hh)) hbj
        omega
      · rw [hentid]
        exact ⟨vs ++ us,(Builtin.zeroCells z.cells (cap - (n + m))).toList,by rw [hnew]; simp,fun o=>.inl rfl,hvs'⟩
    · exact .osl _ _ E.w.heap.size _ cap size (by simp [β']) hcap hsp _ _ _ hnew
        (by simp only [Array.size_append,List.size_toArray,size_zeroCells,hz,hvl,hul,hl,hes]; rw [← Nat.add_mul,← Nat.add_mul]; exact Nat.mul_le_mul_right _ (by omega)) hcm
  have nothing : m = 0 → es = [] → (a.eval y = .slice none 0 0 ∨ ∃ b c',a.eval y = .slice (some b) 0 c') → o.wp P a E.w next Q:=by
    intro hm0 he0 hyv
    subst hm0 he0
    rcases hx E β a hr with ⟨hxv,rfl,rfl⟩ | ⟨b,cap,c,vs,hxv,hnc,hcm,hc,hcs,hvt,hvs,hown,hX,hap⟩
    · have hra := kB (P := P) (w := E.w) (ty := o.type) hu hi none 0 0 (Nat.le_refl _) _ hyv
      unfold Oper.wp
      rw [← hxv] at hra
      rw [hrun _ hra]
      simp only [Result.andThen_ok,Oper.upon,hd]
      refine hn E β _ ⟨by simp [Act.put,hr.n],hr.nd,?_,slots E β _ (Env.le.refl _) (bW.le.refl _) (by rw [hxv]; exact .nosl _ _ _)⟩
      refine { hr.h with ent:=fun j=>?_,inj:=fun j k b hj hk h1 h2=>?_ }
      · show aBU O E β j (S2.ent j)
        by_cases hj : j = id'
        · subst hj; rw [hentid]; exact .inl ⟨hfre,rfl⟩
        · rcases hother 0 j hj with ⟨h, _⟩ | h
          · rw [h]; exact hr.h.ent j
          · rw [h]; trivial
      · have hnj : ∀ j b, (S2.ent j).held = true → β j = some b → (S.ent j).held = true := by
          intro j b hh hb
          have hj : j ≠ id':=by rintro rfl; rw [hfre] at hb; cases hb
          exact hheld0 j (hheld j hj hh)
        exact hr.h.inj j k b (hnj j b hj h1) (hnj k b hk h2) h1 h2
    · have hra := kB (P := P) (w := E.w) (ty := o.type) hu hi (some ⟨b, 0, none⟩) n cap hnc _ hyv
      unfold Oper.wp
      rw [← hxv] at hra
      rw [hrun _ hra]
      simp only [Result.andThen_ok,Oper.upon,hd]
      have hs : Step O E E b:=⟨rfl,rfl,rfl,Nat.le_refl _,dI hc,hown,fun _ _ _=>rfl,fun _ _ _=>Iff.rfl,fun _ h=>by first | (rw [hc] at h; cases h) | (rw [hh] at h; cases h)⟩
      refine hn E (β' b) _ ⟨by simp [Act.put,hr.n],hr.nd,?_,slots E _ _ (Env.le.refl _) (hβ _) ?_⟩
      · refine HOk.put hr.h hs (Env.le.refl _) (hβ _) (fun j hj => hother _ j hj) (fun j hj hh => hap j (hheld j hj hh)) (id := id') (by simp [β']) ?_ (fun _ _ => trivial)
        rw [hentid]
        refine ⟨vs,c.toList.drop vs.length,?_,hX,by rw [List.append_nil]; exact RdL.mono (Env.le.refl _) (hβ _) hvs⟩
        rw [hc]; congr 2
        apply Array.ext'; simp only [List.toList_toArray]
        conv=>lhs; rw [← List.take_append_drop vs.length c.toList]
        rw [hvt]
      · rw [hxv]
        exact .osl _ _ b _ cap size (by simp [β']) hnc hsp _ _ _ hc hcs hcm
  rcases hy E β a hr with ⟨hyv,hm0,he0⟩ | ⟨yb,yoff,ycap,us,hyv,hyr,hus⟩
  · exact nothing hm0 he0 hyv
  · by_cases hemp : m = 0
    · exact nothing hemp (List.length_eq_zero_iff.1 (by rw [hes,hemp,Nat.zero_mul])) (.inr ⟨_,_,by subst hemp; exact hyv⟩)
    · have hne : 0 < m := by omega
      have hul : us.length = m * i.size:=by rw [hus.length,hes,hi3]
      rcases hx E β a hr with ⟨hxv,rfl,rfl⟩ | ⟨b,cap,c,vs,hxv,hnc,hcm,hc,hcs,hvt,hvs,hown,hX,hap⟩
      · have hra := run_append_nil (P := P) E.w T o.type e i z hu hi1 hi2 ⟨yb, yoff, none⟩ m ycap us hul hyr hne (by simp [maxLen] at hm; omega) (by rw [hi4]; simp at hb; omega)
        refine fresh [] us (grownCap E.w m 0 e) (.nil _) hus (by simpa using grownCap_ge _ _ _ _) (grownCap_le_maxLen _ _ _ _ (by simpa using hm)) ?_
        rw [hxv,hyv]
        simpa using hra
      · have hvl : vs.length = n * i.size := by rw [hvs.length, hl, hi3]
        by_cases hroom : n + m ≤ cap
        · have hvt' : c.toList.take (n * i.size) = vs := by rw [← hvl]; exact hvt
          have hfit : n * i.size + us.length ≤ c.size:=by rw [hul,hi3,← Nat.add_mul]; exact Nat.le_trans (Nat.mul_le_mul_right _ hroom) hcs
          have hra:=run_append_room (P:=P) E.w T o.type e i hu hi1 b n cap c hc ⟨yb,yoff,none⟩ m ycap us hul hyr (yX hus hone) hroom hfit
          rw [hvt'] at hra
          unfold Oper.wp
          rw [← hxv,← hyv] at hra
          rw [hrun _ hra]
          simp only [Result.andThen_ok,Oper.upon,hd]
          let E' : Env:=⟨E.w.setRow b (vs ++ us ++ c.toList.drop (n * i.size + us.length)).toArray,E.X⟩
          have hs : Step O E E' b:=⟨rfl,rfl,rfl,by simp [E'],by simpa [E'] using dI hc,hown,fun k _ hk=>setRow_other _ _ _ _ hk,fun k o hk=>Iff.rfl,fun _ h=>by first | (rw [hc] at h; cases h) | (rw [hh] at h; cases h)⟩
          have hnew : E'.w.heap[b]? = some (.cells (vs ++ us ++ c.toList.drop (n * i.size + us.length)).toArray e (0,0)):=setRow_heap _ _ _ _ _ _ hc
          have hsz : (vs ++ us ++ c.toList.drop (n * i.size + us.length)).toArray.size = c.size:=by
            simp [hvl]; omega
          have hle : E.le E':=hs.le (fun o v _ h2=>absurd (hX o) h2) (fun c' e' f' h1=>by rw [hc] at h1; cases h1; exact ⟨_,_,hnew,hsz⟩)
          have hvs':=(RdL.mono hle (hβ b) hvs).append (RdL.mono hle (hβ b) hus)
          refine hn E' (β' b) _ ⟨by simp [Act.put,hr.n],hr.nd.step hs,?_,slots E' _ _ hle (hβ _) ?_⟩
          · refine HOk.put hr.h hs hle (hβ _) (fun j hj => hother _ j hj) (fun j hj hh => hap j (hheld j hj hh)) (id := id') (by simp [β']) ?_ (fun _ _ => trivial)
            rw [hentid]
            exact ⟨vs ++ us,_,hnew,hX,hvs'⟩
          · exact .osl _ _ b _ cap size (by simp [β']) hroom hsp _ _ _ hnew (by rw [hsz]; exact hcs) hcm
        · have hxr : ∀ j u, vs[j]? = some u → E.w.cell? ((⟨b, 0, none⟩ : Addr).add j) = some u := fun j u hj => by
            rw [kC,Nat.zero_add,cell_of_row _ _ _ _ _ _ hc,← Array.getElem?_toList]
            have hlt:=(List.getElem?_eq_some_iff.1 hj).1
            have h1 : (c.toList.take vs.length)[j]? = some u:=by rw [hvt]; exact hj
            rwa [List.getElem?_take,if_pos hlt] at h1
          have hra:=run_append_grow (P:=P) E.w T o.type e i z hu hi1 hi2 ⟨b,0,none⟩ n cap vs hvl hxr ⟨yb,yoff,none⟩ m ycap us hul hyr (by omega) (by simp [maxLen] at hm; omega) (growslice_fits (by omega) (by rw [hi4]; exact hb))
          refine fresh vs us (grownCap E.w (n + m) cap e) hvs hus (grownCap_ge _ _ _ _) (grownCap_le_maxLen _ _ _ _ hm) ?_
          rw [hxv,hyv]
          exact hra

theorem aEQ {y : Operand} {f : Bool} {ys : List D} (hy : SV S y (.slice f ys)) : ∀ E β a,Rel O N S E β a → Src E β (a.eval y) ys.length (D.flat ys):=by
  intro E β a hr
  rcases qQ (hy.rd hr) with ⟨hyv,rfl⟩ | ⟨yb,yoff,ycap,ysz,us,hyv,hyc,_,hyz,hysp,hyrow,hus⟩ | ⟨ad,ycap,hyv,rfl⟩
  · exact .inl ⟨.inl hyv,rfl,rfl⟩
  rotate_left
  · exact .inl ⟨.inr ⟨_,_,hyv⟩,rfl,rfl⟩
  · exact .inr ⟨yb,yoff,ycap,us,hyv,fun j u hj=>by rw [kC]; exact (hyrow j u hj).1,RdL.mono (Env.le.refl _) (fun _ _ h=>by cases h) hus⟩
theorem src_osl {y : Operand} {id sz m : Nat} {e : TypeId} {es : List D} (hy : S.op y = .osl id sz m) (he : S.ent id = .blk e es) (hm : es.length = m * sz) (hsz : 0 < sz) : ∀ E β a,Rel O N S E β a → Src E β (a.eval y) m es:=by
  intro E β a hr
  have hv:=hr.op y
  rw [hy] at hv
  have hent:=hr.h.ent id
  rw [he] at hent
  generalize a.eval y = v at hv
  cases hv with
  | nosl=>exact .inl ⟨.inl rfl,rfl,List.length_eq_zero_iff.1 (by rw [hm,Nat.zero_mul])⟩
  | osl _ _ b _ cap _ hb hc _ c e' f h1 h2 h3 =>
    obtain ⟨vs,sp,_,hh,_,hl⟩:=vP hent hb
    exact .inr ⟨b,0,cap,vs,rfl,fun j u hj=>by
      rw [kC,Nat.zero_add,cell_of_row _ _ _ _ _ _ hh]
      have hlt:=(List.getElem?_eq_some_iff.1 hj).1
      simpa [List.getElem?_append_left hlt] using hj,hl⟩

theorem aB5 {T e : TypeId} {x y : Operand} {z : Value} {size bytes n m k : Nat} {ds es ds' : List D} {id : Nat} (id' : Nat)
    (ho : o.op = .call { callee:=.builtin .append,args:=#[x,y],argTypes:=#[T,T] }) (hd : o.dst = some t) (ht : t < N)
    (hu : P.underlying T = some (.slice e)) (hi : TI P e (some z) size bytes) (hz : z.cells.size = size) (hsp : 0 < size)
    (hx : S.op x = .osl id size n) (he : S.ent id = .blk e ds) (hfr : S.ent id' = .fresh) (hl : ds.length = n * size)
    (hy : ∀ E β a,Rel O N S E β a → Src E β (a.eval y) m es) (hes : es.length = m * size) (hone : es.all D.one = true)
    (hm : n + m ≤ maxLen) (hb : (n + m) * bytes ≤ 140737488355328) (hds : ds ++ es = ds') (hk : n + m = k) :
    IOp P O N o S (((S.setE id .none).setE id' (.blk e ds')).set t (.osl id' size k)):=by
  subst hds hk
  refine rD (S1:=S.setE id .none) id' ho hd ht hu hi hz hsp rfl ?_ hfr ?_ hl hy hes hone hm hb
  · intro j
    by_cases hj : id = j
    · subst hj; right; simp [St.ent,entL,St.setE,aX]
    · left; simp [St.ent,entL,St.setE,aX,hj]
  · intro E β a hr
    have hv:=hr.op x
    rw [hx] at hv
    have hent:=hr.h.ent id
    rw [he] at hent
    generalize hev : a.eval x = v at hv
    cases hv with
    | nosl=>exact .inl ⟨rfl,rfl,List.length_eq_zero_iff.1 (by rw [hl,Nat.zero_mul])⟩
    | osl _ _ b _ cap _ hβ hc _ c e' f' h1 h2 h3 =>
      right
      obtain ⟨vs,sp,hown,hh,hX,hvs⟩:=vP hent hβ
      rw [hh] at h1; cases h1
      refine ⟨b,cap,_,vs,rfl,hc,h3,hh,h2,by simp,hvs,hown,hX,?_⟩
      intro j hj hb
      by_cases hji : id = j
      · subst hji; simp [St.ent,entL,St.setE,aX,Ent.held] at hj
      · have hj' : (S.ent j).held = true := by simpa [St.ent, entL, St.setE, aX, hji] using hj
        exact hji (hr.h.inj id j b (by rw [he]; rfl) hj' hβ hb)

theorem zZ {T e : TypeId} {x y : Operand} {z : Value} {size bytes m : Nat} {es : List D} (id' : Nat)
    (ho : o.op = .call { callee:=.builtin .append,args:=#[x,y],argTypes:=#[T,T] }) (hd : o.dst = some t) (ht : t < N)
    (hu : P.underlying T = some (.slice e)) (hi : TI P e (some z) size bytes) (hz : z.cells.size = size) (hsp : 0 < size)
    (hx : S.op x = .nils) (hfr : S.ent id' = .fresh)
    (hy : ∀ E β a,Rel O N S E β a → Src E β (a.eval y) m es) (hes : es.length = m * size) (hone : es.all D.one = true)
    (hm : m ≤ maxLen) (hb : m * bytes ≤ 140737488355328) :
    IOp P O N o S ((S.setE id' (.blk e es)).set t (.osl id' size m)):=by
  have:=rD (P:=P) (O:=O) (N:=N) (n:=0) (ds:=[]) (S1:=S) id' ho hd ht hu hi hz hsp rfl (fun j=>.inl rfl) hfr ?_ (by simp) hy hes hone (by simpa using hm) (by simpa using hb)
  · simpa using this
  · intro E β a hr
    have hv:=hr.op x
    rw [hx] at hv
    generalize hev : a.eval x = v at hv
    cases hv
    exact .inl ⟨rfl,rfl,rfl⟩

theorem aBE {T e : TypeId} {x y : Operand} {len sz : Nat} {k : IntKind} {n : Int} {z : Option Value} {bytes : Nat} {id off' : Nat} (ho : o.op = .indexAddr T x y) (hd : o.dst = some t) (ht : t < N)
    (hu : P.underlying T = some (.slice e)) (hi : TI P e z sz bytes) (hx : SV S x (.osl id sz len)) (hy : SV S y (.int k n)) (h0 : 0 ≤ n) (hn : n.toNat < len) (ho' : n.toNat * sz = off') :
    IOp P O N o S (S.set t (.ref id off')) :=
  eY hd ht fun E β a hr=>by
    have hv:=hx.rd hr
    generalize hev : a.eval x = v at hv
    cases hv with
    | nosl=>omega
    | osl _ _ b _ cap _ hb hc =>
      refine ⟨.pointer (some ⟨b,off',none⟩),?_,.ref _ _ _ _ hb⟩
      have h1:=jU (hy.rd hr)
      have h2 : n < (len : Int):=by omega
      subst ho'
      simp [execOp,ho,hev,h1,Instr.indexAt,asIntOf,run_underlying hu,h0,h2,hi.run_size,kC]

theorem aCk {T e : TypeId} {x : Operand} {id sz len : Nat} {n : Int} (ho : o.op = .call { callee:=.builtin .len,args:=#[x],argTypes:=#[T] }) (hd : o.dst = some t) (ht : t < N) (hu : P.underlying T = some (.slice e))
    (hx : SV S x (.osl id sz len)) (hn : (len : Int) = n) : IOp P O N o S (S.set t (.int .i64 n)) :=
  eY hd ht fun E β a hr=>⟨.int .i64 n,by
    subst hn
    have hv:=hx.rd hr
    generalize hev : a.eval x = v at hv
    cases hv <;> simp [execOp,ho,resolve,invoke,builtin,Builtin.len_,run_underlying hu,hev,goInt],.int _ _ _⟩

theorem svno {x : Operand} {id sz : Nat} (h : S.op x = .nils) : SV S x (.osl id sz 0):=fun E β v k=>by
  rw [h] at k; cases k; exact .nosl _ _ _

theorem aAd {e : TypeId} {sz n : Nat} {ds : List D} (id : Nat) (hd : o.dst = some t) (ht : t < N) (hf : S.ent id = .fresh) (hlen : ds.length = n * sz) (hsp : 0 < sz) (hmax : n ≤ maxLen)
    (h : ∀ E β a,Rel O N S E β a → ∃ vs : List Value,(execOp a.eval o).run P E.w = .ok (.value (.slice (some ⟨E.w.heap.size,0,none⟩) n n)) (E.w.alloc (.cells vs.toArray e)) ∧ RdL E β vs ds) :
    IOp P O N o S ((S.setE id (.blk e ds)).set t (.osl id sz n)):=by
  intro E β a hr next Q hn
  obtain ⟨vs,hrun,hv⟩:=h E β a hr
  unfold Oper.wp
  rw [hrun]
  simp only [Oper.upon,hd]
  have hfr : β id = none:=by have:=hr.h.ent id; rw [hf] at this; exact this
  let E' : Env:=⟨E.w.alloc (.cells vs.toArray e),fun b o=>b = E.w.heap.size ∨ E.X b o⟩
  let β' : bW:=fun j=>if j = id then some E.w.heap.size else β j
  have hβ : β.le β':=fun j b hj=>by
    by_cases hji : j = id
    · subst hji; rw [hfr] at hj; cases hj
    · simp [β',hji,hj]
  have hs : Step O E E' E.w.heap.size :=
    ⟨rfl,rfl,rfl,by simp [E'],by simp [E'],.inl hr.h.size,fun k hk _=>heap_alloc_old _ _ hk,fun k o hk=>by simp [E',hk],fun _ h=>Nat.lt_irrefl _ (dI h)⟩
  have hle : E.le E':=hs.le (fun o v h1 _=>by have:=World.block_lt_of_cell? _ _ h1; simp at this) (fun c e f h1=>by have:=dI h1; simp at this)
  refine hn E' β' _ ⟨by simp [Act.put,hr.n],hr.nd.step hs,?_,?_⟩
  · refine HOk.put hr.h hs hle hβ ?_ ?_ (id := id) (by simp [β']) ?_ (fun _ _ => trivial)
    · intro j hj; left; constructor
      · simp [St.ent,entL,St.setE,St.set,aX,Ne.symm hj]
      · simp [β',hj]
    · intro j hj hheld hb
      have : (S.ent j).held = true:=by simpa [St.ent,entL,St.setE,St.set,aX,Ne.symm hj] using hheld
      have:=hr.h.held_lt this hb
      omega
    · simp only [St.ent, entL, St.setE, St.set, aX, if_true]
      exact ⟨vs,[],by rw [List.append_nil]; exact heap_alloc_new _ _,fun o=>.inl rfl,RdL.mono hle hβ hv⟩
  · intro s
    have hts : t < a.tmps.size:=hr.n ▸ ht
    by_cases hst : t = s
    · subst hst
      simp only [Act.put,St.get,St.set,aX,if_true,Array.getD_eq_getD_getElem?,Array.getElem?_setIfInBounds_self,hts,Option.getD_some]
      exact .osl _ _ E.w.heap.size _ n sz (by simp [β']) (Nat.le_refl _) hsp _ _ _ (heap_alloc_new E.w _) (by simp [hv.length,hlen]) hmax
    · have := Rd.mono hle hβ (hr.sl s)
      simpa [Act.put,St.get,St.set,St.setE,aX,hst,Array.getElem?_setIfInBounds_ne] using this

theorem xP {T e : TypeId} {len esz eb : Nat} {ez : Value} {ps : List (Nat × Operand)} {dps : List (Nat × D)} {ds : List D} (id : Nat) (ho : o.op = .buildSlice T len ps.toArray) (hd : o.dst = some t) (ht : t < N)
    (hu : P.underlying T = some (.slice e)) (he : TI P e (some ez) esz eb) (hsp : 0 < esz) (hf : S.ent id = .fresh) (hx : PVs S ps dps)
    (hfill : aAO (fun i=>some (i * esz,esz)) (List.replicate (len * esz) .dead) dps = some ds) (hl : ds.length = len * esz) (hb : len * esz ≤ 2 ^ 24) :
    IOp P O N o S ((S.setE id (.blk e ds)).set t (.osl id esz len)):=by
  refine aAd id hd ht hf hl hsp (by have : len ≤ len * esz:=Nat.le_mul_of_pos_right _ hsp; simp only [maxLen]; omega) fun E β a hr=>?_
  obtain ⟨i,h1,h2,h3,_⟩:=he.at
  let init : Array Value:=(Array.range (len * esz)).map fun k=>(if len * esz = 0 then #[] else ez.cells)[k % (if len * esz = 0 then #[] else ez.cells).size]!
  have hinit : RdL E β init.toList (List.replicate (len * esz) .dead):=by
    have:=xU E β init.toList
    rwa [show init.toList.length = len * esz by simp [init]] at this
  obtain ⟨cells,h4,h5⟩:=aAF hr hx hinit hfill
  have hcl : cells.size = len * esz:=by have:=h5.length; rw [hl] at this; simpa using this
  refine ⟨cells.toList,?_,h5⟩
  have hb' : ¬ (2 ^ 24 < len * esz):=by omega
  simp only [execOp,ho,Instr.buildSlice,Sem.run_bind,run_underlying hu,Result.andThen_ok,he.run_size]
  rw [if_neg (by simpa using hb')]
  by_cases h0 : len * esz = 0
  · have h4' := h4
    simp only [init,h0,if_true] at h4' ⊢
    simp at h4'
    simp [h4',newRow]
  · have h4' := h4
    simp only [init,h0,if_false] at h4' ⊢
    simp [zeroValue,typeInfo,h1,h2,h4',newRow]

end
end Go.IL
namespace Go.IL
section
variable {P : Program} {O : cG} {N : Nat} {S S' : St} {o : Oper} {t : Nat} {Q : Exit → St → Prop}

def aDI (u : Option TypeDesc) (d e : D) : Option Bool :=
  match u,d,e with
  | some (.int _),.int k a,.int k' b=>if k = k' then some (decide (a = b)) else none
  | some .bool,.bool a,.bool b=>some (a == b)
  | some .string,.str a,.str b=>some (decide (a = b))
  | _,_,_=>none
def aAG (P : Program) (ds es : List D) : List Field → Option Bool
  | []=>some true
  | f :: fs =>
    if f.name = "_" then none else
    match ds[f.offset]?,es[f.offset]? with
    | some d, some e => match aDI (P.underlying f.type) d e with
      | some b=>(aAG P ds es fs).map (b && ·)
      | none=>none
    | _,_=>none

theorem bs_eq (a b : List UInt8) : (bs a == bs b) = decide (a = b):=by
  show ((bs a).data == (bs b).data) = _
  simp [bs]; exact Bool.beq_eq_decide_eq _ _

theorem aAU {w : World} {E : Env} {β β' : bW} {T : TypeId} {x y : Value} {d e : D} {b : Bool} (n : Nat) (h : aDI (P.underlying T) d e = some b) (hx : Rd E β x d) (hy : Rd E β' y e) :
    (Op.equalIn (n + 1) T x y).run P w = .ok b w ∧ (isAgg T).run P w = .ok false w:=by
  unfold aDI at h
  split at h
  · rename_i k k1 a k2 c hu
    cases hx; cases hy
    split at h
    · rename_i hk; subst hk; cases h
      exact ⟨by simp [Op.equalIn,run_underlying hu,Bool.beq_eq_decide_eq],by simp [isAgg,run_underlying hu]⟩
    · cases h
  · rename_i a c hu
    cases hx; cases hy; cases h
    exact ⟨by simp [Op.equalIn,run_underlying hu],by simp [isAgg,run_underlying hu]⟩
  · rename_i a c hu
    cases hx; cases hy; cases h
    exact ⟨by simp [Op.equalIn,run_underlying hu,bs_eq],by simp [isAgg,run_underlying hu]⟩
  · cases h

theorem yU {w : World} {E : Env} {β β' : bW} {xs ys : List Value} {ds es : List D} (n : Nat) (hx : RdL E β xs ds) (hy : RdL E β' ys es) : ∀ (fs : List Field) {b : Bool}, aAG P ds es fs = some b →
    (Op.eqFields (n + 1) xs.toArray ys.toArray fs).run P w = .ok b w
  | [],b,h=>by simp only [aAG,Option.some.injEq] at h; subst h; simp [Op.eqFields]
  | f :: fs, b, h => by
    unfold aAG at h
    split at h
    · cases h
    · rename_i hn
      split at h
      · rename_i d e hd he
        split at h
        · rename_i b1 hb1
          simp only [Option.map_eq_some_iff] at h
          obtain ⟨b2,h2,rfl⟩:=h
          have hxl : f.offset < xs.length:=by rw [hx.length]; exact (List.getElem?_eq_some_iff.1 hd).1
          have hyl : f.offset < ys.length:=by rw [hy.length]; exact (List.getElem?_eq_some_iff.1 he).1
          have rx:=hx.get f.offset (v:=xs[f.offset]) (by simp [hxl]) hd
          have ry:=hy.get f.offset (v:=ys[f.offset]) (by simp [hyl]) he
          obtain ⟨g1,g2⟩:=aAU (P:=P) (w:=w) n hb1 rx ry
          have p1 : (part f.type xs.toArray f.offset).run P w = .ok xs[f.offset] w:=by simp [part,g2,hxl]
          have p2 : (part f.type ys.toArray f.offset).run P w = .ok ys[f.offset] w:=by simp [part,g2,hyl]
          have ih:=yU (w:=w) n hx hy fs h2
          simp only [Op.eqFields,hn,ne_eq,not_false_eq_true,if_true,Sem.run_bind,p1,p2,g1,Result.andThen_ok]
          cases b1
          · simp
          · simpa using ih
        · cases h
      · cases h

theorem aFC {xt yt : TypeId} {x y : Operand} {fs : Array Field} {ds es : List D} {b : Bool} (ho : o.op = .binOp .neq xt x y yt) (hd : o.dst = some t) (ht : t < N) (hu : P.underlying xt = some (.struct fs))
    (hs : P.stoodInHeld xt = false) (hg : P.eqGuardType P.depth xt = false) (hx : SV S x (.agg ds)) (hy : SV S y (.agg es)) (hb : aAG P ds es fs.toList = some b) : IOp P O N o S (S.set t (.bool !b)) :=
  eY hd ht fun E β a hr => by
    have h1:=hx.rd hr
    have h2:=hy.rd hr
    generalize hv1 : a.eval x = v1 at h1
    generalize hv2 : a.eval y = v2 at h2
    cases h1 with
    | agg _ vs1 _ r1 => cases h2 with
      | agg _ vs2 _ r2 =>
        have hf : P.fieldsOf xt = fs:=by simp [Program.fieldsOf,hu]
        have h3:=run_equalIn_struct (P:=P) E.w 9999 xt vs1.toArray vs2.toArray (by rw [hf]; exact hu) hs
        rw [hf,yU 9998 r1 r2 fs.toList hb] at h3
        have h4 : (Op.equal xt (.agg vs1.toArray) (.agg vs2.toArray)).run P E.w = .ok b E.w:=h3
        exact ⟨.bool !b,by simp [execOp,ho,hv1,hv2,eqGuard,hg,binOp,h4],.bool _ _⟩
end
end Go.IL
namespace Go.IL

mutual
inductive Sub : D → D → Prop
  | refl (d) : Sub d d
  | nils (f) : Sub .nils (.slice f [])
  | full (l) : Sub (.slice true l) (.slice false l)
  | gsl (id sz l) : Sub (.gsl id sz l) (.slice false l)
  | dead (d) : Sub d .dead
  | nilp : Sub .nilp (.optp false)
  | refp (id off) : Sub (.ref id off) (.optp true)
  | agg {cs cs'} (h : SubL cs cs') : Sub (.agg cs) (.agg cs')
  | tuple {cs cs'} (h : SubL cs cs') : Sub (.tuple cs) (.tuple cs')
  | fn {f cs cs'} (h : SubL cs cs') : Sub (.fn f cs) (.fn f cs')
inductive SubL : List D → List D → Prop
  | nil : SubL [] []
  | cons {d d' ds ds'} (h : Sub d d') (t : SubL ds ds') : SubL (d :: ds) (d' :: ds')
end
mutual
theorem Rd.sub {E : Env} {β : bW} : ∀ {v : Value} {d d' : D},Sub d d' → Rd E β v d → Rd E β v d'
  | _,_,_,.refl _,h=>h
  | _,_,_,.nils f,.nils _=>.nslice _ f
  | _,_,_,.full l,.slice _ b off len cap sz _ vs _ hl hc hf hz hsz hr hv=>.slice _ b off len cap sz false vs l hl hc (fun h=>by cases h) hz hsz hr hv
  | _,_,_,.full _,.nslice _ _=>.nslice _ false
  | _,_,_,.full _,.eslice _ a c _ _=>.eslice _ a c false (fun h=>by cases h)
  | _,_,_,.gsl _ _ l,.gsl _ _ b len cap sz vs _ _ hl hc hz hsz hr hv _ _ _ _ _ _=>.slice _ b 0 len cap sz false vs l hl hc (fun h=>by cases h) hz hsz hr hv
  | _,_,_,.gsl _ _ _,.ngsl _ _ _=>.nslice _ false
  | _,_,_,.dead _,_=>.dead _ _
  | _,_,_,.nilp,.nilp _=>.optp0 _
  | _,_,_,.refp _ _,.ref _ _ _ _ _=>.optp1 _ _
  | _,_,_,.agg h,.agg _ vs _ hv=>.agg _ vs _ (RdL.sub h hv)
  | _,_,_,.tuple h,.tuple _ vs _ hv=>.tuple _ vs _ (RdL.sub h hv)
  | _,_,_,.fn h,.fn _ f vs _ hv=>.fn _ f vs _ (RdL.sub h hv)
theorem RdL.sub {E : Env} {β : bW} : ∀ {vs : List Value} {ds ds' : List D},SubL ds ds' → RdL E β vs ds → RdL E β vs ds'
  | _,_,_,.nil,.nil _=>.nil _
  | _,_,_,.cons h t,.cons hv tv=>.cons (Rd.sub h hv) (RdL.sub t tv)
end

section
variable {P : Program} {O : cG} {N : Nat} {S S' : St} {o : Oper} {t : Nat} {Q : Exit → St → Prop}
theorem SV.sub {x : Operand} {d d' : D} (h : SV S x d) (k : Sub d d') : SV S x d':=fun E β v hv=>Rd.sub k (h E β v hv)

theorem Rel.subS {E : Env} {β : bW} {a : Act} (h : Rel O N S E β a) {d d' : D} (hS : S.get t = d) (k : Sub d d') : Rel O N (S.set t d') E β a:=by
  refine ⟨h.n,h.nd,h.h,fun s=>?_⟩
  by_cases hs : t = s
  · subst hs
    have h1:=h.sl t
    rw [hS] at h1
    simpa [St.get,St.set,aX] using Rd.sub k h1
  · have := h.sl s
    simpa [St.get,St.set,aX,hs] using this
theorem Rel.subE {E : Env} {β : bW} {a : Act} (h : Rel O N S E β a) {id : Nat} {e : TypeId} {ds ds' : List D} (hE : S.ent id = .blk e ds) (k : SubL ds ds') : Rel O N (S.setE id (.blk e ds')) E β a:=by
  have hsame : ∀ j,j ≠ id → (S.setE id (.blk e ds')).ent j = S.ent j:=fun j hj=>by simp [St.ent,entL,St.setE,aX,Ne.symm hj]
  have hid : (S.setE id (.blk e ds')).ent id = .blk e ds':=by simp [St.ent,entL,St.setE,aX]
  have hheld : ∀ j,((S.setE id (.blk e ds')).ent j).held = true → (S.ent j).held = true:=fun j hj=>by
    by_cases h1 : j = id
    · subst h1; rw [hE]; rfl
    · rw [← hsame j h1]; exact hj
  refine ⟨h.n,h.nd,?_,h.sl⟩
  refine { h.h with ent:=fun j=>?_,inj:=fun i j b hi hj h1 h2=>h.h.inj i j b (hheld i hi) (hheld j hj) h1 h2 }
  by_cases hj : j = id
  · subst hj
    have he:=h.h.ent j
    rw [hE] at he
    rw [hid]
    rcases he with ⟨h1,h2⟩ | ⟨b,vs,sp,h1,h2,h3,h4,h5⟩
    · subst h2; cases k; exact .inl ⟨h1,rfl⟩
    · exact .inr ⟨b,vs,sp,h1,h2,h3,h4,RdL.sub k h5⟩
  · rw [hsame j hj]; exact h.h.ent j
end
end Go.IL
namespace Go.IL

def blen (n : Nat) : Nat:=if n = 0 then 0 else n.log2 + 1
theorem sJ {n m : Nat} : blen n ≤ m ↔ n < 2 ^ m:=by
  unfold blen
  by_cases h : n = 0
  · subst h; simp; exact Nat.pow_pos (by decide)
  · simp only [h, if_false]
    rw [Nat.succ_le_iff,Nat.log2_lt h]
theorem aGj {n k : Nat} (h : 2 ^ k ≤ n) : blen n = k + blen (n / 2 ^ k) := by
  have hp : 0 < 2 ^ k:=Nat.pow_pos (by decide)
  have key : ∀ m,blen n ≤ m ↔ k + blen (n / 2 ^ k) ≤ m:=fun m=>by
    rw [sJ]
    constructor
    · intro h1
      have hk : k ≤ m:=by
        apply Nat.le_of_not_lt; intro h2
        have : 2 ^ m ≤ 2 ^ k:=Nat.pow_le_pow_right (by decide) (Nat.le_of_lt h2)
        omega
      have : blen (n / 2 ^ k) ≤ m - k:=sJ.2 (by
        rw [Nat.div_lt_iff_lt_mul hp,← Nat.pow_add,Nat.sub_add_cancel hk]; exact h1)
      omega
    · intro h1
      have h2 : blen (n / 2 ^ k) ≤ m - k:=by omega
      have h3:=sJ.1 h2
      rw [Nat.div_lt_iff_lt_mul hp,← Nat.pow_add,Nat.sub_add_cancel (by omega)] at h3
      exact h3
  exact Nat.le_antisymm ((key _).2 (Nat.le_refl _)) ((key _).1 (Nat.le_refl _))
def len8 : List UInt8:=[0,1] ++ List.replicate 2 2 ++ List.replicate 4 3 ++ List.replicate 8 4 ++ List.replicate 16 5 ++ List.replicate 32 6 ++ List.replicate 64 7 ++ List.replicate 128 8
theorem len8_at {n : Int} (h0 : 0 ≤ n) (h : n < 256) : len8[n.toNat]? = some (UInt8.ofNat (blen n.toNat)):=by
  have key : ∀ m : Fin 256,len8[m.val]? = some (UInt8.ofNat (blen m.val)):=by decide +kernel
  exact key ⟨n.toNat,by omega⟩
theorem aGi {n : Nat} (h : n < 256) : blen n ≤ 8:=sJ.2 h
theorem wrap_u8 (n : Int) : IntKind.u8.wrap n = n % 256:=by simp [IntKind.wrap,IntKind.signed,IntKind.bits]
theorem aFo {n : Int} (h0 : 0 ≤ n) (h : n < 18446744073709551616) : IntKind.u64.wrap n = n:=by
  simp [IntKind.wrap,IntKind.signed,IntKind.bits]; omega
theorem wrap_i64 {n : Int} (h0 : -9223372036854775808 ≤ n) (h : n ≤ 9223372036854775807) : IntKind.i64.wrap n = n:=by
  simp [IntKind.wrap,IntKind.signed,IntKind.bits]; omega

def vbad (n : Int) : Prop:=n < 0 ∨ 4611686018427387903 < n
instance (n : Int) : Decidable (vbad n):=by unfold vbad; exact inferInstance
def gY (n : Int) : Int:=if vbad n then -1 else if n < 64 then 0 else if n < 16384 then 1 else if n < 1073741824 then 2 else 3
def nX (n : Int) : Int:=if vbad n then 0 else if n < 64 then 1 else if n < 16384 then 2 else if n < 1073741824 then 4 else 8

def NR (ds : List D) : Prop:=D.refsInL noRef ds = true
theorem NR.nil : NR []:=rfl
theorem NR.cons {d : D} {ds : List D} (h : d.refsIn noRef = true) (k : NR ds) : NR (d :: ds):=by unfold NR; rw [D.refsInL,h]; exact k
theorem NR.append {ds es : List D} (h : NR ds) (k : NR es) : NR (ds ++ es):=by
  induction ds with
  | nil=>exact k
  | cons d ds ih =>
    have h' : d.refsIn noRef = true ∧ D.refsInL noRef ds = true:=by simpa [NR,D.refsInL] using h
    exact NR.cons h'.1 (ih h'.2)
theorem NR.map {α : Type} {f : α → D} (h : ∀ x,(f x).refsIn noRef = true) (l : List α) : NR (l.map f):=by
  induction l with
  | nil=>rfl
  | cons a l ih=>exact NR.cons (h a) ih
theorem NR.replicate {d : D} (h : d.refsIn noRef = true) (n : Nat) : NR (List.replicate n d):=by
  induction n with
  | zero=>rfl
  | succ n ih=>exact NR.cons h ih
mutual
theorem D.ren_bare {ρ : Nat → Nat} : ∀ (d : D),d.refsIn noRef = true → d.ren ρ = d
  | .dead,_ | .bool _,_ | .int _ _,_ | .float _ _,_ | .str _,_ | .slice _ _,_ | .nils,_ | .fptr _,_ | .nilp,_ | .nilf,_ | .nili,_ | .optp _,_ | .mapp,_=>rfl
  | .ref _ _,h | .rsl _ _ _ _ _,h | .gsl _ _ _,h | .osl _ _ _,h | .yld _,h | .mref _,h=>by cases h
  | .agg cs,h=>by rw [D.ren,D.renL_bare cs (by simpa [D.refsIn] using h)]
  | .tuple cs,h=>by rw [D.ren,D.renL_bare cs (by simpa [D.refsIn] using h)]
  | .fn f cs,h=>by rw [D.ren,D.renL_bare cs (by simpa [D.refsIn] using h)]
  | .mv f cs,h=>by rw [D.ren,D.renL_bare cs (by simpa [D.refsIn] using h)]
  | .cnd b d,h=>by rw [D.ren,D.ren_bare d (by simpa [D.refsIn] using h)]
theorem D.renL_bare {ρ : Nat → Nat} : ∀ (ds : List D),D.refsInL noRef ds = true → D.renL ρ ds = ds
  | [],_=>rfl
  | d :: ds, h => by
    have h' : d.refsIn noRef = true ∧ D.refsInL noRef ds = true:=by simpa [D.refsInL] using h
    rw [D.renL,D.ren_bare d h'.1,D.renL_bare ds h'.2]
end
mutual
theorem D.refsIn_mono {p : Nat → Bool} : ∀ (d : D),d.refsIn noRef = true → d.refsIn p = true
  | .dead,_ | .bool _,_ | .int _ _,_ | .float _ _,_ | .str _,_ | .slice _ _,_ | .nils,_ | .fptr _,_ | .nilp,_ | .nilf,_ | .nili,_ | .optp _,_ | .mapp,_=>rfl
  | .ref _ _,h | .rsl _ _ _ _ _,h | .gsl _ _ _,h | .osl _ _ _,h | .yld _,h | .mref _,h=>by cases h
  | .agg cs,h=>by simp only [D.refsIn] at h ⊢; exact D.refsInL_mono cs h
  | .tuple cs,h=>by simp only [D.refsIn] at h ⊢; exact D.refsInL_mono cs h
  | .fn f cs,h=>by simp only [D.refsIn] at h ⊢; exact D.refsInL_mono cs h
  | .mv f cs,h=>by simp only [D.refsIn] at h ⊢; exact D.refsInL_mono cs h
  | .cnd b d,h=>by simp only [D.refsIn] at h ⊢; exact D.refsIn_mono d h
theorem D.refsInL_mono {p : Nat → Bool} : ∀ (ds : List D),D.refsInL noRef ds = true → D.refsInL p ds = true
  | [],_=>rfl
  | d :: ds, h => by
    have h' : d.refsIn noRef = true ∧ D.refsInL noRef ds = true:=by simpa [D.refsInL] using h
    rw [D.refsInL,D.refsIn_mono d h'.1,D.refsInL_mono ds h'.2]; rfl
end
theorem EntW.plain {S S' : St} {ρ : Nat → Nat} {id : Nat} {e : TypeId} {ds ds' : List D} (h : S.ent (ρ id) = .blk e ds') (hd : ds' = ds) (hr : NR ds) : EntW S S' ρ id (.blk e ds) :=
  .blk h (by rw [hd,D.renL_bare ds hr]) (D.refsInL_mono ds hr)

theorem aE2 {n i : Int} (h0 : 0 ≤ n) (h1 : n ≤ 4611686018427387903) (hi : 0 ≤ i) (hi' : i < 4) : (blen n.toNat : Int) ≤ 8 * 2 ^ i.toNat - 2 ↔ gY n ≤ i:=by
  have hb : ¬ vbad n:=by unfold vbad; omega
  have h6:=@sJ n.toNat 6
  have h14:=@sJ n.toNat 14
  have h30:=@sJ n.toNat 30
  have h62:=@sJ n.toNat 62
  simp only [gY,hb,if_false]
  obtain rfl | rfl | rfl | rfl : i = 0 ∨ i = 1 ∨ i = 2 ∨ i = 3:=by omega
  all_goals simp at h6 h14 h30 h62 ⊢
  all_goals (repeat' split) <;> omega
theorem qK (n : Int) : -1 ≤ gY n ∧ gY n ≤ 3:=by unfold gY; (repeat' split) <;> omega
theorem aEC {n : Int} (h : vbad n) : gY n = -1:=by simp [gY,h]
theorem yH {n : Int} : gY n < 0 ↔ vbad n:=by unfold gY; (repeat' split) <;> simp_all
theorem sK (n : Int) : (vbad n ∧ nX n = 0 ∧ gY n = -1) ∨ (¬ vbad n ∧ 0 ≤ gY n ∧ gY n ≤ 3 ∧ nX n = 2 ^ (gY n).toNat):=by
  unfold nX gY
  by_cases h : vbad n
  · simp [h]
  · simp only [h, if_false]
    (repeat' split) <;> simp
theorem yR {a i : Int} (ha : a = 8 ∨ a = 1 ∨ a = 64) (hi : 0 ≤ i) (h4 : i < 4) : tK .shl .i64 a i = some (.int .i64 (a * 2 ^ i.toNat)):=by
  obtain rfl | rfl | rfl:=ha <;> obtain rfl | rfl | rfl | rfl : i = 0 ∨ i = 1 ∨ i = 2 ∨ i = 3:=by omega
  all_goals rfl
theorem aDe {i : Int} (hi : 0 ≤ i) (h4 : i < 4) : tK .shl .i64 i 6 = some (.int .i64 (64 * i)):=by
  obtain rfl | rfl | rfl | rfl : i = 0 ∨ i = 1 ∨ i = 2 ∨ i = 3:=by omega
  all_goals rfl

def by8 (n : Int) : UInt8:=UInt8.ofNat (n % 256).toNat
theorem aCJ (n : Int) : ((by8 n).toNat : Int) = n % 256:=by
  unfold by8
  have h0:=Int.emod_nonneg n (b:=256) (by decide)
  have h1:=Int.emod_lt_of_pos n (b:=256) (by decide)
  simp; omega
def beb (n : Int) : Nat → List UInt8
  | 0=>[]
  | m + 1=>by8 (n / 256 ^ m) :: beb n m
theorem wP (n : Int) : ∀ m,(beb n m).length = m
  | 0=>rfl
  | m + 1=>by simp [beb,wP n m]
def vput (n : Int) : List UInt8 :=
  match (nX n).toNat with
  | 0=>[]
  | m + 1=>UInt8.ofNat ((n / 256 ^ m % 256).toNat + 64 * (gY n).toNat) :: beb n m
theorem aDJ (n : Int) (j : Nat) : n / 256 ^ j / 2 ^ 8 = n / 256 ^ (j + 1):=by
  rw [Int.pow_succ,Int.ediv_ediv_of_nonneg (Int.le_of_lt (Int.pow_pos (by decide)))]; rfl
theorem aFR (n : Int) (j : Nat) : n / 256 ^ j / 256 = n / 256 ^ (j + 1):=aDJ n j
theorem aEZ {α : Type} (z x : α) (m : Nat) (l : List α) : (List.replicate (m + 1) z ++ l).set m x = List.replicate m z ++ (x :: l):=by
  rw [List.replicate_succ',List.append_assoc,List.set_append_right _ _ (by simp)]
  simp
theorem or_mark {a k : Int} (h0 : 0 ≤ a) (h1 : a < 64) (h2 : 0 ≤ k) (h3 : k < 4) : int2 .or .u8 a (64 * k) = some (.int .u8 (a + 64 * k)):=by
  have key : ∀ (x : Fin 64) (y : Fin 4),IntKind.u8.wrap (((BitVec.ofInt 8 (x.val : Int)) ||| (BitVec.ofInt 8 (64 * (y.val : Int)))).toNat : Int) = (x.val : Int) + 64 * (y.val : Int):=by decide +kernel
  have:=key ⟨a.toNat,by omega⟩ ⟨k.toNat,by omega⟩
  simp only [show ((a.toNat : Nat) : Int) = a by omega,show ((k.toNat : Nat) : Int) = k by omega] at this
  simp only [int2]; exact congrArg (fun x=>some (D.int .u8 x)) this
theorem aBa {n : Int} {m : Nat} (h : ¬ vbad n) (hm : (nX n).toNat = m + 1) : 0 ≤ n / 256 ^ m ∧ n / 256 ^ m < 64:=by
  have hh : 0 ≤ n ∧ n ≤ 4611686018427387903:=by unfold vbad at h; omega
  refine ⟨Int.ediv_nonneg hh.1 (Int.le_of_lt (Int.pow_pos (by decide))),?_⟩
  apply Int.ediv_lt_of_lt_mul (Int.pow_pos (by decide))
  revert hm
  simp only [nX,h,if_false]
  (repeat' split) <;> intro hm
  · obtain rfl : m = 0 := by simpa using hm.symm
    omega
  · obtain rfl : m = 1 := by simpa using hm.symm
    omega
  · obtain rfl : m = 3 := by simpa using hm.symm
    omega
  · obtain rfl : m = 7 := by simpa using hm.symm
    omega

def beN (a : Int) (l : List UInt8) : Int:=l.foldl (fun a c=>a * 256 + c.toNat) a
theorem aGk {a : Int} {l : List UInt8} {j : Nat} {c : UInt8} (h : l[j]? = some c) : beN a (l.take (j + 1)) = beN a (l.take j) * 256 + c.toNat:=by
  rw [List.take_add_one,h]; simp [beN]
theorem aFd {a : Int} (h0 : 0 ≤ a) (h1 : a < 64) : ∀ (j : Nat) (l : List UInt8),l.length = j → 0 ≤ beN a l ∧ beN a l < 64 * 256 ^ j:=by
  have key : ∀ (l : List UInt8) (a : Int) (b : Int),0 ≤ a → a < b → 0 ≤ beN a l ∧ beN a l < b * 256 ^ l.length:=by
    intro l
    induction l with
    | nil=>intro a b h0 h1; simp [beN]; omega
    | cons c l ih =>
      intro a b h0 h1
      have hc:=c.toNat_lt
      have:=ih (a * 256 + c.toNat) (b * 256) (by omega) (by omega)
      simp only [beN,List.foldl_cons,List.length_cons] at this ⊢
      rw [Int.pow_succ]
      have e : b * (256 ^ l.length * 256) = b * 256 * 256 ^ l.length:=by rw [Int.mul_comm (256 ^ l.length) 256,Int.mul_assoc]
      rw [e]; exact this
  rintro j l rfl
  exact key l a 64 h0 h1
theorem aEm {j : Nat} (h : j ≤ 7) : (256 : Int) ^ j ≤ 72057594037927936:=by
  obtain rfl | rfl | rfl | rfl | rfl | rfl | rfl | rfl : j = 0 ∨ j = 1 ∨ j = 2 ∨ j = 3 ∨ j = 4 ∨ j = 5 ∨ j = 6 ∨ j = 7:=by omega
  all_goals decide
theorem or_low {x c : Int} (h0 : 0 ≤ x) (h1 : x < 36028797018963968) (h2 : 0 ≤ c) (h3 : c < 256) : int2 .or .i64 (x * 256) c = some (.int .i64 (x * 256 + c)):=by
  obtain ⟨y,rfl⟩:=Int.eq_ofNat_of_zero_le h0
  obtain ⟨d,rfl⟩:=Int.eq_ofNat_of_zero_le h2
  simp only [int2]
  congr 2
  have e1 : (BitVec.ofInt 64 ((y : Int) * 256)).toNat = y * 256:=by
    rw [show ((y : Int) * 256) = ((y * 256 : Nat) : Int) by simp,BitVec.ofInt_natCast,BitVec.toNat_ofNat,Nat.mod_eq_of_lt (by omega)]
  have e2 : (BitVec.ofInt 64 (d : Int)).toNat = d:=by
    rw [BitVec.ofInt_natCast,BitVec.toNat_ofNat,Nat.mod_eq_of_lt (by omega)]
  have e3 : ((BitVec.ofInt IntKind.i64.bits ((y : Int) * 256)) ||| (BitVec.ofInt IntKind.i64.bits (d : Int))).toNat = y * 256 + d:=by
    show ((BitVec.ofInt 64 ((y : Int) * 256)) ||| (BitVec.ofInt 64 (d : Int))).toNat = _
    rw [BitVec.toNat_or,e1,e2]
    have:=Nat.shiftLeft_add_eq_or_of_lt (a:=y) (b:=d) (i:=8) (by omega)
    rw [Nat.shiftLeft_eq] at this
    exact this.symm
  rw [e3,wrap_i64 (by omega) (by omega)]; omega
theorem and63 (b : UInt8) : int2 .and .u8 (b.toNat : Int) 63 = some (.int .u8 ((b.toNat : Int) % 64)):=by
  have key : ∀ x : Fin 256,IntKind.u8.wrap (((BitVec.ofInt 8 (x.val : Int)) &&& (BitVec.ofInt 8 63)).toNat : Int) = (x.val : Int) % 64:=by decide +kernel
  have:=key ⟨b.toNat,b.toNat_lt⟩
  simp only [int2]; exact congrArg (fun x=>some (D.int .u8 x)) this

def vget : List UInt8 → Int × Int × Int
  | []=>(0,0,3)
  | b :: r =>
    if (b :: r).length < 2 ^ (b.toNat / 64) then (0,0,3)
    else if gY (beN (b.toNat % 64) (r.take (2 ^ (b.toNat / 64) - 1))) = ((b.toNat / 64 : Nat) : Int) then (beN (b.toNat % 64) (r.take (2 ^ (b.toNat / 64) - 1)),((2 ^ (b.toNat / 64) : Nat) : Int),0) else (0,0,4)

theorem aEX {i : Int} (hi : 0 ≤ i) (h4 : i < 4) : 8 ≤ 8 * (2 : Int) ^ i.toNat ∧ 8 * (2 : Int) ^ i.toNat ≤ 64:=by
  obtain rfl | rfl | rfl | rfl : i = 0 ∨ i = 1 ∨ i = 2 ∨ i = 3:=by omega
  all_goals decide

theorem aCx (n : Int) : (vput n).length = (nX n).toNat:=by
  unfold vput; split
  · rename_i h; simp [h]
  · rename_i h; simp [h,wP]
theorem aDi {k : Int} (h0 : 0 ≤ k) (h : k ≤ 3) : 1 ≤ (2 : Int) ^ k.toNat ∧ (2 : Int) ^ k.toNat ≤ 8:=by
  obtain rfl | rfl | rfl | rfl : k = 0 ∨ k = 1 ∨ k = 2 ∨ k = 3:=by omega
  all_goals decide
theorem aCw {n : Int} (h : 0 ≤ gY n) : ∃ m : Nat,m ≤ 7 ∧ (nX n).toNat = m + 1 ∧ (2 : Int) ^ (gY n).toNat = ((m + 1 : Nat) : Int) ∧ ¬ vbad n:=by
  rcases sK n with h' | h'
  · omega
  · have := aDi h h'.2.2.1
    exact ⟨(nX n).toNat - 1,by omega,by omega,by omega,h'.1⟩
theorem aCL {n : Int} {m : Nat} (hm : (nX n).toNat = m + 1) : vput n = UInt8.ofNat ((n / 256 ^ m % 256).toNat + 64 * (gY n).toNat) :: beb n m:=by
  unfold vput; rw [hm]
theorem aFp {n : Int} (h : vbad n) : vput n = []:=by simp [vput,nX,h]
end Go.IL
namespace Go.IL
theorem aFL {b : UInt8} {r : List UInt8} (h : ¬ (b :: r).length < 2 ^ (b.toNat / 64)) : (r.take (2 ^ (b.toNat / 64) - 1)).length = 2 ^ (b.toNat / 64) - 1:=by
  simp only [List.length_cons] at h
  rw [List.length_take]; omega
theorem sL {b : UInt8} {r : List UInt8} (h : (b :: r).length < 2 ^ (b.toNat / 64)) : vget (b :: r) = (0,0,3):=by simp only [vget,h,if_true]
theorem tZ {b : UInt8} {r : List UInt8} (h : ¬ (b :: r).length < 2 ^ (b.toNat / 64)) (k : ¬ gY (beN (b.toNat % 64) (r.take (2 ^ (b.toNat / 64) - 1))) = ((b.toNat / 64 : Nat) : Int)) : vget (b :: r) = (0,0,4):=by simp only [vget,h,k,if_false]
theorem yI {b : UInt8} {r : List UInt8} (h : ¬ (b :: r).length < 2 ^ (b.toNat / 64)) (k : gY (beN (b.toNat % 64) (r.take (2 ^ (b.toNat / 64) - 1))) = ((b.toNat / 64 : Nat) : Int)) : vget (b :: r) = (beN (b.toNat % 64) (r.take (2 ^ (b.toNat / 64) - 1)),((2 ^ (b.toNat / 64) : Nat) : Int),0):=by
  simp only [vget,h,if_false]; rw [if_pos k]
theorem shl_8 {a : Int} (h0 : 0 ≤ a) (h1 : a < 36028797018963968) : tK .shl .i64 a 8 = some (.int .i64 (a * 256)):=by
  simp only [tK]
  have : IntKind.i64.wrap (a * 2 ^ min (8 : Int).toNat IntKind.i64.bits) = a * 256:=by
    show IntKind.i64.wrap (a * 2 ^ 8) = _
    rw [wrap_i64 (by omega) (by omega)]; omega
  rw [this]; rfl
theorem k4 (b : UInt8) : b.toNat / 64 ≤ 3:=by have:=b.toNat_lt; omega
theorem aAw {k : Nat} (h : k ≤ 3) : 1 ≤ 2 ^ k ∧ 2 ^ k ≤ 8:=by
  obtain rfl | rfl | rfl | rfl : k = 0 ∨ k = 1 ∨ k = 2 ∨ k = 3:=by omega
  all_goals decide
theorem get_acc {b : UInt8} {l : List UInt8} (j : Nat) (hj : j ≤ l.length) (hl : j ≤ 7) : 0 ≤ beN (b.toNat % 64) (l.take j) ∧ beN (b.toNat % 64) (l.take j) ≤ 4611686018427387903 ∧ (j ≤ 6 → beN (b.toNat % 64) (l.take j) < 18014398509481984):=by
  have h1:=aFd (a:=b.toNat % 64) (by omega) (by omega) j (l.take j) (by simp; omega)
  refine ⟨h1.1,?_,?_⟩
  · have:=aEm hl; omega
  · intro h6
    have : (256 : Int) ^ j ≤ 281474976710656:=by
      obtain rfl | rfl | rfl | rfl | rfl | rfl | rfl : j = 0 ∨ j = 1 ∨ j = 2 ∨ j = 3 ∨ j = 4 ∨ j = 5 ∨ j = 6:=by omega
      all_goals decide
    omega
end Go.IL
namespace Go.IL
theorem aDd {b : UInt8} {r : List UInt8} {n : Nat} (h : 1 ≤ n) : ((b :: r).take ((n : Nat) : Int).toNat).drop (1 : Int).toNat = r.take (n - 1):=by
  obtain ⟨m,rfl⟩ : ∃ m,n = m + 1:=⟨n - 1,by omega⟩
  simp
end Go.IL
namespace Go.IL
theorem qJ (n : Int) : 0 ≤ nX n ∧ nX n ≤ 8:=by unfold nX; (repeat' split) <;> omega
theorem aDX {n : Int} : nX n = 0 ↔ vbad n:=by unfold nX; (repeat' split) <;> simp_all
theorem aEA {n : Int} {k : Nat} (hk : k ≤ 3) : nX n = ((2 ^ k : Nat) : Int) ↔ gY n = (k : Int):=by
  unfold nX gY
  obtain rfl | rfl | rfl | rfl : k = 0 ∨ k = 1 ∨ k = 2 ∨ k = 3:=by omega
  all_goals (repeat' split) <;> simp
end Go.IL
namespace Go.IL
end Go.IL
namespace Go.IL
def xE (l : List Int) : List UInt8 × Int:=if l.all (fun x=>!decide (vbad x)) then (l.flatMap vput,0) else ([],8)
theorem aED {l : List Int} {j : Nat} {x : Int} (h : l[j]? = some x) (hb : vbad x) : xE l = ([],8):=by
  have hm:=List.mem_of_getElem? h
  unfold xE; rw [if_neg]
  simp only [List.all_eq_true,Bool.not_eq_true',decide_eq_false_iff_not]
  exact fun h=>h x hm hb
theorem aAk {l : List Int} (h : ∀ x ∈ l,¬ vbad x) : xE l = (l.flatMap vput,0):=by
  unfold xE; rw [if_pos]
  simpa [List.all_eq_true] using h
theorem flat_take {α β : Type} {f : α → List β} {l : List α} {j : Nat} {x : α} (h : l[j]? = some x) : (l.take (j + 1)).flatMap f = (l.take j).flatMap f ++ f x:=by
  rw [List.take_add_one,h]; simp
theorem tY (x : Int) : (vput x).length ≤ 8:=by rw [aCx]; have:=qJ x; omega
theorem qZ (l : List Int) : (l.flatMap vput).length ≤ 8 * l.length:=by
  induction l with
  | nil=>simp
  | cons x l ih=>simp only [List.flatMap_cons,List.length_append,List.length_cons]; have:=tY x; omega
theorem aGo {α : Type} {P : α → Prop} {l : List α} {j : Nat} {x : α} (h : ∀ y ∈ l.take j,P y) (hq : l[j]? = some x) (hx : P x) : ∀ y ∈ l.take (j + 1),P y:=by
  rw [List.take_add_one,hq]
  intro y hy
  simp only [Option.toList_some,List.mem_append,List.mem_singleton] at hy
  rcases hy with hy | rfl
  · exact h y hy
  · exact hx
theorem nN {s : List UInt8} (h : (vget s).2.2 = 0) : 1 ≤ (vget s).2.1 ∧ (vget s).2.1 ≤ s.length:=by
  cases s with
  | nil=>exact absurd h (by decide)
  | cons b r =>
    by_cases h1 : (b :: r).length < 2 ^ (b.toNat / 64)
    · rw [sL h1] at h; exact absurd h (by decide)
    · by_cases h2 : gY (beN (b.toNat % 64) (r.take (2 ^ (b.toNat / 64) - 1))) = ((b.toNat / 64 : Nat) : Int)
      · rw [yI h1 h2]; have:=aAw (k4 b); constructor <;> simp only <;> omega
      · rw [tZ h1 h2] at h; exact absurd h (by decide)
def qM : Nat → List UInt8 → List Int → List Int × Int
  | 0,_,acc=>(acc,0)
  | f + 1,s,acc=>if s = [] then (acc,0) else if (vget s).2.2 = 0 then qM f (s.drop (vget s).2.1.toNat) (acc ++ [(vget s).1]) else ([],(vget s).2.2)
def vall (s : List UInt8) : List Int × Int:=qM s.length s []
theorem aBX (f : Nat) (acc : List Int) : qM f [] acc = (acc,0):=by cases f <;> simp [qM]
theorem aEE {f : Nat} {s : List UInt8} {acc : List Int} (hs : s ≠ []) (hf : s.length ≤ f) (h : (vget s).2.2 ≠ 0) : qM f s acc = ([],(vget s).2.2):=by
  cases f with
  | zero=>exact absurd (List.length_eq_zero_iff.1 (Nat.le_zero.1 hf)) hs
  | succ f=>simp [qM,hs,h]
theorem aDY {f : Nat} {s : List UInt8} {acc : List Int} (hs : s ≠ []) (hf : s.length ≤ f) (h : (vget s).2.2 = 0) : ∃ f',(s.drop (vget s).2.1.toNat).length ≤ f' ∧ qM f s acc = qM f' (s.drop (vget s).2.1.toNat) (acc ++ [(vget s).1]):=by
  cases f with
  | zero=>exact absurd (List.length_eq_zero_iff.1 (Nat.le_zero.1 hf)) hs
  | succ f =>
    have:=nN h
    exact ⟨f,by simp; omega,by simp [qM,hs,h]⟩
end Go.IL
namespace Go.IL
theorem aCB {l : List Int} (j : Nat) (h : j ≤ l.length) : ((l.take j).flatMap vput).length ≤ 8 * j:=by
  have:=qZ (l.take j); rw [List.length_take] at this; omega
end Go.IL
namespace Go.IL
end Go.IL
namespace Go.IL

def bnd {α β : Type} (e : α) (f : α → Option β) : Option β:=f e
def bno {α β : Type} (e : Option α) (f : α → Option β) : Option β:=match e with | some x=>f x | none=>none
def chk {β : Type} (p : Prop) [Decidable p] (o : Option β) : Option β:=if p then o else none
def gd {α : Type} (g : Bool) (o : Option α) (d : α) : Option α:=bif g then o else some d

theorem bE {α β : Type} {e : α} {f : α → Option β} {r : β} (h : bnd e f = some r) : ∃ x,e = x ∧ f x = some r:=⟨e,rfl,h⟩
theorem bT {α β : Type} {e : Option α} {f : α → Option β} {r : β} (h : bno e f = some r) : ∃ x,e = some x ∧ f x = some r:=by
  cases e with
  | none=>cases h
  | some x=>exact ⟨x,rfl,h⟩
theorem tF {β : Type} {p : Prop} [Decidable p] {o : Option β} {r : β} (h : chk p o = some r) : p ∧ o = some r:=by
  unfold chk at h; split at h
  · exact ⟨‹_›,h⟩
  · cases h
theorem tG {α : Type} {b : Bool} {x y r : α} (h : (bif b then x else y) = r) (hb : b = true) : x = r:=by subst hb; exact h
theorem tH {α : Type} {b : Bool} {x y r : α} (h : (bif b then x else y) = r) (hb : b = false) : y = r:=by subst hb; exact h
theorem gd_t {α : Type} {g : Bool} {o : Option α} {d x : α} (h : gd g o d = some x) (hb : g = true) : o = some x:=by subst hb; exact h

def remI (a b : Int) : Option Int:=if b = 0 then none else some (a.tmod b)
def shlI (k : IntKind) (a b : Int) : Option Int:=if b < 0 then none else some (k.wrap (a * 2 ^ (min b.toNat k.bits)))
def shrI (k : IntKind) (a b : Int) : Option Int:=if b < 0 then none else some (a.fdiv (2 ^ (min b.toNat k.bits)))
def andI (k : IntKind) (a b : Int) : Int:=k.wrap ((BitVec.ofInt k.bits a) &&& (BitVec.ofInt k.bits b)).toNat
def orI (k : IntKind) (a b : Int) : Int:=k.wrap ((BitVec.ofInt k.bits a) ||| (BitVec.ofInt k.bits b)).toNat
def xorI (k : IntKind) (a b : Int) : Int:=k.wrap ((BitVec.ofInt k.bits a) ^^^ (BitVec.ofInt k.bits b)).toNat
def gix {α : Type} (l : List α) (i : Int) : Option α:=if 0 ≤ i then l[i.toNat]? else none
def cut {α : Type} (l : List α) (lo hi : Int) : Option (List α):=if 0 ≤ lo ∧ lo ≤ hi ∧ hi ≤ (l.length : Int) then some ((l.take hi.toNat).drop lo.toNat) else none
def app {α : Type} (b : Nat) (l m : List α) : Option (List α):=if l.length + m.length ≤ 9223372036854775807 ∧ (l.length + m.length) * b ≤ 140737488355328 then some (l ++ m) else none
def cat (a b : List UInt8) : Option (List UInt8):=if a.length + b.length ≤ 9223372036854775807 then some (a ++ b) else none
def toU8 (n : Int) : Option UInt8:=if 0 ≤ n ∧ n < 256 then some (UInt8.ofNat n.toNat) else none
def made {α : Type} (b : Nat) (n : Int) (z : α) : Option (List α):=if 0 ≤ n ∧ (b : Int) * n ≤ 281474976710656 ∧ n ≤ 9223372036854775807 then some (List.replicate n.toNat z) else none
class Fu where
  n : Nat
instance fu0 : Fu:=⟨2 ^ 64⟩
def fuel [Fu] : Nat:=Fu.n

theorem aEH {n : Int} {u : UInt8} (h : toU8 n = some u) : (u.toNat : Int) = n:=by
  unfold toU8 at h; split at h
  · rename_i hn; cases h
    have : n.toNat < 256:=by omega
    simp only [UInt8.toNat_ofNat']
    rw [Nat.mod_eq_of_lt this]; omega
  · cases h
theorem tE {α : Type} {l : List α} {i : Int} {x : α} (h : gix l i = some x) : 0 ≤ i ∧ l[i.toNat]? = some x:=by
  unfold gix at h; split at h
  · exact ⟨‹_›,h⟩
  · cases h
theorem cut_e {α : Type} {l m : List α} {lo hi : Int} (h : cut l lo hi = some m) : (0 ≤ lo ∧ lo ≤ hi ∧ hi ≤ (l.length : Int)) ∧ (l.take hi.toNat).drop lo.toNat = m:=by
  unfold cut at h; split at h
  · exact ⟨‹_›,Option.some.inj h⟩
  · cases h
theorem app_e {α : Type} {b : Nat} {l m r : List α} (h : app b l m = some r) : (l.length + m.length ≤ maxLen ∧ (l.length + m.length) * b ≤ 140737488355328) ∧ l ++ m = r:=by
  unfold app at h; split at h
  · rename_i hh; exact ⟨⟨by unfold maxLen; omega,hh.2⟩,Option.some.inj h⟩
  · cases h
theorem cat_e {a b c : List UInt8} (h : cat a b = some c) : a ++ b = c ∧ c.length ≤ 9223372036854775807:=by
  unfold cat at h; split at h
  · cases h; exact ⟨rfl,by simpa using ‹_›⟩
  · cases h
theorem made_e {α : Type} {b : Nat} {n : Int} {z : α} {r : List α} (h : made b n z = some r) : (0 ≤ n ∧ (b : Int) * n ≤ 281474976710656 ∧ n ≤ 9223372036854775807) ∧ List.replicate n.toNat z = r:=by
  unfold made at h; split at h
  · exact ⟨‹_›,Option.some.inj h⟩
  · cases h

structure Enc0 (α : Type) where
  d : α → D
  sz : Nat
  pos : 0 < sz
  fl : ∀ x,(d x).cells.length = sz ∧ (d x).cells.all D.one = true
structure Enc (α : Type) extends Enc0 α where
  nr : ∀ x,D.refsInL noRef (d x).cells = true

theorem Enc0.flat {α : Type} (f : Enc0 α) (l : List α) : Flat f.sz (l.map f.d):=Flat.map f.fl l
theorem Enc0.len {α : Type} (f : Enc0 α) (l : List α) : ∀ d ∈ l.map f.d,d.cells.length = f.sz:=(f.flat l).len
theorem nJ {p : Nat → Bool} : ∀ {l m : List D},D.refsInL p l = true → D.refsInL p m = true → D.refsInL p (l ++ m) = true
  | [],_,_,h=>h
  | d :: l, m, h, k => by
    simp only [List.cons_append,D.refsInL,Bool.and_eq_true] at h ⊢
    exact ⟨h.1,nJ h.2 k⟩
theorem Enc.noRef {α : Type} (f : Enc α) : ∀ (l : List α),D.refsInL noRef (D.flat (l.map f.d)) = true
  | []=>rfl
  | x :: l => by
    simp only [D.flat,List.map_cons,List.flatMap_cons]
    exact nJ (f.nr x) (f.noRef l)
theorem Enc0.flat_len {α : Type} (f : Enc0 α) (l : List α) : (D.flat (l.map f.d)).length = l.length * f.sz:=by
  rw [nH (f.len l),List.length_map]
theorem Enc0.flat_append {α : Type} (f : Enc0 α) (l m : List α) : D.flat (l.map f.d) ++ D.flat (m.map f.d) = D.flat ((l ++ m).map f.d):=by
  simp [D.flat]
theorem Enc0.one {α : Type} (f : Enc0 α) (l : List α) : (D.flat (l.map f.d)).all D.one = true:=(f.flat l).all

section
variable {P : Program} {O : cG} {N : Nat} {S S' : St} {o : Oper} {t : Nat} {Q : Exit → St → Prop}

theorem IOp.to {S1 S2 : St} (h : IOp P O N o S S1) (k : ∀ E β a,Rel O N S1 E β a → Rel O N S2 E β a) : IOp P O N o S S2 :=
  fun E β a hr next Q hn=>h E β a hr next Q fun E' β' a' hr'=>hn _ _ _ (k _ _ _ hr')
theorem nK {c x y : Operand} {b z r : Bool} (ho : o.op = .pick c x y) (hd : o.dst = some t) (ht : t < N) (hc : SV S c (.bool b)) (hx : S.op x = .cnd (b == true) (.bool z)) (hy : S.op y = .bool false) (hr : (b && z) = r) : IOp P O N o S (S.set t (.bool r)) :=
  hr ▸ iop_and ho hd ht hc hx hy
theorem aBA {c x y : Operand} {b z r : Bool} (ho : o.op = .pick c x y) (hd : o.dst = some t) (ht : t < N) (hc : SV S c (.bool b)) (hx : S.op x = .bool true) (hy : S.op y = .cnd (b == false) (.bool z)) (hr : (b || z) = r) : IOp P O N o S (S.set t (.bool r)) :=
  hr ▸ iop_or ho hd ht hc hx hy
theorem qE {c x y : Operand} {b z g r : Bool} (ho : o.op = .pick c x y) (hd : o.dst = some t) (ht : t < N) (hg : g = true) (hc : SV S c (.bool b)) (hx : S.op x = .cnd (g && (b == true)) (.bool z)) (hy : S.op y = .bool false) (hr : (b && z) = r) : IOp P O N o S (S.set t (.bool r)) :=
  hr ▸ aGS ho hd ht hg hc hx hy
theorem aGM {c x y : Operand} {b z g r : Bool} (ho : o.op = .pick c x y) (hd : o.dst = some t) (ht : t < N) (hg : g = true) (hc : SV S c (.bool b)) (hx : S.op x = .bool true) (hy : S.op y = .cnd (g && (b == false)) (.bool z)) (hr : (b || z) = r) : IOp P O N o S (S.set t (.bool r)) :=
  hr ▸ iop_or2 ho hd ht hg hc hx hy
theorem vF {c x y : Operand} {b u v r : Bool} (ho : o.op = .pick c x y) (hd : o.dst = some t) (ht : t < N) (hc : SV S c (.bool b)) (hx : S.op x = .bool u) (hy : S.op y = .bool v) (hr : (bif b then u else v) = r) : IOp P O N o S (S.set t (.bool r)) :=
  vG ho hd ht hc (fun h=>sv (by rw [hx,← hr,h]; rfl)) (fun h=>sv (by rw [hy,← hr,h]; rfl))

theorem bB {op : BinOp} {xt yt : TypeId} {x y : Operand} {k : IntKind} {a b c c' : Int} (ho : o.op = .binOp op xt x y yt) (hd : o.dst = some t) (ht : t < N)
    (hx : SV S x (.int k a)) (hy : SV S y (.int k b)) (hr : int2 op k a b = some (.int k c)) (hc : c = c') : IOp P O N o S (S.set t (.int k c')):=aBC ho hd ht hx hy (hc ▸ hr)
theorem fF {op : BinOp} {xt yt : TypeId} {x y : Operand} {k : IntKind} {a b : Int} {c c' : Bool} (ho : o.op = .binOp op xt x y yt) (hd : o.dst = some t) (ht : t < N)
    (hx : SV S x (.int k a)) (hy : SV S y (.int k b)) (hr : int2 op k a b = some (.bool c)) (hc : c = c') : IOp P O N o S (S.set t (.bool c')):=aBC ho hd ht hx hy (hc ▸ hr)
theorem aGL {xt yt : TypeId} {x y : Operand} {k : IntKind} {a b c : Int} (ho : o.op = .binOp .rem xt x y yt) (hd : o.dst = some t) (ht : t < N)
    (hx : SV S x (.int k a)) (hy : SV S y (.int k b)) (hc : remI a b = some c) : IOp P O N o S (S.set t (.int k c)):=aBC ho hd ht hx hy (by
  unfold remI at hc; split at hc
  · cases hc
  · rename_i h; cases hc; simp only [int2,if_neg h])
theorem vE {xt yt : TypeId} {x y : Operand} {k k' : IntKind} {a b c : Int} (ho : o.op = .binOp .shl xt x y yt) (hd : o.dst = some t) (ht : t < N)
    (hx : SV S x (.int k a)) (hy : SV S y (.int k' b)) (hc : shlI k a b = some c) : IOp P O N o S (S.set t (.int k c)):=aB0 ho hd ht hx hy (by
  unfold shlI at hc; split at hc
  · cases hc
  · rename_i h; cases hc; simp only [tK,if_neg h])
theorem qX {xt yt : TypeId} {x y : Operand} {k k' : IntKind} {a b c : Int} (ho : o.op = .binOp .shr xt x y yt) (hd : o.dst = some t) (ht : t < N)
    (hx : SV S x (.int k a)) (hy : SV S y (.int k' b)) (hc : shrI k a b = some c) : IOp P O N o S (S.set t (.int k c)):=aB0 ho hd ht hx hy (by
  unfold shrI at hc; split at hc
  · cases hc
  · rename_i h; cases hc; simp only [tK,if_neg h])
theorem gF {op : BinOp} {xt yt : TypeId} {x y : Operand} {a b : List UInt8} {c c' : Bool} (ho : o.op = .binOp op xt x y yt) (hd : o.dst = some t) (ht : t < N)
    (hx : SV S x (.str a)) (hy : SV S y (.str b)) (hr : str2 op a b = some (.bool c)) (hc : c = c') : IOp P O N o S (S.set t (.bool c')):=aGK ho hd ht hx hy (hc ▸ hr)
theorem oJ {xt yt : TypeId} {x y : Operand} {a b c : List UInt8} (ho : o.op = .binOp .add xt x y yt) (hd : o.dst = some t) (ht : t < N)
    (hx : SV S x (.str a)) (hy : SV S y (.str b)) (hc : cat a b = some c) : IOp P O N o S (S.set t (.str c)):=iop_cat ho hd ht hx hy (cat_e hc).1 (cat_e hc).2
theorem iX {T : TypeId} {x y : Operand} {k : IntKind} {n : Int} {l : List UInt8} {c : UInt8} (ho : o.op = .index T x y) (hd : o.dst = some t) (ht : t < N)
    (hu : P.underlying T = some .string) (hx : SV S x (.str l)) (hy : SV S y (.int k n)) (hc : gix l n = some c) : IOp P O N o S (S.set t (.int .u8 (c.toNat : Int))) :=
  aBD ho hd ht hu hx hy (tE hc).1 (tE hc).2 rfl
theorem dD {α : Type} (f : Enc α) {T e : TypeId} {x : Operand} {b : Bool} {l : List α} (ho : o.op = .call { callee:=.builtin .len,args:=#[x],argTypes:=#[T] }) (hd : o.dst = some t) (ht : t < N) (hu : P.underlying T = some (.slice e))
    (hx : SV S x (.slice b (l.map f.d))) : IOp P O N o S (S.set t (.int .i64 (l.length : Int))):=aBB ho hd ht hu hx (by rw [List.length_map])
theorem cW {α : Type} (f : Enc α) {T e : TypeId} {x y : Operand} {b : Bool} {l : List α} {k : IntKind} {n : Int} {z : Option Value} {size bytes : Nat} {a : α} {cs : List D} (ho : o.op = .indexAddr T x y) (hd : o.dst = some t) (ht : t < N)
    (hu : P.underlying T = some (.slice e)) (hi : TI P e z size bytes) (hx : SV S x (.slice b (l.map f.d))) (hy : SV S y (.int k n)) (hn : gix l n = some a) (hcs : (f.d a).cells = cs) (hsz : cs.length = size) :
    IOp P O N o S (S.set t (.fptr cs)) :=
  zX ho hd ht hu hi hx hy (tE hn).1 (by rw [List.getElem?_map,(tE hn).2]; rfl) hcs hsz
theorem aBG {α : Type} (f : Enc α) {T e : TypeId} {x : Operand} {lo hi : Option Operand} {s r : List α} {b : Bool} {l h : Int} {z : Option Value} {bytes : Nat} (ho : o.op = .slice T x lo hi none) (hd : o.dst = some t) (ht : t < N) (hu : P.underlying T = some (.slice e)) (hi' : TI P e z f.sz bytes)
    (hx : SV S x (.slice b (s.map f.d))) (hlo : vU S 0 lo l) (hhi : vU S (s.length : Int) hi h) (hc : cut s l h = some r) : IOp P O N o S (S.set t (.slice false (r.map f.d))):=by
  obtain ⟨⟨h0,h1,h2⟩,hr⟩:=cut_e hc
  refine zS (l:=l) (h:=h) ho hd ht hu hi' hx (f.len s) hlo (by rw [List.length_map]; exact hhi) h0 h1 (by rw [List.length_map]; exact h2) ?_
  rw [← hr,List.map_drop,List.map_take]
theorem mL {T : TypeId} {x : Operand} {lo hi : Option Operand} {s r : List UInt8} {l h : Int} (ho : o.op = .slice T x lo hi none) (hd : o.dst = some t) (ht : t < N) (hu : P.underlying T = some .string)
    (hx : SV S x (.str s)) (hlo : vU S 0 lo l) (hhi : vU S (s.length : Int) hi h) (hc : cut s l h = some r) : IOp P O N o S (S.set t (.str r)):=by
  obtain ⟨⟨h0,h1,h2⟩,hr⟩:=cut_e hc
  exact aA8 ho hd ht hu hx hlo hhi h0 h1 h2 hr

theorem oK {α : Type} (f : Enc α) {T e : TypeId} {x y : Operand} {z : Value} {bytes : Nat} {xs ys zs : List α} {b : Bool} {id : Nat} (id' : Nat)
    (ho : o.op = .call { callee:=.builtin .append,args:=#[x,y],argTypes:=#[T,T] }) (hd : o.dst = some t) (ht : t < N)
    (hu : P.underlying T = some (.slice e)) (hi : TI P e (some z) f.sz bytes) (hz : z.cells.size = f.sz)
    (hx : S.op x = .gsl id f.sz (xs.map f.d)) (he : S.ent id = .tail e f.sz xs.length) (hfr : S.ent id' = .fresh)
    (hy : SV S y (.slice b (ys.map f.d))) (ha : app bytes xs ys = some zs) :
    IOp P O N o S (((S.setE id .none).setE id' (.tail e f.sz zs.length)).set t (.gsl id' f.sz (zs.map f.d))):=by
  obtain ⟨⟨h1,h2⟩,rfl⟩:=app_e ha
  have:=aDx (O:=O) id' ho hd ht hu hi hz f.pos hx (by rw [List.length_map]; exact he) hfr (f.len xs) hy (f.flat ys) (by simpa using h1) (by simpa using h2)
  simpa using this
theorem mM {α : Type} (f : Enc α) (xs : List α) {T e : TypeId} {len eb : Nat} {ez : Value} {ps : List (Nat × Operand)} {dps : List (Nat × D)} (id : Nat) (ho : o.op = .buildSlice T len ps.toArray) (hd : o.dst = some t) (ht : t < N)
    (hu : P.underlying T = some (.slice e)) (he : TI P e (some ez) f.sz eb) (hf : S.ent id = .fresh) (hx : PVs S ps dps)
    (hfill : aAO (fun i=>some (i * f.sz,f.sz)) (List.replicate (len * f.sz) .dead) dps = some (D.flat (xs.map f.d))) (hl : xs.length = len) (hb : len * f.sz ≤ 2 ^ 24) :
    IOp P O N o S ((S.setE id (.tail e f.sz xs.length)).set t (.gsl id f.sz (xs.map f.d))):=by
  have:=aAN (O:=O) id ho hd ht hu he f.pos hf hx hfill (by rw [List.length_map]; exact hl) (f.len xs) (f.noRef xs) hb
  rw [hl]; exact this

theorem aFy {α : Type} (f : Enc α) {y : Operand} {b : Bool} {ys : List α} (hy : SV S y (.slice b (ys.map f.d))) : ∀ E β a,Rel O N S E β a → Src E β (a.eval y) ys.length (D.flat (ys.map f.d)):=by
  have:=aEQ (O:=O) (N:=N) hy
  rwa [List.length_map] at this
theorem yN {α : Type} (f : Enc0 α) {y : Operand} {id n : Nat} {e : TypeId} {ys : List α} (hy : S.op y = .osl id f.sz n) (hl : ys.length = n) (he : S.ent id = .blk e (D.flat (ys.map f.d))) : ∀ E β a,Rel O N S E β a → Src E β (a.eval y) ys.length (D.flat (ys.map f.d)) :=
  src_osl (by rw [hl]; exact hy) he (f.flat_len ys) f.pos
theorem sW {α : Type} (f : Enc0 α) {T e : TypeId} {x y : Operand} {z : Value} {bytes n : Nat} {xs ys zs : List α} {id : Nat} (id' : Nat)
    (ho : o.op = .call { callee:=.builtin .append,args:=#[x,y],argTypes:=#[T,T] }) (hd : o.dst = some t) (ht : t < N)
    (hu : P.underlying T = some (.slice e)) (hi : TI P e (some z) f.sz bytes) (hz : z.cells.size = f.sz)
    (hx : S.op x = .osl id f.sz n) (hl : xs.length = n) (he : S.ent id = .blk e (D.flat (xs.map f.d))) (hfr : S.ent id' = .fresh)
    (hy : ∀ E β a,Rel O N S E β a → Src E β (a.eval y) ys.length (D.flat (ys.map f.d))) (ha : app bytes xs ys = some zs) :
    IOp P O N o S (((S.setE id .none).setE id' (.blk e (D.flat (zs.map f.d)))).set t (.osl id' f.sz zs.length)):=by
  obtain ⟨⟨h1,h2⟩,rfl⟩:=app_e ha
  exact aB5 id' ho hd ht hu hi hz f.pos (by rw [hl]; exact hx) he hfr (f.flat_len xs) hy (f.flat_len ys) (f.one ys) h1 h2 (f.flat_append xs ys) (by rw [List.length_append])
theorem nR {α : Type} (f : Enc0 α) {T e : TypeId} {x y : Operand} {z : Value} {bytes : Nat} {ys zs : List α} (id' : Nat)
    (ho : o.op = .call { callee:=.builtin .append,args:=#[x,y],argTypes:=#[T,T] }) (hd : o.dst = some t) (ht : t < N)
    (hu : P.underlying T = some (.slice e)) (hi : TI P e (some z) f.sz bytes) (hz : z.cells.size = f.sz)
    (hx : S.op x = .nils) (hfr : S.ent id' = .fresh)
    (hy : ∀ E β a,Rel O N S E β a → Src E β (a.eval y) ys.length (D.flat (ys.map f.d))) (ha : app bytes [] ys = some zs) :
    IOp P O N o S ((S.setE id' (.blk e (D.flat (zs.map f.d)))).set t (.osl id' f.sz zs.length)):=by
  obtain ⟨⟨h1,h2⟩,rfl⟩:=app_e ha
  exact zZ id' ho hd ht hu hi hz f.pos hx hfr hy (f.flat_len ys) (f.one ys) (by simpa using h1) (by simpa using h2)
theorem nF {α : Type} (f : Enc0 α) (xs : List α) {T e : TypeId} {len eb : Nat} {ez : Value} {ps : List (Nat × Operand)} {dps : List (Nat × D)} (id : Nat) (ho : o.op = .buildSlice T len ps.toArray) (hd : o.dst = some t) (ht : t < N)
    (hu : P.underlying T = some (.slice e)) (he : TI P e (some ez) f.sz eb) (hf : S.ent id = .fresh) (hx : PVs S ps dps)
    (hfill : aAO (fun i=>some (i * f.sz,f.sz)) (List.replicate (len * f.sz) .dead) dps = some (D.flat (xs.map f.d))) (hl : xs.length = len) (hb : len * f.sz ≤ 2 ^ 24) :
    IOp P O N o S ((S.setE id (.blk e (D.flat (xs.map f.d)))).set t (.osl id f.sz xs.length)):=by
  have:=xP (O:=O) id ho hd ht hu he f.pos hf hx hfill (by rw [f.flat_len,hl]) hb
  rw [hl]; exact this
theorem xY {T e : TypeId} {x : Operand} {id sz len : Nat} (ho : o.op = .call { callee:=.builtin .len,args:=#[x],argTypes:=#[T] }) (hd : o.dst = some t) (ht : t < N) (hu : P.underlying T = some (.slice e))
    (hx : SV S x (.osl id sz len)) : IOp P O N o S (S.set t (.int .i64 (len : Int))):=aCk ho hd ht hu hx rfl
theorem pK {α : Type} (f : Enc0 α) {T e : TypeId} {x y : Operand} {xs : List α} {a : α} {k : IntKind} {n : Int} {z : Option Value} {bytes m : Nat} {id : Nat} (ho : o.op = .indexAddr T x y) (hd : o.dst = some t) (ht : t < N)
    (hu : P.underlying T = some (.slice e)) (hi : TI P e z f.sz bytes) (hx : SV S x (.osl id f.sz m)) (hl : xs.length = m) (hy : SV S y (.int k n)) (hn : gix xs n = some a) :
    IOp P O N o S (S.set t (.ref id (n.toNat * f.sz + 0))) :=
  aBE ho hd ht hu hi hx hy (tE hn).1 (hl ▸ (List.getElem?_eq_some_iff.1 (tE hn).2).1) rfl

theorem Enc0.drop_at {α : Type} (f : Enc0 α) {xs : List α} {i : Nat} {a : α} (h : xs[i]? = some a) (k : Nat) (hk : k ≤ f.sz) : ∃ r,(D.flat (xs.map f.d)).drop (i * f.sz + k) = (f.d a).cells.drop k ++ r:=by
  have h1:=aCo (f.len xs) i (f.d a) (by rw [List.getElem?_map,h]; rfl)
  refine ⟨(D.flat (xs.map f.d)).drop (i * f.sz + f.sz),?_⟩
  have hc:=(f.fl a).1
  rw [← h1,← List.drop_drop,List.drop_take]
  have h2 : List.drop (i * f.sz + f.sz) (D.flat (xs.map f.d)) = List.drop (f.sz - k) (List.drop k (List.drop (i * f.sz) (D.flat (xs.map f.d)))):=by
    rw [List.drop_drop,List.drop_drop]; congr 1; omega
  rw [h2,List.take_append_drop]
theorem sU {α : Type} (f : Enc0 α) {T : TypeId} {x : Operand} {u : TypeDesc} {z : Option Value} {size bytes : Nat} {id i k : Nat} {e : TypeId} {xs : List α} {a : α} {d : D} {r : List D} (ho : o.op = .load T x) (hd : o.dst = some t) (ht : t < N)
    (hu : P.underlying T = some u) (hg : eA P T = false) (hi : TI P T z size bytes) (h1 : 0 < size) (hx : SV S x (.ref id (i * f.sz + k))) (he : S.ent id = .blk e (D.flat (xs.map f.d))) (ha : xs[i]? = some a) (hn : k + size ≤ f.sz)
    (hdd : (f.d a).cells.drop k = d :: r) : IOp P O N o S (S.set t d):=by
  obtain ⟨q,hq⟩:=f.drop_at ha k (by omega)
  refine eC ho hd ht hu hg hi h1 hx he ?_ (r:=r ++ q) (by rw [hq,hdd]; rfl)
  have:=(List.getElem?_eq_some_iff.1 ha).1
  have : (i + 1) * f.sz ≤ xs.length * f.sz:=Nat.mul_le_mul_right _ (by omega)
  rw [f.flat_len]; rw [Nat.add_mul,Nat.one_mul] at this; omega
theorem aCC (d : D) (l : List D) : D.flat (d :: l) = d.cells ++ D.flat l:=rfl
theorem Enc0.flat_set {α : Type} (f : Enc0 α) {k : Nat} {new : List D} (hk : k + new.length ≤ f.sz) {a' : α} : ∀ {xs : List α} {i : Nat} {a : α},xs[i]? = some a → gL (f.d a).cells k new = (f.d a').cells →
    gL (D.flat (xs.map f.d)) (i * f.sz + k) new = D.flat ((xs.set i a').map f.d)
  | [],i,a,h,_=>by simp at h
  | x :: xs, 0, a, h, he => by
    simp only [List.getElem?_cons_zero,Option.some.injEq] at h; subst h
    have hc:=(f.fl x).1
    simp only [Nat.zero_mul,Nat.zero_add,List.map_cons,List.set_cons_zero,aCC]
    rw [← he]
    simp only [gL]
    rw [List.take_append_of_le_length (by omega),List.drop_append_of_le_length (by omega)]
    simp
  | x :: xs, i + 1, a, h, he => by
    simp only [List.getElem?_cons_succ] at h
    have ih:=f.flat_set hk (xs:=xs) h he
    have hc:=(f.fl x).1
    simp only [List.map_cons,List.set_cons_succ,aCC]
    rw [← ih]
    simp only [gL]
    have e1 : (i + 1) * f.sz + k = f.sz + (i * f.sz + k):=by rw [Nat.add_mul,Nat.one_mul]; omega
    rw [e1,← hc,List.take_append,List.drop_append]
    rw [List.take_of_length_le (by omega),List.drop_of_length_le (by omega : (f.d x).cells.length ≤ _)]
    simp only [Nat.add_sub_cancel_left,List.append_assoc,List.nil_append]
    congr 4
    omega
theorem sS {α : Type} (f : Enc0 α) {T : TypeId} {x y : Operand} {z : Option Value} {size bytes : Nat} {id i k : Nat} {e : TypeId} {xs zs : List α} {a a' : α} {d : D} (ho : o.op = .store T x y) (hd : o.dst = none)
    (hi : TI P T z size bytes) (hx : SV S x (.ref id (i * f.sz + k))) (he : S.ent id = .blk e (D.flat (xs.map f.d))) (hy : SV S y d) (hb : d.boxable = true) (hsz : d.cells.length = size) (h1 : d.cells.all D.one = true)
    (ha : xs[i]? = some a) (hn : k + size ≤ f.sz) (hs : gL (f.d a).cells k d.cells = (f.d a').cells) (hz : xs.set i a' = zs) : IOp P O N o S (S.setE id (.blk e (D.flat (zs.map f.d)))):=by
  subst hz
  refine cH ho hd hi hx he hy hb hsz h1 ?_ (f.flat_set (by omega) ha hs)
  have:=(List.getElem?_eq_some_iff.1 ha).1
  have : (i + 1) * f.sz ≤ xs.length * f.sz:=Nat.mul_le_mul_right _ (by omega)
  rw [f.flat_len]; rw [Nat.add_mul,Nat.one_mul] at this; omega
theorem aZ {e : TypeId} {z : Value} {size bytes : Nat} {cs cs' : List D} (id : Nat) (ho : o.op = .alloc e) (hd : o.dst = some t) (ht : t < N) (hf : S.ent id = .fresh) (hz : TI P e (some z) size bytes) (hb : (D.ofVal z).boxable = true) (hcs : (D.ofVal z).cells = cs) (hk : SubL cs cs') :
    IOp P O N o S ((S.setE id (.blk e cs')).set t (.ref id 0)):=by
  refine (aDy id ho hd ht hf hz hb hcs).to fun E β a hr=>?_
  have:=hr.subE (id:=id) (e:=e) (ds:=cs) (ds':=cs') (by simp [St.ent,entL,St.setE,St.set,aX]) hk
  refine ⟨this.n,this.nd,?_,this.sl⟩
  have h2:=this.h
  have e2 : (((S.setE id (.blk e cs)).set t (.ref id 0)).setE id (.blk e cs')).ent = ((S.setE id (.blk e cs')).set t (.ref id 0)).ent:=by
    funext j; simp only [St.ent,entL,St.setE,St.set,aX]; split <;> rfl
  rw [← e2]; exact h2
theorem Rel.subT {E : Env} {β : bW} {a : Act} {d d' : D} (h : Rel O N (S.set t d) E β a) (k : Sub d d') : Rel O N (S.set t d') E β a:=by
  have:=h.subS (t:=t) (d:=d) (d':=d') (by simp [St.get,St.set,aX]) k
  refine ⟨this.n,this.nd,this.h,fun s=>?_⟩
  have h2:=this.sl s
  simp only [St.get,St.set,aX] at h2 ⊢
  split
  · rename_i hh; rw [if_pos hh] at h2; exact h2
  · rename_i hh; rw [if_neg hh,if_neg hh] at h2; exact h2
theorem kM {d d' : D} (h : IOp P O N o S (S.set t d)) (k : Sub d d') : IOp P O N o S (S.set t d'):=h.to fun _ _ _ hr=>hr.subT k

end
end Go.IL
namespace Go.IL
def eInt (k : IntKind) : Enc Int:=⟨⟨D.int k,1,by decide,fun _=>⟨rfl,rfl⟩⟩,fun _=>rfl⟩
def gI : Enc UInt8:=⟨⟨aCs,1,by decide,fun _=>⟨rfl,rfl⟩⟩,fun _=>rfl⟩
def eBool : Enc Bool:=⟨⟨D.bool,1,by decide,fun _=>⟨rfl,rfl⟩⟩,fun _=>rfl⟩
def eStr : Enc (List UInt8):=⟨⟨D.str,1,by decide,fun _=>⟨rfl,rfl⟩⟩,fun _=>rfl⟩
def eLst {α : Type} (f : Enc α) : Enc (List α):=⟨⟨fun l=>D.slice false (l.map f.d),1,by decide,fun _=>⟨rfl,rfl⟩⟩,fun _=>rfl⟩
theorem EntW.lst {α : Type} {f : Enc α} {xs : List α} {S S' : St} {ρ : Nat → Nat} {id : Nat} {e : TypeId} (h : S.ent (ρ id) = .blk e (D.flat (xs.map f.d))) : EntW S S' ρ id (.blk e (D.flat (xs.map f.d))):=.plain h rfl (f.noRef xs)
theorem bS {l : List Nat} (ks : List Nat) (h : l = ks) (hd : ks.Nodup) : l.Nodup:=h ▸ hd
def eRef (b : Nat) : Enc0 Nat:=⟨D.ref b,1,by decide,fun _=>⟨rfl,rfl⟩⟩
theorem wI {α : Type} {xs zs : List α} {i n : Nat} {a : α} (h : xs.set i a = zs) (k : xs.length = n) : zs.length = n:=by rw [← h,List.length_set,k]
theorem iV {α : Type} (f : Enc α) {ρ : Nat → Nat} (l : List α) : D.renL ρ (D.flat (l.map f.d)) = D.flat (l.map f.d):=D.renL_bare _ (f.noRef l)
theorem jL {ρ : Nat → Nat} {b : Nat} : ∀ (l : List Nat),D.renL ρ (D.flat (l.map (eRef b).d)) = D.flat (l.map (eRef (ρ b)).d)
  | []=>rfl
  | x :: l => by
    show D.renL ρ (.ref b x :: D.flat (l.map (eRef b).d)) = .ref (ρ b) x :: _
    rw [D.renL,jL l]; rfl
theorem vZ {p : Nat → Bool} {b : Nat} (hb : p b = true) : ∀ (l : List Nat),D.refsInL p (D.flat (l.map (eRef b).d)) = true
  | []=>rfl
  | x :: l => by
    show D.refsInL p (.ref b x :: D.flat (l.map (eRef b).d)) = true
    rw [D.refsInL,vZ hb l,D.refsIn,hb]; rfl
theorem aCS {α : Type} (f : Enc α) {p : Nat → Bool} (l : List α) : D.refsInL p (D.flat (l.map f.d)) = true:=D.refsInL_mono _ (f.noRef l)

def D.i64? : D → Option Int
  | .int .i64 n=>some n
  | _=>none
def aBI (l : List (Option Int)) (o : Nat) : Option Int:=(l[o]?).join
def updC (n : Int) (b : Bool) : D → D
  | .int .i64 c=>.int .i64 (bif b then n else c)
  | d=>d
def updI (o : Nat) (n : Int) : Nat → List D → List D
  | _,[]=>[]
  | k,d :: r=>updC n (Nat.beq o k) d :: updI o n (k + 1) r
theorem aGt {n : Int} : ∀ (d : D),updC n false d = d:=by
  intro d
  unfold updC
  split <;> rfl
theorem aFb {a b : Nat} (h : a ≠ b) : Nat.beq a b = false:=by
  cases hb : Nat.beq a b with
  | false=>rfl
  | true=>exact absurd (Nat.eq_of_beq_eq_true hb) h
theorem aFH {cs : List D} {o : Nat} {a : Int} (h : aBI (cs.map D.i64?) o = some a) : cs[o]? = some (.int .i64 a):=by
  unfold aBI at h
  rw [List.getElem?_map] at h
  cases hc : cs[o]? with
  | none=>rw [hc] at h; cases h
  | some d =>
    rw [hc] at h
    simp only [Option.map_some,Option.join_some] at h
    cases d with
    | int k n=>cases k <;> simp [D.i64?] at h; subst h; rfl
    | _=>cases h
theorem aC0 {n : Int} : ∀ (cs : List D) (k o : Nat),o < k → updI o n k cs = cs
  | [],_,_,_=>rfl
  | d :: cs,k,o,h=>by rw [updI,aC0 cs (k + 1) o (by omega),aFb (by omega),aGt]
theorem aCz {n a : Int} : ∀ (cs : List D) (k o : Nat),cs[o]? = some (.int .i64 a) → cs.set o (.int .i64 n) = updI (k + o) n k cs
  | [],_,_,h=>by simp at h
  | d :: cs, k, 0, h => by
    simp only [List.getElem?_cons_zero,Option.some.injEq] at h; subst h
    simp only [List.set_cons_zero,updI,Nat.add_zero]
    rw [aC0 cs (k + 1) k (by omega),Nat.beq_refl]; rfl
  | d :: cs, k, o + 1, h => by
    simp only [List.getElem?_cons_succ] at h
    simp only [List.set_cons_succ,updI]
    rw [aCz (n:=n) cs (k + 1) o h,show k + 1 + o = k + (o + 1) by omega,aFb (by omega),aGt]
section
variable {P : Program} {O : cG} {N : Nat} {S : St} {o : Oper} {t : Nat}
theorem aB1 {T : TypeId} {x : Operand} {u : TypeDesc} {z : Option Value} {bytes : Nat} {id off : Nat} {e : TypeId} {cs : List D} {a : Int} (ho : o.op = .load T x) (hd : o.dst = some t) (ht : t < N)
    (hu : P.underlying T = some u) (hg : eA P T = false) (hi : TI P T z 1 bytes) (hx : SV S x (.ref id off)) (he : S.ent id = .blk e cs) (hc : aBI (cs.map D.i64?) off = some a) : IOp P O N o S (S.set t (.int .i64 a)):=by
  have h1:=aFH hc
  have h2:=(List.getElem?_eq_some_iff.1 h1).1
  exact eC ho hd ht hu hg hi (by decide) hx he (by omega) (drop_at h1)
theorem vD {T : TypeId} {x y : Operand} {z : Option Value} {bytes : Nat} {id off : Nat} {e : TypeId} {cs cs' : List D} {a n : Int} (ho : o.op = .store T x y) (hd : o.dst = none)
    (hi : TI P T z 1 bytes) (hx : SV S x (.ref id off)) (he : S.ent id = .blk e cs) (hy : SV S y (.int .i64 n)) (hc : aBI (cs.map D.i64?) off = some a) (hs : updI off n 0 cs = cs') : IOp P O N o S (S.setE id (.blk e cs')):=by
  have h1:=aFH hc
  have h2:=(List.getElem?_eq_some_iff.1 h1).1
  have h3:=aCz (n:=n) cs 0 off h1
  rw [Nat.zero_add] at h3
  exact aBz ho hd hi hx he hy rfl h2 (by rw [h3,hs])
end
theorem aEO {S : St} {x : Operand} {k : IntKind} {n m : Int} (h : SV S x (.int k n)) (e : m = n) : SV S x (.int k m):=e ▸ h
end Go.IL
open Go.RowKit
namespace Go.IL

mutual
def D.nomem : D → Bool
  | .dead | .bool _ | .int _ _ | .float _ _ | .str _ | .nils | .nilp | .nilf | .nili=>true
  | .agg cs=>D.nomemL cs
  | .tuple cs=>D.nomemL cs
  | _=>false
def D.nomemL : List D → Bool
  | []=>true
  | d :: ds=>d.nomem && D.nomemL ds
end
mutual
theorem Rd.nomem {E E' : Env} {β β' : bW} : ∀ {v : Value} {d : D},d.nomem = true → Rd E β v d → Rd E' β' v d
  | _,.dead,_,_=>.dead _ _
  | _,.bool b,_,.bool _ _=>.bool _ b
  | _,.int k n,_,.int _ _ _=>.int _ k n
  | _,.float k n,_,.float _ _ m _ h=>.float _ k m n h
  | _,.str l,_,.str _ _=>.str _ l
  | _,.nils,_,.nils _=>.nils _
  | _,.nilp,_,.nilp _=>.nilp _
  | _,.nilf,_,.nilf _=>.nilf _
  | _,.nili,_,.nili _=>.nili _
  | _,.agg cs,h,.agg _ vs _ hv=>.agg _ vs cs (RdL.nomem (by simpa [D.nomem] using h) hv)
  | _,.tuple cs,h,.tuple _ vs _ hv=>.tuple _ vs cs (RdL.nomem (by simpa [D.nomem] using h) hv)
theorem RdL.nomem {E E' : Env} {β β' : bW} : ∀ {vs : List Value} {ds : List D},D.nomemL ds = true → RdL E β vs ds → RdL E' β' vs ds
  | _,[],_,.nil _=>.nil _
  | _, d :: ds, h, .cons hv t =>
    have h' : d.nomem = true ∧ D.nomemL ds = true:=by simpa [D.nomemL] using h
    .cons (Rd.nomem h'.1 hv) (RdL.nomem h'.2 t)
end

mutual
inductive FD (S : St) : D → D → Prop
  | refl (d) : FD S d d
  | nils (f) : FD S .nils (.slice f [])
  | gsl (id sz l) : FD S (.gsl id sz l) (.slice false l)
  | osl {id sz n e l} (he : S.ent id = .blk e (D.flat l)) (hn : l.length = n) (hz : ∀ d ∈ l,d.cells.length = sz) (hp : D.refsInL noRef (D.flat l) = true) : FD S (.osl id sz n) (.slice false l)
  | ref {id off e ds cs cs'} (he : S.ent id = .blk e ds) (hd : ds.drop off = cs) (h : FDL S cs cs') (hp : D.refsInL noRef cs' = true) : FD S (.ref id off) (.fptr cs')
  | dead (d) : FD S d .dead
  | agg {cs cs'} (h : FDL S cs cs') : FD S (.agg cs) (.agg cs')
  | tuple {cs cs'} (h : FDL S cs cs') : FD S (.tuple cs) (.tuple cs')
  | fn {f cs cs'} (h : FDL S cs cs') : FD S (.fn f cs) (.fn f cs')
  | mv {f cs cs'} (h : FDL S cs cs') : FD S (.mv f cs) (.mv f cs')
inductive FDL (S : St) : List D → List D → Prop
  | nil : FDL S [] []
  | cons {d d' ds ds'} (h : FD S d d') (t : FDL S ds ds') : FDL S (d :: ds) (d' :: ds')
end

theorem aDH {S : St} : ∀ (ds : List D),FDL S ds ds
  | []=>.nil
  | d :: ds=>.cons (.refl d) (aDH ds)
theorem FDT {α : Type} (f : Enc α) {S : St} {id n : Nat} {e : TypeId} {xs : List α} (he : S.ent id = .blk e (D.flat (xs.map f.d))) (hn : xs.length = n) : FD S (.osl id f.sz n) (.slice false (xs.map f.d)) :=
  .osl he (by rw [List.length_map,hn]) (f.len xs) (f.noRef xs)

def Env.all (E : Env) (β : bW) (S : St) : Env:=⟨E.w,fun b o=>E.X b o ∧ ¬ ∃ i,(S.ent i).held = true ∧ β i = some b⟩
theorem Env.all_le (E : Env) (β : bW) (S : St) : E.le (E.all β S) :=
  ⟨fun _ _ _ h1 h2=>⟨h1,fun h3=>h2 h3.1⟩,fun _ c _ f h1=>⟨c,f,h1,rfl⟩⟩

section
variable {P : Program} {O : cG} {N : Nat} {S S' : St} {o : Oper} {t : Nat} {Q : Exit → St → Prop}

theorem aEd {E : Env} {β : bW} (h : HOk O E β S.ent) {id b : Nat} {e : TypeId} {ds : List D} (he : S.ent id = .blk e ds) (hb : β id = some b) :
    ∃ vs,(E.all β S).row b 0 vs ∧ RdL E β vs ds:=by
  have hent:=h.ent id
  rw [he] at hent
  obtain ⟨vs,sp,_,hh,_,hl⟩:=vP hent hb
  refine ⟨vs,fun k v hk=>⟨?_,fun h3=>h3.2 ⟨id,by rw [he]; rfl,hb⟩⟩,hl⟩
  show E.w.cell? _ = _
  have hlt:=(List.getElem?_eq_some_iff.1 hk).1
  rw [Nat.zero_add,cell_of_row _ _ _ _ _ _ hh]; simpa [List.getElem?_append_left hlt] using hk

theorem aEh {E : Env} {β : bW} (h : HOk O E β S.ent) {v : Value} {id sz n : Nat} {e : TypeId} {l : List D} (he : S.ent id = .blk e (D.flat l)) (hn : l.length = n) (hz : ∀ d ∈ l,d.cells.length = sz) (hp : D.refsInL noRef (D.flat l) = true) (hv : Rd E β v (.osl id sz n)) : Rd (E.all β S) β v (.slice false l):=by
  cases hv with
  | osl _ _ b _ cap _ hb hc hsz _ _ _ _ _ _ =>
    obtain ⟨vs,hr,hv⟩:=aEd h he hb
    exact .slice _ b 0 n cap sz false vs l hn hc (fun h=>by cases h) hz hsz hr ((RdL.mono (E.all_le β S) (bW.le.refl _) hv).bare hp)
  | nosl=>rw [List.length_eq_zero_iff.1 hn]; exact .nslice _ false
mutual
theorem Rd.fd {E : Env} {β : bW} (h : HOk O E β S.ent) : ∀ {v : Value} {d d' : D},FD S d d' → Rd E β v d → Rd (E.all β S) β v d'
  | _,_,_,.refl _,hv=>Rd.mono (E.all_le β S) (bW.le.refl _) hv
  | _,_,_,.nils f,.nils _=>.nslice _ f
  | _,_,_,.gsl _ _ _,.gsl _ _ b len cap sz vs _ _ hl hc hz hsz hr hv _ _ _ _ _ _=>.slice _ b 0 len cap sz false vs _ hl hc (fun h=>by cases h) hz hsz ((E.all_le β S).row hr) (RdL.mono (E.all_le β S) (bW.le.refl _) hv)
  | _,_,_,.gsl _ _ _,.ngsl _ _ _=>.nslice _ false
  | _,_,_,.osl he hn hz hp,hv=>aEh h he hn hz hp hv
  | _, _, _, .ref (off := off) he hd hc hp, .ref _ _ _ b hb =>
    let ⟨vs,hr,hv⟩:=aEd h he hb
    .fptr _ b off (vs.drop off) _ (by have:=hr.drop off; rwa [Nat.zero_add] at this) ((RdL.fd h hc (hd ▸ hv.drop off)).bare hp)
  | _,_,_,.dead _,_=>.dead _ _
  | _,_,_,.agg hc,.agg _ vs _ hv=>.agg _ vs _ (RdL.fd h hc hv)
  | _,_,_,.tuple hc,.tuple _ vs _ hv=>.tuple _ vs _ (RdL.fd h hc hv)
  | _,_,_,.fn hc,.fn _ f vs _ hv=>.fn _ f vs _ (RdL.fd h hc hv)
  | _,_,_,.mv hc,.mv _ f us _ hv=>.mv _ f us _ (RdL.fd h hc hv)
theorem RdL.fd {E : Env} {β : bW} (h : HOk O E β S.ent) : ∀ {vs : List Value} {ds ds' : List D},FDL S ds ds' → RdL E β vs ds → RdL (E.all β S) β vs ds'
  | _,_,_,.nil,.nil _=>.nil _
  | _,_,_,.cons h1 t,.cons hv tv=>.cons (Rd.fd h h1 hv) (RdL.fd h t tv)
end

theorem lQ {f : FuncId} {fn : Func} {c : Code} {ds rs : List D} (hf : P.funcs[f]? = some fn) (hb : fn.body = some c) (hN : fn.ntmps = N) (hlen : ds.length ≤ N) (hp : D.refsInL noRef rs = true)
    (h : ∀ O : cG,O.Plain → IWP P O N c ⟨(List.range ds.length).zip ds,[]⟩ (fun e S=>(e = .normal ∨ e = .ret) ∧ ∃ rs0,aAP P S fn.results.toList rs0 ∧ FDL S rs0 rs)) : bR P f ds (retD rs):=by
  intro E vs hX hvs
  let O : cG:=⟨E.w,E.X,fun _=>False,β0,none,fun _=>[],fun _=>0,fun _=>[],fun _=>(#[],.skip,.skip)⟩
  have hl:=hvs.length
  have hrel : Rel O N ⟨(List.range ds.length).zip ds, []⟩ E β0 { tmps := vs.toArray ++ Array.replicate (fn.ntmps - vs.toArray.size) undef, defers := [] } := by
    refine ⟨by simp; omega,qI.nil,?_,?_⟩
    · exact aBH hX
    · intro s
      have key : ∀ (ds : List D) (vs : List Value) (k : Nat),RdL E β0 vs ds → Rd E β0 (if s < k then undef else vs.getD (s - k) undef) (look .dead s ((List.range' k ds.length).zip ds)):=by
        intro ds
        induction ds with
        | nil=>intro vs k _; simp [look]; exact .dead _ _
        | cons d ds ih =>
          intro vs k hv
          cases hv with
          | cons h1 h2 =>
            simp only [List.length_cons,List.range'_succ,List.zip_cons_cons,aX]
            by_cases hks : k = s
            · subst hks; simpa using h1
            · rw [if_neg hks]
              have:=ih _ (k + 1) h2
              by_cases hlt : s < k
              · simpa [hlt,show s < k + 1 by omega] using this
              · have h3 : ¬ s < k + 1 := by omega
                rw [if_neg hlt]; rw [if_neg h3] at this
                rw [show s - k = (s - (k + 1)) + 1 by omega]
                simpa using this
      have:=key ds vs 0 hvs
      rw [List.range_eq_range']
      simp only [Nat.not_lt_zero,if_false,Nat.sub_zero] at this
      have hg : (vs.toArray ++ Array.replicate (fn.ntmps - vs.toArray.size) undef).getD s undef = vs.getD s undef:=by
        by_cases hs : s < vs.length
        · simp [hs,Array.getElem?_append]
        · simp [Array.getElem?_append, hs, List.getElem?_eq_none (Nat.le_of_not_lt hs)]
          simp [Array.getElem?_replicate]
          split <;> rfl
      show Rd E β0 (Array.getD _ s undef) _
      rw [hg]
      exact this
  refine nT hf hb rfl (fun _ _ h=>h) hrel (h O ⟨rfl,fun _ _ h=>h,fun _=>rfl⟩) ?_
  rintro e S' E' β' a' hr' ⟨he,rs0,hres,hfd⟩
  refine ⟨he,?_⟩
  have hbelow : Below E.w.heap.size E.w E'.w:=⟨hr'.h.os,hr'.h.tape,hr'.h.output,hr'.h.size,fun k hk=>hr'.h.block k hk (fun h=>h)⟩
  obtain ⟨vs',h1,h2⟩:=oU (P:=P) hr' hres
  have h3:=(RdL.fd hr'.h hfd h2).bare hp
  have hxx : (E'.all β' S').le ⟨E'.w,E.X⟩:=by
    constructor
    · intro b o v hc hx
      refine ⟨hc,fun hX'=>hx ⟨(hr'.h.xold b o (hX.xlt b o hX') (fun h=>h)).2 hX',?_⟩⟩
      rintro ⟨i,hi,hb⟩
      have hlt : b < E.w.heap.size:=hX.xlt b o hX'
      have hown : O.own b:=hr'.h.own hi hb
      rcases hown with h1 | h1
      · exact absurd hlt (Nat.not_lt.2 h1)
      · exact h1
    · intro b c e f hc; exact ⟨c,f,hc,rfl⟩
  have h4:=RdL.mono hxx (bW.le.refl _) h3
  have hrun : (results fn a'.tmps).run P E'.w = .ok (if h : vs'.toArray.size = 1 then vs'.toArray[0] else .tuple vs'.toArray) E'.w:=by
    have hF : results fn a'.tmps = (fn.results.mapM (resF a'.tmps)) >>= fun vs=>pure (if h : vs.size = 1 then vs[0] else .tuple vs):=by
      unfold results
      congr 2
    rw [hF,← Array.toArray_toList (xs:=fn.results),List.mapM_toArray]
    simp only [Sem.run_bind,Sem.run_map,h1,Result.andThen_ok,Sem.run_pure]
  have hfin : ∃ v,(results fn a'.tmps).run P E'.w = .ok v E'.w ∧ Rd ⟨E'.w,E.X⟩ β0 v (retD rs):=by
    refine ⟨_,hrun,?_⟩
    cases h4 with
    | nil=>simpa [retD] using Rd.tuple (E:=⟨E'.w,E.X⟩) β0 [] [] (.nil _)
    | cons h5 h6 =>
      cases h6 with
      | nil=>simpa [retD] using h5
      | cons h7 h8 =>
        simp only [retD,List.size_toArray,List.length_cons]
        rw [dif_neg (by omega)]
        exact .tuple _ _ _ (.cons h5 (.cons h7 h8))
  obtain ⟨v,h5,h6⟩:=hfin
  exact ⟨v,h5,v,rfl,hbelow,h6⟩
end
end Go.IL
namespace Go.IL
section
variable {P : Program} {O : cG} {N : Nat} {S S' : St} {o : Oper} {t : Nat}
theorem EntW.lstR {ρ : Nat → Nat} {id b : Nat} {e : TypeId} {l : List Nat} (h : S.ent (ρ id) = .blk e (D.flat (l.map (eRef (ρ b)).d))) (hb : S'.okn b = true) : EntW S S' ρ id (.blk e (D.flat (l.map (eRef b).d))) :=
  .blk h (jL l).symm (vZ hb l)
theorem aDF {α : Type} (f : Enc α) {p : Nat → Bool} {e : TypeId} {l : List α} : (Ent.blk e (D.flat (l.map f.d))).refsIn p = true:=aCS f l
theorem aFI {p : Nat → Bool} {b : Nat} (hb : p b = true) {e : TypeId} {l : List Nat} : (Ent.blk e (D.flat (l.map (eRef b).d))).refsIn p = true:=vZ hb l
theorem fQ {f : FuncId} {xs : List Operand} {ts : Array TypeId} {ds ds' : List D} {r r' : D} {H0 H1 H1' : List (Nat × Ent)} (k : Nat) (A : List Nat) (ho : o.op = .call { callee:=.value (.func f),args:=xs.toArray,argTypes:=ts }) (hd : o.dst = some t) (ht : t < N)
    (hc : aV P f) (hx : SVs S xs ds') (hds : D.renL (sig k A) ds = ds') (hp : D.refsInL (iD A) ds = true)
    (hh : Hand S k A H0) (hf : FnH P f ds H0 r H1) (hrr : r.ren (sig k A) = r') (hrp : r.refsIn (pF k A) = true) (hH1 : ∀ x ∈ H1,pF k A x.1 = true ∧ x.2.refsIn (pF k A) = true)
    (hH2 : (H1.map fun x=>(sig k A x.1,x.2.ren (sig k A))) = H1') : IOp P O N o S (St.set ⟨S.sl,H1' ++ ((H0.map fun x=>(sig k A x.1,Ent.none)) ++ S.H)⟩ t r') :=
  aFE k A ho hd ht hc hx hds hp hh hf hrr hrp hH1 (by rw [← hH2]; rfl)
theorem aAg {α : Type} {l : List α} (hl : 0 < l.length) : ∀ (m j : Nat),j < m * l.length → (List.replicate m l).flatten[j]? = l[j % l.length]?
  | 0,j,h=>by omega
  | m + 1, j, h => by
    rw [List.replicate_succ,List.flatten_cons]
    by_cases hj : j < l.length
    · rw [List.getElem?_append_left hj,Nat.mod_eq_of_lt hj]
    · rw [List.getElem?_append_right (by omega), aAg hl m (j - l.length) (by rw [Nat.add_mul, Nat.one_mul] at h; omega)]
      rw [Nat.mod_eq_sub_mod (a:=j) (by omega)]
theorem aEw {z : Array Value} (hz : 0 < z.size) (m : Nat) : madeCells z (m * z.size) = (List.replicate m z.toList).flatten.toArray:=by
  have hl : (List.replicate m z.toList).flatten.length = m * z.size:=by simp
  apply Array.ext
  · rw [size_madeCells]; simp
  · intro j h1 h2
    rw [size_madeCells] at h1
    have h3:=aAg (l:=z.toList) (by simpa using hz) m j (by simpa using h1)
    have h4 : j % z.size < z.size:=Nat.mod_lt _ hz
    simp only [madeCells,Array.getElem_map,Array.getElem_range,List.getElem_toArray]
    have h5 : (List.replicate m z.toList).flatten[j]? = some ((List.replicate m z.toList).flatten[j]'(by omega)):=List.getElem?_eq_getElem _
    rw [h5] at h3
    simp only [Array.length_toList] at h3
    rw [List.getElem?_eq_getElem (by simpa using h4)] at h3
    rw [Option.some.inj h3]
    simp [h4]
theorem yY {E : Env} {β : bW} {vs : List Value} {ds : List D} (h : RdL E β vs ds) : ∀ (m : Nat),RdL E β (List.replicate m vs).flatten (List.replicate m ds).flatten
  | 0=>.nil _
  | m + 1=>by rw [List.replicate_succ,List.replicate_succ,List.flatten_cons,List.flatten_cons]; exact h.append (yY h m)
theorem aDG (d : D) : ∀ (m : Nat),D.flat (List.replicate m d) = (List.replicate m d.cells).flatten
  | 0=>rfl
  | m + 1=>by rw [List.replicate_succ,List.replicate_succ,List.flatten_cons,← aDG d m]; rfl
theorem zU {α : Type} (f : Enc0 α) (a : α) {T e : TypeId} {x : Operand} {k : IntKind} {n : Int} {z : Value} {bytes : Nat} {xs : List α} (id : Nat) (ho : o.op = .makeSlice T x x) (hd : o.dst = some t) (ht : t < N)
    (hu : P.underlying T = some (.slice e)) (hi : TI P e (some z) f.sz bytes) (hzs : z.cells.size = f.sz) (hf : S.ent id = .fresh) (hx : SV S x (.int k n)) (hm : made bytes n a = some xs)
    (hzd : SubL (z.cells.toList.map D.ofScalar) (f.d a).cells) :
    IOp P O N o S ((S.setE id (.blk e (D.flat (xs.map f.d)))).set t (.osl id f.sz xs.length)):=by
  obtain ⟨⟨h0,hb,h63⟩,rfl⟩:=made_e hm
  obtain ⟨m,rfl⟩:=Int.eq_ofNat_of_zero_le h0
  simp only [Int.toNat_natCast,List.length_replicate]
  refine aAd id hd ht hf (by rw [f.flat_len,List.length_replicate]) f.pos (by simp only [maxLen]; omega) fun E β a' hr=>⟨(List.replicate m z.cells.toList).flatten,?_,?_⟩
  · obtain ⟨i, h1, h2, h3, h4⟩ := hi.at
    have hxv:=jU (hx.rd hr)
    have:=run_make (P:=P) E.w T e i z hu h1 h2 k k (m : Int) (m : Int) (by omega) (by omega) (by rw [h4]; exact hb) (by omega)
    simp only [Int.toNat_natCast,h3] at this
    rw [← hzs,aEw (by rw [hzs]; exact f.pos)] at this
    simp only [execOp,ho,hxv,Sem.run_bind,this,Result.andThen_ok,Sem.run_pure]
  · rw [List.map_replicate, aDG]
    exact yY (RdL.sub hzd (rT E β z.cells.toList)) m
end
end Go.IL
namespace Go.IL
def aBS {α β : Type} [DecidableEq α] [DecidableEq β] (l : List α) (a b : Option β) : Option β:=if l = [] then (if a = b then a else none) else b
theorem aCt {α β : Type} [DecidableEq α] [DecidableEq β] {l : List α} {a b : Option β} {r : β} (h : aBS l a b = some r) (hl : l = []) : a = some r:=by
  unfold aBS at h; rw [if_pos hl] at h; split at h
  · exact h
  · cases h
theorem aCu {α β : Type} [DecidableEq α] [DecidableEq β] {l : List α} {a b : Option β} {r : β} (h : aBS l a b = some r) : b = some r:=by
  unfold aBS at h; split at h
  · split at h
    · rename_i e; rw [← e]; exact h
    · cases h
  · exact h
theorem mapE {α : Type} {f : α → D} {l : List α} (h : l.map f = []) : l = []:=List.map_eq_nil_iff.1 h
end Go.IL
namespace Go.IL
section
variable {P : Program} {O : cG} {N : Nat} {S S' : St} {o : Oper} {t : Nat}
theorem aGQ {xt yt : TypeId} {x y : Operand} {a b r : Bool} (ho : o.op = .binOp .eql xt x y yt) (hd : o.dst = some t) (ht : t < N) (hu : P.underlying xt = some .bool)
    (hx : SV S x (.bool a)) (hy : SV S y (.bool b)) (hr : (a == b) = r) : IOp P O N o S (S.set t (.bool r)):=hr ▸ iop_eqb ho hd ht hu hx hy
theorem aGO {xt yt : TypeId} {x y : Operand} {a b r : Bool} (ho : o.op = .binOp .neq xt x y yt) (hd : o.dst = some t) (ht : t < N) (hu : P.underlying xt = some .bool)
    (hx : SV S x (.bool a)) (hy : SV S y (.bool b)) (hr : (!(a == b)) = r) : IOp P O N o S (S.set t (.bool r)):=hr ▸ iop_neb ho hd ht hu hx hy
end
end Go.IL
namespace Go.IL
open RowKit (Below)

def noK (k : Nat) : Ent → Bool
  | .kept j _=>!(j == k)
  | .loop j ..=>!(j == k)
  | _=>true
def aCm (k : Nat) (ids : List Nat) (H : List (Nat × Ent)) : Bool:=H.all fun x=>ids.elem x.1 || noK k x.2
theorem pC {k : Nat} {ids : List Nat} {H : List (Nat × Ent)} (h : aCm k ids H = true) {id : Nat} (hid : id ∉ ids) : noK k (entL H id) = true:=by
  unfold entL
  rcases vC (z:=defE id) (t:=id) (l:=H) with h1 | h1
  · rw [h1]; unfold defE; split <;> rfl
  · have h2 := List.all_eq_true.1 h _ h1
    simp only [Bool.or_eq_true,List.elem_eq_mem,decide_eq_true_eq] at h2
    exact h2.resolve_left hid

def cG.same (O O' : cG) : Prop:=O'.w = O.w ∧ O'.X = O.X ∧ O'.foot = O.foot ∧ O'.given = O.given
def qH (O O' : cG) : Ent → Prop
  | .kept j _=>O'.kv j = O.kv j ∧ O'.dv j = O.dv j
  | .loop j ..=>O'.lv j = O.lv j ∧ O'.lc j = O.lc j
  | _=>True
theorem aBU.swap {O O' : cG} {E : Env} {β : bW} {id : Nat} {e : Ent} (h : aBU O E β id e) (hs : O.same O') (hc : qH O O' e) : aBU O' E β id e:=by
  obtain ⟨s1,s2,s3,s4⟩:=hs
  have hown : ∀ b,O.own b → O'.own b:=fun b hb=>by unfold cG.own at hb ⊢; rw [s1,s3]; exact hb
  cases e with
  | none=>trivial
  | fresh=>exact h
  | blk e ds =>
    rcases h with h | ⟨b,vs,sp,h1,h2,h3⟩
    · exact .inl h
    · exact .inr ⟨b,vs,sp,h1,hown b h2,h3⟩
  | tail e sz n =>
    rcases h with h | ⟨b,c,h1,h2,h3⟩
    · exact .inl h
    · exact .inr ⟨b,c,h1,hown b h2,h3⟩
  | loop lk ds st pend =>
    obtain ⟨b,r,h1,h2,h3,h4,h5,h6,h7,h8,h9,h10,h11⟩:=h
    obtain ⟨c1,c2⟩ : O'.lv lk = O.lv lk ∧ O'.lc lk = O.lc lk:=hc
    exact ⟨b,r,h1,hown b h2,h3,h4,by rw [c2]; exact h5,by rw [c2]; exact h6,by rw [c2]; exact h7,h8,h9,c1.trans h10,h11⟩
  | mp ks ds =>
    obtain ⟨b,es,cl,h1,h2,h3⟩:=h
    exact ⟨b,es,cl,h1,hown b h2,h3⟩
  | kept k ds =>
    obtain ⟨c1,c2⟩ : O'.kv k = O.kv k ∧ O'.dv k = O.dv k:=hc
    exact ⟨c1 ▸ h.1,fun b hb=>h.2 b (c2 ▸ hb)⟩
theorem HOk.swap {O O' : cG} {E : Env} {β : bW} {H H' : Nat → Ent} (h : HOk O E β H) (hs : O.same O') (hc : ∀ id,(H' id = H id ∧ qH O O' (H id)) ∨ H' id = .none) : HOk O' E β H' where
  os:=by rw [hs.1]; exact h.os
  tab:=by rw [hs.1,hs.2.1]; exact h.tab
  tape:=by rw [hs.1]; exact h.tape
  output:=by rw [hs.1]; exact h.output
  size:=by rw [hs.1]; exact h.size
  block k hk hf:=by rw [hs.1] at hk ⊢; rw [hs.2.2.1] at hf; exact h.block k hk hf
  xlt:=h.xlt
  xold b o hb hf:=by rw [hs.1] at hb; rw [hs.2.2.1] at hf; rw [hs.2.1]; exact h.xold b o hb hf
  ent id:=by
    rcases hc id with ⟨h1,h2⟩ | h1
    · rw [h1]; exact (h.ent id).swap hs h2
    · rw [h1]; trivial
  inj i j b hi hj := by
    have key : ∀ i,(H' i).held = true → (H i).held = true:=fun i hi=>by
      rcases hc i with ⟨h1,_⟩ | h1
      · rwa [h1] at hi
      · rw [h1] at hi; cases hi
    exact h.inj i j b (key i hi) (key j hj)
  le:=by rw [hs.1,hs.2.1]; exact h.le
  gid:=by rw [hs.2.2.2]; exact h.gid
  given:=by rw [hs.2.2.2]; exact h.given
theorem HOk.addK {O : cG} {E : Env} {β : bW} {H : List (Nat × Ent)} (h : HOk O E β (entL H)) {id k : Nat} {ds : List D} (hr : RdL E β (O.kv k) ds) (hd : ∀ b ∈ O.dv k, E.w.heap[b]? = some (.deferred (some []))) : HOk O E β (entL ((id, .kept k ds) :: H)) :=
  { h with
    ent:=fun j=>by
      show aBU O E β j (look _ _ _)
      rw [aX]
      by_cases hj : id = j
      · rw [if_pos hj]; exact ⟨hr,hd⟩
      · rw [if_neg hj]; exact h.ent j
    inj := fun i j b hi hj => by
      have key : ∀ i,(entL ((id,.kept k ds) :: H) i).held = true → (entL H i).held = true:=fun i hi=>by
        have hi' : (look (defE i) i ((id,.kept k ds) :: H)).held = true:=hi
        rw [aX] at hi'
        by_cases h : id = i
        · rw [if_pos h] at hi'; cases hi'
        · rw [if_neg h] at hi'; exact hi'
      exact h.inj i j b (key i hi) (key j hj) }

theorem yW {E : Env} {β : bW} {vs : List Value} {ds : List D} (hv : RdL E β vs ds) (n : Nat) (s : Nat) : Rd E β ((vs.toArray ++ Array.replicate n undef).getD s undef) (look .dead s ((List.range ds.length).zip ds)) := by
  have key : ∀ (ds : List D) (vs : List Value) (k : Nat),RdL E β vs ds → Rd E β (if s < k then undef else vs.getD (s - k) undef) (look .dead s ((List.range' k ds.length).zip ds)):=by
    intro ds
    induction ds with
    | nil=>intro vs k _; simp [look]; exact .dead _ _
    | cons d ds ih =>
      intro vs k hv
      cases hv with
      | cons h1 h2 =>
        simp only [List.length_cons,List.range'_succ,List.zip_cons_cons,aX]
        by_cases hks : k = s
        · subst hks; simpa using h1
        · rw [if_neg hks]
          have:=ih _ (k + 1) h2
          by_cases hlt : s < k
          · simpa [hlt,show s < k + 1 by omega] using this
          · have h3 : ¬ s < k + 1 := by omega
            rw [if_neg hlt]; rw [if_neg h3] at this
            rw [show s - k = (s - (k + 1)) + 1 by omega]
            simpa using this
  have:=key ds vs 0 hv
  rw [List.range_eq_range']
  simp only [Nat.not_lt_zero,if_false,Nat.sub_zero] at this
  have hg : (vs.toArray ++ Array.replicate n undef).getD s undef = vs.getD s undef:=by
    by_cases hs : s < vs.length
    · simp [hs,Array.getElem?_append]
    · simp [Array.getElem?_append, hs, List.getElem?_eq_none (Nat.le_of_not_lt hs)]
      simp [Array.getElem?_replicate]
      split <;> rfl
  rw [hg]
  exact this
theorem sN {E : Env} {β : bW} {a : Array Value} {ds : List D} (hv : RdL E β a.toList ds) (s : Nat) : Rd E β (a.getD s undef) (look .dead s ((List.range ds.length).zip ds)):=by
  have:=yW hv 0 s
  simpa using this
def allD (N : Nat) (S : St) : List D:=(List.range N).map S.get
theorem aAs {O : cG} {N : Nat} {S : St} {E : Env} {β : bW} {a : Act} (hr : Rel O N S E β a) : RdL E β a.tmps.toList (allD N S):=by
  have key : ∀ (l : List Value) (k : Nat),(∀ s,s < l.length → Rd E β (l.getD s undef) (S.get (k + s))) → RdL E β l ((List.range' k l.length).map S.get):=by
    intro l
    induction l with
    | nil=>intro k _; exact .nil _
    | cons v l ih =>
      intro k h
      rw [List.length_cons,List.range'_succ,List.map_cons]
      refine .cons (by simpa using h 0 (by simp)) (ih (k + 1) fun s hs=>?_)
      have:=h (s + 1) (by simpa using hs)
      rw [show k + 1 + s = k + (s + 1) by omega]
      simpa using this
  unfold allD
  have hn : a.tmps.toList.length = N:=by simpa using hr.n
  have:=key a.tmps.toList 0 fun s hs=>by
    have h1:=hr.sl s
    rw [Nat.zero_add]
    simpa using h1
  rwa [hn,← List.range_eq_range'] at this
theorem HOk.turn {O : cG} {E : Env} {β : bW} {H : List (Nat × Ent)} (h : HOk O E β (entL H)) {id k : Nat} {ds : List D} {st : LoopState} {pend : Option Code} (he : entL H id = .loop k ds st pend) :
    ∃ r, E.w.heap[O.lv k]? = some (.loop r) ∧ β id = some (O.lv k) ∧ r.params = (O.lc k).1 ∧ r.assign = (O.lc k).2.1 ∧ r.body = (O.lc k).2.2 ∧ r.state = st ∧ r.pending = pend ∧ ∀ st' pend', (E).le ⟨E.w.putObj (O.lv k) (.loop { r with state := st', pending := pend' }), E.X⟩ ∧
      HOk O ⟨E.w.putObj (O.lv k) (.loop { r with state:=st',pending:=pend' }),E.X⟩ β (entL ((id,.loop k ds st' pend') :: H)):=by
  have hh:=h.ent id
  rw [he] at hh
  obtain ⟨b,r,h1,h2,h3,h4,h5,h6,h7,h8,h9,h10,h11⟩:=hh
  subst h10
  refine ⟨r,h3,h1,h5,h6,h7,h8,h9,fun st' pend'=>?_⟩
  let E' : Env:=⟨E.w.putObj (O.lv k) (.loop { r with state:=st',pending:=pend' }),E.X⟩
  have hs : Step O E E' (O.lv k):=⟨rfl,rfl,rfl,by simp [E',World.putObj],by simpa [E',World.putObj] using dI h3,h2,fun j _ hj=>World.putObj_heap_other hj,fun _ _ _=>Iff.rfl,fun _ hx=>by rw [h3] at hx; cases hx⟩
  have hle : E.le E':=hs.le (fun o v _ hx=>absurd (h4 o) hx) (fun c e f hx=>by rw [h3] at hx; cases hx)
  refine ⟨hle,HOk.put h hs hle (bW.le.refl _) (id:=id) (fun j hj=>?_) (fun j hj hh hb=>?_) h1 ?_ (fun _ _=>trivial)⟩
  · left; exact ⟨by show look _ _ _ = _; rw [aX,if_neg (Ne.symm hj)]; rfl,rfl⟩
  · have hh' : (look (defE j) j ((id, .loop k ds st' pend') :: H)).held = true := hh
    rw [aX,if_neg (Ne.symm hj)] at hh'
    exact hj (h.inj j id _ hh' (by rw [he]; rfl) hb h1)
  · show aFm O E' β _ (look _ _ _)
    rw [aX,if_pos rfl]
    exact ⟨_,World.putObj_heap_same (dI h3),h4,h5,h6,h7,rfl,rfl,rfl,RdL.mono hle (bW.le.refl _) h11⟩
end Go.IL
namespace Go.IL
open RowKit (Below)
section
variable {P : Program} {O : cG} {N : Nat} {S S' : St} {Q : Exit → St → Prop}

@[reducible] def rangeQ (P : Program) (O : cG) (N k : Nat) (Q : Exit → St → Prop) (e : Exit) (S' : St) : Prop :=
  (e = .normal ∨ e = .ret) ∧ ∃ iL iK dl ds' st pend,S'.ent iL = .loop k dl st pend ∧ st ≠ .busy ∧ S'.ent iK = .kept k ds' ∧ aCm k [iL,iK] S'.H = true ∧
    ∃ S2 ρ,Weak ⟨(List.range N).zip ds',(iK,.none) :: (iL,.none) :: S'.H⟩ S2 ρ ∧ match pend with
    | none=>Q .normal S2
    | some c=>IWP P O N c S2 Q

theorem aBw {g : Operand} {ps : Array Tmp} {acx bd : Code} {f : FuncId} {fn : Func} {c : Code} {caps : List D} (k idL idK : Nat)
    (hg : SV S g (.fn f caps)) (hc : aV P f) (hf : P.funcs[f]? = some fn) (hb : fn.body = some c) (hres : fn.results = #[]) {N' : Nat} (hn : fn.ntmps = N') (hN' : caps.length + 1 ≤ N')
    (hfr : aCm k [] S.H = true) (hL : S.ent idL = .fresh) (hO : O.Plain)
    (h : ∀ O',O'.round = none → O'.lc k = (ps,acx,bd) → IWP P O' N' c ⟨(List.range (.yld idL :: caps).length).zip (.yld idL :: caps),(idK,.kept k (allD N S)) :: (idL,.loop k (allD N S) .ready none) :: S.H⟩ (rangeQ P O N k Q)) : IWP P O N (.rangeFunc g ps acx bd) S Q:=by
  subst hn
  obtain ⟨Ow,OX,Of,Og,Or,Okv,Olv,Odv,Olc⟩:=O
  obtain ⟨hro,hfoot,hdv⟩:=hO
  simp only at hro hfoot hdv
  subst hro
  intro E β a hr
  obtain ⟨bs,hbs,hnd,hall⟩:=hr.nd
  obtain ⟨vs,hev,hcaps⟩:=rd_fn (hg.rd hr)
  refine wpIn_rangeFunc ?_
  intro fn0 _
  let r0 : Loop:={ state:=.ready,pending:=none,fn:=fn0,tmps:=a.tmps,params:=ps,assign:=acx,body:=bd,defers:=E.w.heap.size }
  let W0:=E.w.alloc (.deferred (some []))
  have hsz0 : W0.heap.size = E.w.heap.size + 1:=by simp [W0]
  let W1:=W0.alloc (.loop r0)
  have hb0 : Below E.w.heap.size E.w W0:=(Below.refl _ _).alloc (Nat.le_refl _) _
  refine ⟨E.w.heap.size + 1,[{ target:=.collected E.w.heap.size,args:=#[] }],W1,{ target:=.fn (.func f) vs.toArray,args:=#[.func (.yield (E.w.heap.size + 1)) #[] #[]] },W1,f,
    #[.func (.yield (E.w.heap.size + 1)) #[] #[]] ++ vs.toArray,W1,run_enterLoop_outer _ _ _ _ _,?_,fun _ _=>trivial,?_,fun h=>by simp [fen,Fence.wide] at h,?_⟩
  · simp only [resolve, hev]
    simp [go_sem]
  · simp [invoke,nP hc]
  let O' : cG:=⟨Ow,OX,Of,Og,none,fun j=>if j = k then a.tmps.toList else Okv j,fun j=>if j = k then E.w.heap.size + 1 else Olv j,fun j=>if j = k then E.w.heap.size :: bs else Odv j,fun j=>if j = k then (ps,acx,bd) else Olc j⟩
  have hsame : (⟨Ow,OX,Of,Og,none,Okv,Olv,Odv,Olc⟩ : cG).same O':=⟨rfl,rfl,rfl,rfl⟩
  have hcomp : ∀ e,noK k e = true → qH ⟨Ow,OX,Of,Og,none,Okv,Olv,Odv,Olc⟩ O' e ∧ qH O' ⟨Ow,OX,Of,Og,none,Okv,Olv,Odv,Olc⟩ e:=fun e he=>by
    cases e with
    | kept j ds => have : j ≠ k := by simpa [noK] using he
                   simp [qH,O',this]
    | loop j => have : j ≠ k := by simpa [noK] using he
                simp [qH,O',this]
    | _=>exact ⟨trivial,trivial⟩
  have h0 : HOk O' ⟨W0,E.X⟩ β (entL S.H):=(hr.h.below hb0).swap hsame fun id=>.inl ⟨rfl,(hcomp _ (pC hfr (by simp))).1⟩
  let E1 : Env:=⟨W1,fun b o=>b = E.w.heap.size + 1 ∨ E.X b o⟩
  let β1 : bW:=fun j=>if j = idL then some (E.w.heap.size + 1) else β j
  have hfrL : β idL = none:=by have:=hr.h.ent idL; rw [hL] at this; exact this
  have hβ : β.le β1:=fun j b hj=>by
    by_cases hji : j = idL
    · subst hji; rw [hfrL] at hj; cases hj
    · simp [β1,hji,hj]
  have hs : Step O' ⟨W0,E.X⟩ E1 (E.w.heap.size + 1) :=
    ⟨rfl,rfl,rfl,by simp [E1,W1],by simp [E1,W1,hsz0],.inl (by have:=h0.size; simp only [hsz0] at this; exact this),fun j hj _=>heap_alloc_old _ _ hj,fun j o hj=>by simp [E1,hj],fun _ hx=>by have h9 : E.w.heap.size + 1 < W0.heap.size:=dI hx; omega⟩
  have hle : (⟨W0,E.X⟩ : Env).le E1:=hs.le (fun o v hx _=>by have:=World.block_lt_of_cell? _ _ hx; simp [hsz0] at this) (fun c e f hx=>by have:=dI hx; simp [hsz0] at this)
  have hle0 : E.le E1:=(oL hb0).trans hle
  have hnew : W1.heap[E.w.heap.size + 1]? = some (.loop r0):=by have:=World.alloc_heap_new W0 (.loop r0); rwa [hsz0] at this
  have hdef : W1.heap[E.w.heap.size]? = some (.deferred (some [])):=(heap_alloc_old _ _ (by omega)).trans (World.alloc_heap_new E.w _)
  have hrd : RdL E1 β1 a.tmps.toList (allD N S):=RdL.mono hle0 hβ (aAs hr)
  have h1 : HOk O' E1 β1 (entL ((idL,.loop k (allD N S) .ready none) :: S.H)):=by
    refine HOk.put h0 hs hle hβ (id:=idL) (fun j hj=>?_) (fun j hj hh hb=>?_) (by simp [β1]) ?_ (fun _ _=>trivial)
    · left; exact ⟨by show look _ _ _ = _; rw [aX,if_neg (Ne.symm hj)]; rfl,by simp [β1,hj]⟩
    · have hh' : (look (defE j) j ((idL, .loop k (allD N S) .ready none) :: S.H)).held = true := hh
      rw [aX,if_neg (Ne.symm hj)] at hh'
      have:=h0.lt (j:=j) hh' hb
      simp [hsz0] at this
    · show aFm O' E1 β1 _ (look _ _ _)
      rw [aX,if_pos rfl]
      exact ⟨r0,hnew,fun o=>.inl rfl,by simp [O',r0],by simp [O',r0],by simp [O',r0],rfl,rfl,by simp [O'],hrd⟩
  have h2 : HOk O' E1 β1 (entL ((idK,.kept k (allD N S)) :: (idL,.loop k (allD N S) .ready none) :: S.H)):=by
    refine h1.addK (by simpa [O'] using hrd) fun b hb=>?_
    have hb' : b ∈ E.w.heap.size :: bs:=by simpa [O'] using hb
    rcases List.mem_cons.1 hb' with rfl | hb'
    · exact hdef
    · have hx := (hall b hb').2
      have hlt:=dI hx
      exact ((heap_alloc_old W0 _ (by omega)).trans (heap_alloc_old E.w _ hlt)).trans hx
  have hargs : RdL E1 β1 (Value.func (.yield (E.w.heap.size + 1)) #[] #[] :: vs) (.yld idL :: caps):=.cons (.yld _ _ _ (by simp [β1])) (RdL.mono hle0 hβ hcaps)
  have hlen:=hargs.length
  have hrel : Rel O' fn.ntmps ⟨(List.range (D.yld idL :: caps).length).zip (.yld idL :: caps),(idK,.kept k (allD N S)) :: (idL,.loop k (allD N S) .ready none) :: S.H⟩ E1 β1
      { tmps:=(#[Value.func (.yield (E.w.heap.size + 1)) #[] #[]] ++ vs.toArray) ++ Array.replicate (fn.ntmps - (#[Value.func (.yield (E.w.heap.size + 1)) #[] #[]] ++ vs.toArray).size) undef,defers:=[] }:=by
    refine ⟨by simp at hlen ⊢; omega,qI.nil,h2,fun s=>?_⟩
    have:=yW hargs (fn.ntmps - (#[Value.func (.yield (E.w.heap.size + 1)) #[] #[]] ++ vs.toArray).size) s
    show Rd E1 β1 _ (look _ _ _)
    simpa using this
  refine callsIn_wide (n:=0) |>.2 (nT (E:=E1) (O:=O') hf hb rfl hfoot hrel (h O' rfl (by simp [O'])) ?_)
  rintro e S2 E2 β2 a2 hr2 ⟨he,iL,iK,dl,ds',st,pend,hentL,hst,hentK,hfree,S3,ρ3,hw3,hQ⟩
  refine ⟨he,.tuple #[],by simp [results,hres],?_⟩
  obtain ⟨r,g1,g2,g3,g4,g5,g6,g7,g8⟩:=hr2.h.turn (H:=S2.H) hentL
  obtain ⟨g9,g10⟩:=g8 .exhausted pend
  have hlk : O'.lv k = E.w.heap.size + 1:=by simp [O']
  rw [hlk] at g1 g9 g10
  have hkept:=hr2.h.ent iK
  rw [hentK] at hkept
  obtain ⟨k1,k2⟩:=hkept
  have hkv : O'.kv k = a.tmps.toList:=by simp [O']
  have hdk : O'.dv k = E.w.heap.size :: bs:=by simp [O']
  rw [hkv] at k1; rw [hdk] at k2
  have hds' : ds'.length = N:=by rw [← k1.length]; simpa using hr.n
  let E3 : Env:=⟨E2.w.putObj (E.w.heap.size + 1) (.loop { r with state:=.exhausted,pending:=pend }),E2.X⟩
  have hrel3 : Rel ⟨Ow,OX,Of,Og,none,Okv,Olv,Odv,Olc⟩ N ⟨(List.range N).zip ds',(iK,.none) :: (iL,.none) :: S2.H⟩ E3 β2 { a with defers:={ target:=.collected E.w.heap.size,args:=#[] } :: a.defers }:=by
    refine ⟨hr.n,⟨E.w.heap.size :: bs,by rw [List.map_cons,← hbs],?_,?_⟩,?_,fun s=>?_⟩
    · rw [List.nodup_cons]
      exact ⟨fun hm=>Nat.lt_irrefl _ (dI (hall _ hm).2),hnd⟩
    · intro b hb
      refine ⟨⟨?_,fun j=>by simp [hdv]⟩,(World.putObj_heap_other ?_).trans (k2 b hb)⟩
      · rcases List.mem_cons.1 hb with rfl | hb
        · exact hr.h.size
        · exact (hall b hb).1.1
      · rintro rfl; have:=k2 _ hb; rw [g1] at this; cases this
    · refine HOk.swap (O := O') (H := entL ((iL, .loop k dl .exhausted pend) :: S2.H)) g10 ⟨rfl, rfl, rfl, rfl⟩ fun id => ?_
      show (look _ _ _ = look _ _ _ ∧ _) ∨ _
      simp only [aX]
      by_cases h5 : iK = id
      · right; show look _ _ _ = _; rw [aX,if_pos h5]
      · by_cases h6 : iL = id
        · right; show look _ _ _ = _; rw [aX,if_neg h5,aX,if_pos h6]
        · left
          rw [if_neg h5,if_neg h6]
          refine ⟨by first | rfl | rw [if_neg h6],(hcomp _ ?_).2⟩
          show noK k (look _ _ _) = true
          rw [aX,if_neg h6]
          exact pC hfree (by simp; exact ⟨Ne.symm h6,Ne.symm h5⟩)
    · have := sN (RdL.mono g9 (bW.le.refl _) k1) s
      rw [hds'] at this
      exact this
  refine ⟨pend,E3.w,?_,?_⟩
  · have := run_endLoop (P := P) (l := E.w.heap.size + 1) g1 (by rw [g6]; exact hst)
    rw [g7] at this
    exact this
  · cases pend with
    | none=>obtain ⟨β4,hr4⟩:=hrel3.weak hw3; exact ⟨_,E3,β4,rfl,hr4,hQ⟩
    | some c=>obtain ⟨β4,hr4⟩:=hrel3.weak hw3; exact hQ E3 β4 _ hr4

def jumpOf : Exit → Option (Option Code)
  | .normal=>some none
  | .ret=>some (some .ret)
  | .exit i=>some (some (.exit i))
  | _=>none
@[reducible] def yieldQ (P : Program) (O : cG) (N t k k2 : Nat) (ops : Array Oper) (l : List Oper) (Q : Exit → St → Prop) (e : Exit) (S' : St) : Prop :=
  ∃ iL iK dl dk j, jumpOf e = some j ∧ S'.ent iL = .loop k dl .busy none ∧ S'.ent iK = .kept k2 dk ∧ aCm k2 [iK] S'.H = true ∧ iL ≠ iK ∧
    ∃ S2 ρ,Weak ⟨(t,.bool j.isNone) :: (List.range N).zip dk,(iL,.loop k dl (if j.isNone then .ready else .done) j) :: (iK,.none) :: S'.H⟩ S2 ρ ∧ ILS P O N ops l S2 Q
def aF2 (S : St) (l : List (Nat × D)) : St:=l.foldl (fun S x=>S.set x.1 x.2) S
theorem aC5 {E : Env} {β : bW} : ∀ (ps : List Nat) (vs : List Value) (ds : List D) (S : St) (a : Array Value),(∀ p ∈ ps,p < N) → RdL E β vs ds → Rel O N S E β { tmps:=a,defers:=[] } →
    Rel O N (aF2 S (ps.zip ds)) E β { tmps:=(ps.zip vs).foldl (fun t x=>t.setIfInBounds x.1 x.2) a,defers:=[] }
  | [],_,_,S,a,_,_,h=>by simpa [aF2] using h
  | _ :: _,_,_,S,a,_,.nil _,h=>by simpa [aF2] using h
  | p :: ps,_,_,S,a,hp,.cons hv hvs,h=>aC5 ps _ _ _ _ (fun q hq=>hp q (by simp [hq])) hvs (h.set (hp p (by simp)) hv)
theorem aB6 {ops : Array Oper} {o : Oper} {l : List Oper} {x : Operand} {xs : List Operand} {ts : Array TypeId} {t k : Nat} {ps : Array Tmp} {acx bd : Code} {ds da : List D} {N0 : Nat} (k2 idL idK : Nat) (hg : nC o = true)
    (ho : o.op = .call { callee:=.value x,args:=xs.toArray,argTypes:=ts }) (hd : o.dst = some t) (ht : t < N) (hx : S.op x = .yld idL) (hxs : SVs S xs da) (he : S.ent idL = .loop k ds .ready none)
    (hn : ds.length = N0) (hps : ps.toList.length = da.length) (hpl : (ps.toList.all fun p=>Nat.blt p N0) = true) (hfr : aCm k2 [] S.H = true) (hK : S.ent idK = .fresh) (hro : O.round = none) (hlc : O.lc k = (ps,acx,bd))
    (S0 : St) (ρ0 : Nat → Nat) (hw0 : Weak (aF2 ⟨(List.range ds.length).zip ds,(idK,.kept k2 (allD N S)) :: S.H⟩ (ps.toList.zip da)) S0 ρ0)
    (h : ∀ O',IWP P O' N0 acx S0 (fun e S1=>e = .normal ∧ ∃ iL dl,S1.ent iL = .loop k dl .ready none ∧
      ∃ S2 ρ,Weak ⟨S1.sl,(iL,.loop k dl .busy none) :: S1.H⟩ S2 ρ ∧ IWP P O' N0 bd S2 (yieldQ P O N t k k2 ops l Q))) : ILS P O N ops (o :: l) S Q:=by
  subst hn
  replace hpl : ∀ p ∈ ps.toList,p < ds.length:=fun p hp=>by simpa using List.all_eq_true.1 hpl p hp
  obtain ⟨Ow,OX,Of,Og,Or,Okv,Olv,Odv,Olc⟩:=O
  simp only at hro
  subst hro
  intro E β a hr
  obtain ⟨bs,hbs,hnd,hall⟩:=hr.nd
  have hkk : k2 ≠ k:=by
    have:=pC hfr (id:=idL) (by simp)
    have he' : entL S.H idL = _:=he
    rw [he'] at this
    intro e; subst e; simp [noK] at this
  have hidne : idK ≠ idL:=by rintro rfl; rw [hK] at he; cases he
  refine wpListIn_plain (nQ hg).1 fun K hK'=>⟨fun _ _=>trivial,?_⟩
  rw [Oper.semAt_eq _ _ _ (aAa (nQ hg).2)]
  have hent:=hr.h.ent idL
  rw [he] at hent
  obtain ⟨b,r,e1,e2,e3,e4,e5,e6,e7,e8,e9,e10,e11⟩:=hent
  have hev : a.eval x = .func (.yield b) #[] #[]:=by
    have:=hr.op x
    rw [hx] at this
    generalize a.eval x = v at this
    cases this with
    | yld _ _ l hl=>rw [e1] at hl; cases hl; rfl
  have hargs:=hxs.rd hr
  have hal:=hargs.length
  have hrun : (execOp a.eval o).run P E.w = .ok (.round b r.fn ((r.params.zip (xs.map a.eval).toArray).foldl (fun tmps (t,a)=>tmps.setIfInBounds t a) r.tmps) r.assign r.body) E.w:=by
    have hy:=run_yield (P:=P) (args:=(xs.map a.eval).toArray) e3 (by rw [e5,hlc]; simp at hal ⊢; simp at hps; omega)
    simp [execOp,ho,resolve,Deferred.ofValue,hev,invoke]
    simpa using hy
  rw [hrun,Oper.uponIn_round]
  refine ⟨fun h=>by simp [fen,Fence.wide] at h,roundIn_of_wpIn trivial ?_⟩
  have hlc' : Olc k = (ps,acx,bd):=hlc
  rw [e6,e7]
  simp only [hlc']
  have hlen : r.tmps.size = ds.length:=by have:=e11.length; simpa using this
  let O' : cG:=⟨Ow,OX,Of,Og,some b,fun j=>if j = k2 then a.tmps.toList else Okv j,Olv,fun j=>if j = k2 then bs else Odv j,Olc⟩
  have hcomp : ∀ e,noK k2 e = true → qH ⟨Ow,OX,Of,Og,none,Okv,Olv,Odv,Olc⟩ O' e ∧ qH O' ⟨Ow,OX,Of,Og,none,Okv,Olv,Odv,Olc⟩ e:=fun e he=>by
    cases e with
    | kept j ds => have : j ≠ k2 := by simpa [noK] using he
                   simp [qH,O',this]
    | _=>exact ⟨by first | trivial | rfl,by first | trivial | rfl⟩
  have h0 : HOk O' E β (entL S.H):=hr.h.swap ⟨rfl,rfl,rfl,rfl⟩ fun id=>.inl ⟨rfl,(hcomp _ (pC hfr (by simp))).1⟩
  have h1 : HOk O' E β (entL ((idK,.kept k2 (allD N S)) :: S.H)):=h0.addK (by simpa [O'] using aAs hr) fun c hc=>(hall c (by simpa [O'] using hc)).2
  have hrel0 : Rel O' ds.length ⟨(List.range ds.length).zip ds,(idK,.kept k2 (allD N S)) :: S.H⟩ E β { tmps:=r.tmps,defers:=[] } :=
    ⟨hlen,qI.nil,h1,fun s=>sN e11 s⟩
  have hrel1:=aC5 ps.toList (xs.map a.eval) da _ r.tmps hpl hargs hrel0
  have htm : (r.params.zip (xs.map a.eval).toArray).foldl (fun tmps (t,a)=>tmps.setIfInBounds t a) r.tmps = (ps.toList.zip (xs.map a.eval)).foldl (fun t x=>t.setIfInBounds x.1 x.2) r.tmps:=by
    rw [e5,hlc,← Array.foldl_toList]; simp
  rw [htm]
  obtain ⟨β6,hr6⟩:=hrel1.weak hw0
  refine wpIn_mono (h O' E β6 _ hr6) ?_
  rintro e a1 w1 ⟨S1,E1,β1,rfl,hr1,rfl,iL,dl,hentL,S7,ρ7,hw7,hbody⟩
  obtain ⟨r1,g1,g2,g3,g4,g5,g6,g7,g8⟩:=hr1.h.turn (H:=S1.H) hentL
  obtain ⟨g9,g10⟩:=g8 .busy none
  have hlk : O'.lv k = b:=e10
  rw [hlk] at g1 g9 g10
  let E2 : Env:=⟨E1.w.putObj b (.loop { r1 with state:=.busy,pending:=none }),E1.X⟩
  have hw2 : (Instr.beginRound b).run P E1.w = .ok () E2.w:=by
    have:=run_beginRound (P:=P) g1 g6
    rw [this]
    show _ = Result.ok () (E1.w.putObj b (.loop { r1 with state:=.busy,pending:=none }))
    congr 3
    rw [← g7]
  refine ⟨E2.w,hw2,?_⟩
  have hrel2 : Rel O' ds.length ⟨S1.sl,(iL,.loop k dl .busy none) :: S1.H⟩ E2 β1 a1 :=
    ⟨hr1.n,hr1.nd.mono (fun c hc=>(World.putObj_heap_other (by rintro rfl; rw [g1] at hc; cases hc)).trans hc),g10,fun s=>Rd.mono g9 (bW.le.refl _) (hr1.sl s)⟩
  obtain ⟨β7,hr7⟩:=hrel2.weak hw7
  refine wpIn_mono (hbody E2 β7 a1 hr7) ?_
  rintro e a3 w3 ⟨S3,E3,β3,rfl,hr3,iL3,iK3,dl3,dk3,j,hj,hL3,hK3,hf3,hne3,S5,ρ5,hw5,hils⟩
  obtain ⟨r3,m1,m2,m3,m4,m5,m6,m7,m8⟩:=hr3.h.turn (H:=S3.H) hL3
  obtain ⟨m9,m10⟩:=m8 (if j.isNone then .ready else .done) j
  rw [hlk] at m1 m9 m10
  have hkept:=hr3.h.ent iK3
  rw [hK3] at hkept
  obtain ⟨k1,k2'⟩:=hkept
  have hkv : O'.kv k2 = a.tmps.toList:=by simp [O']
  have hdk : O'.dv k2 = bs:=by simp [O']
  rw [hkv] at k1; rw [hdk] at k2'
  have hdk3 : dk3.length = N:=by rw [← k1.length]; simpa using hr.n
  let E4 : Env:=⟨E3.w.putObj b (.loop { r3 with state:=if j.isNone then .ready else .done,pending:=j }),E3.X⟩
  have hend : (Instr.endRound b j).run P E3.w = .ok (.bool j.isNone) E4.w:=run_endRound (P:=P) j m1
  have hrel4 : Rel ⟨Ow,OX,Of,Og,none,Okv,Olv,Odv,Olc⟩ N ⟨(t,.bool j.isNone) :: (List.range N).zip dk3,(iL3,.loop k dl3 (if j.isNone then .ready else .done) j) :: (iK3,.none) :: S3.H⟩ E4 β3 (a.put (some t) (.bool j.isNone)):=by
    refine Rel.set (S:=⟨(List.range N).zip dk3,(iL3,.loop k dl3 (if j.isNone then .ready else .done) j) :: (iK3,.none) :: S3.H⟩) ⟨hr.n,⟨bs,hbs,hnd,fun c hc=>⟨(hall c hc).1,(World.putObj_heap_other (by rintro rfl; have:=k2' _ hc; rw [m1] at this; cases this)).trans (k2' c hc)⟩⟩,?_,fun s=>?_⟩ ht (.bool _ _)
    · refine HOk.swap (O := O') (H := entL ((iL3, .loop k dl3 (if j.isNone then .ready else .done) j) :: S3.H)) m10 ⟨rfl, rfl, rfl, rfl⟩ fun id => ?_
      by_cases h6 : iL3 = id
      · left
        subst h6
        refine ⟨by show look _ _ _ = look _ _ _; rw [aX,if_pos rfl,aX,if_pos rfl],(hcomp _ ?_).2⟩
        show noK k2 (look _ _ _) = true
        rw [aX,if_pos rfl]
        simp [noK,Ne.symm hkk]
      · by_cases h5 : iK3 = id
        · right; show look _ _ _ = _; rw [aX,if_neg h6,aX,if_pos h5]
        · left
          refine ⟨by show look _ _ _ = look _ _ _; rw [aX,if_neg h6,aX,if_neg h5,aX,if_neg h6],(hcomp _ ?_).2⟩
          show noK k2 (look _ _ _) = true
          rw [aX,if_neg h6]
          exact pC hf3 (by simp; exact Ne.symm h5)
    · have := sN (RdL.mono m9 (bW.le.refl _) k1) s
      rw [hdk3] at this
      exact this
  have hfin : K (a.put o.dst (.bool j.isNone)) E4.w:=by
    rw [hd]
    obtain ⟨β5,hr5⟩:=hrel4.weak hw5
    exact hK' _ _ (hils E4 β5 _ hr5)
  cases e with
  | normal=>cases hj; exact ⟨_,_,hend,hfin⟩
  | ret=>cases hj; exact ⟨_,_,hend,hfin⟩
  | exit i=>cases hj; exact ⟨_,_,hend,hfin⟩
  | goto i=>cases hj
  | panic c=>cases hj
  | outgrown=>cases hj

theorem aF3 {E : Env} {β : bW} {S : St} {a : Act} {rs : List D} {fn : Func} (hr : Rel O N S E β a) (hres : aAP P S fn.results.toList rs) : ∃ v,(results fn a.tmps).run P E.w = .ok v E.w ∧ Rd E β v (retD rs):=by
  obtain ⟨vs',h1,h2⟩:=oU (P:=P) hr hres
  have hrun : (results fn a.tmps).run P E.w = .ok (if h : vs'.toArray.size = 1 then vs'.toArray[0] else .tuple vs'.toArray) E.w:=by
    have hF : results fn a.tmps = (fn.results.mapM (resF a.tmps)) >>= fun vs=>pure (if h : vs.size = 1 then vs[0] else .tuple vs):=by
      unfold results
      congr 2
    rw [hF,← Array.toArray_toList (xs:=fn.results),List.mapM_toArray]
    simp only [Sem.run_bind,Sem.run_map,h1,Result.andThen_ok,Sem.run_pure]
  refine ⟨_,hrun,?_⟩
  cases h2 with
  | nil=>simpa [retD] using Rd.tuple (E:=E) β [] [] (.nil _)
  | cons h5 h6 =>
    cases h6 with
    | nil=>simpa [retD] using h5
    | cons h7 h8 =>
      simp only [retD,List.size_toArray,List.length_cons]
      rw [dif_neg (by omega)]
      exact .tuple _ _ _ (.cons h5 (.cons h7 h8))
@[reducible] def inlQ (P : Program) (O : cG) (N t k2 : Nat) (fn : Func) (ops : Array Oper) (l : List Oper) (Q : Exit → St → Prop) (e : Exit) (S' : St) : Prop :=
  (e = .normal ∨ e = .ret) ∧ ∃ iK dk rs,aAP P S' fn.results.toList rs ∧ S'.ent iK = .kept k2 dk ∧ aCm k2 [iK] S'.H = true ∧
    ∃ S2 ρ,Weak ⟨(t,retD rs) :: (List.range N).zip dk,(iK,.none) :: S'.H⟩ S2 ρ ∧ ILS P O N ops l S2 Q
theorem aCl {ops : Array Oper} {o : Oper} {l : List Oper} {xs : List Operand} {ts : Array TypeId} {f : FuncId} {fn : Func} {c : Code} {t : Nat} {ds : List D} (k2 idK : Nat) (hg : nC o = true)
    (ho : o.op = .call { callee:=.value (.func f),args:=xs.toArray,argTypes:=ts }) (hd : o.dst = some t) (ht : t < N) (hc : aV P f) (hf : P.funcs[f]? = some fn) (hb : fn.body = some c) (hxs : SVs S xs ds) {N' : Nat} (hn : fn.ntmps = N') (hN : ds.length ≤ N')
    (hfr : aCm k2 [] S.H = true) (hO : O.Plain)
    (h : ∀ O',O'.round = none → IWP P O' N' c ⟨(List.range ds.length).zip ds,(idK,.kept k2 (allD N S)) :: S.H⟩ (inlQ P O N t k2 fn ops l Q)) : ILS P O N ops (o :: l) S Q:=by
  subst hn
  obtain ⟨Ow,OX,Of,Og,Or,Okv,Olv,Odv,Olc⟩:=O
  obtain ⟨hro,hfoot,hdv⟩:=hO
  simp only at hro hfoot hdv
  subst hro
  intro E β a hr
  obtain ⟨bs,hbs,hnd,hall⟩:=hr.nd
  refine wpListIn_plain (nQ hg).1 fun K hK'=>aDV _ (nQ hg).2 ?_
  have hrun : (execOp a.eval o).run P E.w = .ok (.enter f (xs.map a.eval).toArray) E.w:=by
    simp [execOp,ho,resolve,Deferred.ofValue,Act.eval,invoke,nP hc]
  unfold Oper.wp
  rw [hrun]
  simp only [Oper.upon,hd]
  let O' : cG:=⟨Ow,OX,Of,Og,none,fun j=>if j = k2 then a.tmps.toList else Okv j,Olv,fun j=>if j = k2 then bs else Odv j,Olc⟩
  have hcomp : ∀ e,noK k2 e = true → qH ⟨Ow,OX,Of,Og,none,Okv,Olv,Odv,Olc⟩ O' e ∧ qH O' ⟨Ow,OX,Of,Og,none,Okv,Olv,Odv,Olc⟩ e:=fun e he=>by
    cases e with
    | kept j ds => have : j ≠ k2 := by simpa [noK] using he
                   simp [qH,O',this]
    | loop j=>simp [qH,O']
    | _=>exact ⟨trivial,trivial⟩
  have h0 : HOk O' E β (entL S.H):=hr.h.swap ⟨rfl,rfl,rfl,rfl⟩ fun id=>.inl ⟨rfl,(hcomp _ (pC hfr (by simp))).1⟩
  have h1 : HOk O' E β (entL ((idK,.kept k2 (allD N S)) :: S.H)):=h0.addK (by simpa [O'] using aAs hr) fun c hc=>(hall c (by simpa [O'] using hc)).2
  have hargs:=hxs.rd hr
  have hlen:=hargs.length
  have hrel : Rel O' fn.ntmps ⟨(List.range ds.length).zip ds,(idK,.kept k2 (allD N S)) :: S.H⟩ E β { tmps:=(xs.map a.eval).toArray ++ Array.replicate (fn.ntmps - (xs.map a.eval).toArray.size) undef,defers:=[] }:=by
    refine ⟨by simp at hlen ⊢; omega,qI.nil,h1,fun s=>?_⟩
    have:=yW hargs (fn.ntmps - (xs.map a.eval).toArray.size) s
    show Rd E β _ (look _ _ _)
    simpa using this
  refine nT (E:=E) (O:=O') hf hb rfl hfoot hrel (h O' rfl) ?_
  rintro e S2 E2 β2 a2 hr2 ⟨he,iK,dk,rs,hres,hentK,hfree,S5,ρ5,hw5,hils⟩
  refine ⟨he,?_⟩
  obtain ⟨v,hv,hrd⟩:=aF3 hr2 hres
  have hkept:=hr2.h.ent iK
  rw [hentK] at hkept
  obtain ⟨k1,k2'⟩:=hkept
  have hkv : O'.kv k2 = a.tmps.toList:=by simp [O']
  have hdk : O'.dv k2 = bs:=by simp [O']
  rw [hkv] at k1; rw [hdk] at k2'
  have hdk3 : dk.length = N:=by rw [← k1.length]; simpa using hr.n
  suffices hrel5 : Rel ⟨Ow,OX,Of,Og,none,Okv,Olv,Odv,Olc⟩ N ⟨(t,retD rs) :: (List.range N).zip dk,(iK,.none) :: S2.H⟩ E2 β2 (a.put (some t) v) by
    obtain ⟨β5,hr5⟩:=hrel5.weak hw5
    exact ⟨v,hv,hK' _ _ (hils E2 β5 _ hr5)⟩
  refine Rel.set (S:=⟨(List.range N).zip dk,(iK,.none) :: S2.H⟩) ⟨hr.n,⟨bs,hbs,hnd,fun c hc=>⟨(hall c hc).1,k2' c hc⟩⟩,?_,fun s=>?_⟩ ht hrd
  · refine HOk.swap (O := O') (H := entL S2.H) hr2.h ⟨rfl, rfl, rfl, rfl⟩ fun id => ?_
    by_cases h5 : iK = id
    · right; show look _ _ _ = _; rw [aX,if_pos h5]
    · left
      refine ⟨by show look _ _ _ = look _ _ _; rw [aX,if_neg h5],(hcomp _ ?_).2⟩
      exact pC hfree (by simp; exact Ne.symm h5)
  · have := sN k1 s
    rw [hdk3] at this
    exact this
end
end Go.IL
namespace Go.IL

section
variable {P : Program} {O : cG} {N : Nat} {S S' : St} {o : Oper} {t : Nat}
end
def vT (P : Program) (f : FuncId) (g : Array Value → Sem Value) : Prop := ∃ fn, P.funcs[f]? = some fn ∧ (fn.name == "runtime.NumGoroutine") = false ∧ fn.body.isNone = true ∧ Extern.findNext fn = none ∧ Extern.find fn = some g
section
variable {P : Program} {O : cG} {N : Nat} {S S' : St} {o : Oper} {t : Nat}
theorem aAe {f : FuncId} {g : Array Value → Sem Value} {xs : List Operand} {ts : Array TypeId} {ds : List D} {d : D} (ho : o.op = .call { callee:=.value (.func f),args:=xs.toArray,argTypes:=ts }) (hd : o.dst = some t) (ht : t < N)
    (hc : vT P f g) (hx : SVs S xs ds) (hg : ∀ (E : Env) β vs,RdL E β vs ds → ∃ v,(g vs.toArray).run P E.w = .ok v E.w ∧ Rd E β v d) : IOp P O N o S (S.set t d) :=
  eY hd ht fun E β a hr=>by
    obtain ⟨fn,h1,h2,h3,h4,h5⟩:=hc
    obtain ⟨v,hv,hrd⟩:=hg E β _ (hx.rd hr)
    exact ⟨v,by simp [execOp,ho,resolve,Deferred.ofValue,Act.eval,invoke,run_callFunc_extern h1 h2 h3 h4 h5,hv,Result.andThen],hrd⟩
end
section
variable {P : Program} {O : cG} {N : Nat} {S S' : St} {o : Oper} {t : Nat}
end
section
variable {P : Program} {O : cG} {N : Nat} {S S' : St} {o : Oper} {t : Nat}
end
end Go.IL
namespace Go.IL
theorem iJ {α β : Type} (e : α) (f : α → Option β) : bnd e f = f e:=rfl
theorem dG {α β : Type} (x : α) (f : α → Option β) : bno (some x) f = f x:=rfl
theorem rK {β : Type} {p : Prop} [Decidable p] {o : Option β} (h : p) : chk p o = o:=if_pos h
theorem gd_tt {α : Type} (o : Option α) (d : α) : gd true o d = o:=rfl
theorem gd_ff {α : Type} (o : Option α) (d : α) : gd false o d = some d:=rfl
theorem pB {α : Type} (l : List α) (k : Nat) : gix l (k : Int) = l[k]?:=by unfold gix; rw [if_pos (by omega)]; rfl
theorem aBK {α : Type} (l : List α) {i : Int} (h : 0 ≤ i) : gix l i = l[i.toNat]?:=by unfold gix; rw [if_pos h]
theorem wJ {α : Type} {l : List α} {i : Int} (h : 0 ≤ i) (hl : i.toNat < l.length) : gix l i = some l[i.toNat]:=by rw [aBK l h,List.getElem?_eq_getElem hl]
theorem aDM {α : Type} {l : List α} {a b : Int} (h0 : 0 ≤ a) (h1 : a ≤ b) (h2 : b ≤ (l.length : Int)) : cut l a b = some ((l.take b.toNat).drop a.toNat):=if_pos ⟨h0,h1,h2⟩
theorem aDL {α : Type} {l : List α} {a : Int} (h0 : 0 ≤ a) (h1 : a ≤ (l.length : Int)) : cut l a (l.length : Int) = some (l.drop a.toNat):=by
  rw [aDM h0 h1 (Int.le_refl _),Int.toNat_natCast,List.take_of_length_le (Nat.le_refl _)]
theorem cut_of {α : Type} {l : List α} {b : Int} (h0 : 0 ≤ b) (h1 : b ≤ (l.length : Int)) : cut l 0 b = some (l.take b.toNat):=by
  rw [aDM (Int.le_refl _) h0 h1]; rfl
theorem pM {α : Type} {b : Nat} {l m : List α} (h : l.length + m.length ≤ 9223372036854775807) (h1 : (l.length + m.length) * b ≤ 140737488355328) : app b l m = some (l ++ m):=if_pos ⟨h,h1⟩
theorem mW {a b : List UInt8} (h : a.length + b.length ≤ 9223372036854775807) : cat a b = some (a ++ b):=if_pos h
theorem w64 {n : Int} (h0 : -9223372036854775808 ≤ n) (h1 : n ≤ 9223372036854775807) : IntKind.wrap .i64 n = n:=wrap_i64 h0 h1
theorem wU64 {n : Int} (h0 : 0 ≤ n) (h1 : n < 18446744073709551616) : IntKind.wrap .u64 n = n:=aFo h0 h1
theorem wU8 {n : Int} (h0 : 0 ≤ n) (h1 : n < 256) : IntKind.wrap .u8 n = n:=by rw [wrap_u8,Int.emod_eq_of_lt h0 h1]
theorem wrap_u32 (n : Int) : IntKind.wrap .u32 n = n % 4294967296:=by simp [IntKind.wrap,IntKind.signed,IntKind.bits]
theorem aCM {n : Int} (h0 : 0 ≤ n) (h1 : n < 256) : toU8 n = some (UInt8.ofNat n.toNat):=if_pos ⟨h0,h1⟩
theorem aEY {k : IntKind} {a b c : Int} (h : tK .shl k a b = some (.int k c)) : shlI k a b = some c:=by
  unfold tK at h; unfold shlI
  split at h
  · cases h
  · rename_i hb; rw [if_neg hb]; simp only [Option.some.injEq,D.int.injEq,true_and] at h; rw [h]
theorem shr_ok {k : IntKind} {a : Int} {n : Nat} (hn : n ≤ k.bits) : shrI k a (n : Int) = some (a / 2 ^ n):=by
  unfold shrI
  rw [if_neg (by omega),Int.toNat_natCast,Nat.min_eq_left hn,Int.fdiv_eq_ediv_of_nonneg _ (Int.le_of_lt (Int.pow_pos (by decide)))]
theorem yQ {k : IntKind} {a b : Int} (n : Nat) (hb : b = (n : Int)) (hn : n ≤ k.bits) : shrI k a b = some (a / 2 ^ n):=by rw [hb,shr_ok hn]
theorem int_e {op : BinOp} {k : IntKind} {a b c d : Int} (h : int2 op k a b = some (.int k c)) (e : int2 op k a b = some (.int k d)) : d = c:=by
  rw [h] at e; simpa using e.symm
theorem rem_ok {a b : Int} (h0 : 0 ≤ a) (hb : 0 < b) : remI a b = some (a % b):=by
  unfold remI
  rw [if_neg (by omega),Int.tmod_eq_emod_of_nonneg h0]
theorem aCi {α : Type} {b : Nat} {n : Int} {z : α} (h0 : 0 ≤ n) (h1 : (b : Int) * n ≤ 281474976710656) (h2 : n ≤ 9223372036854775807) : made b n z = some (List.replicate n.toNat z):=if_pos ⟨h0,h1,h2⟩
theorem wO {α β : Type} [DecidableEq α] [DecidableEq β] {l : List α} {a b : Option β} (h : l = [] → a = b) : aBS l a b = b:=by
  unfold aBS; split
  · rename_i hl; rw [if_pos (h hl),h hl]
  · rfl
theorem fB {n : Nat} (h : n < 18446744073709551616) : n < fuel:=by show n < 2 ^ 64; omega
theorem bndD {α β : Type} (e : α) (f : α → Option β) : bnd e f = f e:=(Eq.refl _).trans (iJ e f)
theorem bnoS {α β : Type} (x : α) (f : α → Option β) : bno (some x) f = f x:=(Eq.refl _).trans (dG x f)
theorem gdtt {α : Type} (o : Option α) (d : α) : gd true o d = o:=(Eq.refl _).trans (gd_tt o d)
theorem gdff {α : Type} (o : Option α) (d : α) : gd false o d = some d:=(Eq.refl _).trans (gd_ff o d)
theorem dO {α : Type} (a b : α) : (bif true then a else b) = a:=(Eq.refl _).trans (Eq.refl _)
theorem cK {α : Type} (a b : α) : (bif false then a else b) = b:=(Eq.refl _).trans (Eq.refl _)
end Go.IL
open Go.RowKit
namespace Go.IL
def At (cs : List D) (size sz : Nat) : Nat → List (List D) → Prop
  | _,[]=>True
  | off,c :: L=>(cs.drop off).take size = c ∧ At cs size sz (off + sz) L
theorem At.get {cs : List D} {size sz : Nat} : ∀ {L : List (List D)} {off i : Nat} {c : List D},At cs size sz off L → L[i]? = some c → (cs.drop (off + i * sz)).take size = c
  | [],_,_,_,_,h=>by simp at h
  | x :: L, off, 0, c, h, hi => by
    simp only [List.getElem?_cons_zero,Option.some.injEq] at hi
    subst hi; rw [Nat.zero_mul,Nat.add_zero]; exact h.1
  | x :: L, off, i + 1, c, h, hi => by
    simp only [List.getElem?_cons_succ] at hi
    have:=At.get h.2 hi
    rw [← this]; congr 2; rw [Nat.add_mul,Nat.one_mul]; omega
def aFn : Nat → (Nat → Prop) → Prop
  | 0,_=>True
  | n + 1,p=>aFn n p ∧ p n
theorem aFn.get : ∀ {n : Nat} {p : Nat → Prop},aFn n p → ∀ j,j < n → p j
  | 0,_,_,_,h=>by omega
  | n + 1, p, h, j, hj => by
    by_cases e : j = n
    · subst e; exact h.2
    · exact aFn.get h.1 j (by omega)
theorem tJ {ds : List D} {off : Nat} {d : D} (h : (ds.drop off).take 1 = [d]) : ds.drop off = d :: ds.drop (off + 1):=by
  cases hd : ds.drop off with
  | nil=>rw [hd] at h; cases h
  | cons x r =>
    rw [hd] at h
    simp only [List.take_succ_cons,List.take_zero,List.cons.injEq,and_true] at h
    subst h
    have : ds.drop (off + 1) = r:=by rw [← List.drop_drop,hd]; rfl
    rw [this]
section
variable {P : Program} {O : cG} {N : Nat} {S S' : St} {o : Oper} {t : Nat}
theorem fE {T e : TypeId} {len : Nat} {x y : Operand} {k : IntKind} {n : Int} {z : Option Value} {size bytes : Nat} {id b : Nat} (ho : o.op = .indexAddr T x y) (hd : o.dst = some t) (ht : t < N)
    (hu : P.underlying T = some (.array len e)) (hi : TI P e z size bytes) (hx : SV S x (.ref id b)) (hy : SV S y (.int k n)) (hn : 0 ≤ n ∧ n < (len : Int)) :
    IOp P O N o S (S.set t (.ref id (b + n.toNat * size + 0))) :=
  eT ho hd ht hu hi hx hy hn.1 (by omega) (by omega)
theorem aEb {b k i sz : Nat} : b + i * sz + k = b + k + i * sz:=by omega
theorem lF {α : Type} (f : Enc α) {T : TypeId} {x : Operand} {u : TypeDesc} {z : Option Value} {bytes : Nat} {id b k sz : Nat} {e : TypeId} {cs : List D} {xs : List α} {a : α} {i : Int} {d : D} (ho : o.op = .load T x) (hd : o.dst = some t) (ht : t < N)
    (hu : P.underlying T = some u) (hg : eA P T = false) (hi : TI P T z 1 bytes) (hx : SV S x (.ref id (b + i.toNat * sz + k))) (he : S.ent id = .blk e cs) (hn : gix xs i = some a)
    (hat : At cs 1 sz (b + k) (xs.map fun x=>(f.d x).cells)) (hdd : (f.d a).cells = [d]) : IOp P O N o S (S.set t d):=by
  have h1:=hat.get (i:=i.toNat) (c:=(f.d a).cells) (by rw [List.getElem?_map,(tE hn).2]; rfl)
  rw [hdd,← aEb] at h1
  have h2:=tJ h1
  refine eC ho hd ht hu hg hi (by decide) hx he ?_ h2
  have h3:=congrArg List.length h2
  simp only [List.length_drop,List.length_cons] at h3; omega
theorem aAM {α : Type} (f : Enc α) {T : TypeId} {x : Operand} {u : TypeDesc} {z : Option Value} {size bytes : Nat} {id b k sz : Nat} {e : TypeId} {cs ds : List D} {xs : List α} {a : α} {i : Int} (ho : o.op = .load T x) (hd : o.dst = some t) (ht : t < N)
    (hu : P.underlying T = some u) (hg : eA P T = true) (hi : TI P T z size bytes) (h0 : 0 < size) (hx : SV S x (.ref id (b + i.toNat * sz + k))) (he : S.ent id = .blk e cs) (hn : gix xs i = some a)
    (hat : At cs size sz (b + k) (xs.map fun x=>(f.d x).cells)) (hdd : (f.d a).cells = ds) (hsz : ds.length = size) : IOp P O N o S (S.set t (.agg ds)):=by
  have h1:=hat.get (i:=i.toNat) (c:=(f.d a).cells) (by rw [List.getElem?_map,(tE hn).2]; rfl)
  rw [hdd,← aEb] at h1
  refine jN ho hd ht hu hg hi h0 hx he ?_ h1
  have h3:=congrArg List.length h1
  rw [List.length_take,List.length_drop] at h3; omega
theorem sD {α : Type} (f : Enc α) {T e : TypeId} {len : Nat} {x y : Operand} {k : IntKind} {u : TypeDesc} {z : Option Value} {bytes : Nat} {cs : List D} {xs : List α} {a : α} {i : Int} {d : D} (ho : o.op = .index T x y) (hd : o.dst = some t) (ht : t < N)
    (hu : P.underlying T = some (.array len e)) (hue : P.underlying e = some u) (hg : eA P e = false) (hi : TI P e z 1 bytes) (hx : SV S x (.agg cs)) (hy : SV S y (.int k i)) (hn : gix xs i = some a) (hlen : xs.length = len)
    (hat : At cs 1 1 0 (xs.map fun x=>(f.d x).cells)) (hdd : (f.d a).cells = [d]) : IOp P O N o S (S.set t d):=by
  have h1:=hat.get (i:=i.toNat) (c:=(f.d a).cells) (by rw [List.getElem?_map,(tE hn).2]; rfl)
  rw [hdd,Nat.zero_add] at h1
  have h2:=tJ h1
  have h4:=(List.getElem?_eq_some_iff.1 (tE hn).2).1
  refine vI ho hd ht hu hue hi hx hy (tE hn).1 (by omega) ?_ (by decide) (by unfold D.load; rw [hg,h2]; rfl)
  have h3:=congrArg List.length h2
  simp only [List.length_drop,List.length_cons] at h3; omega
theorem sE {α : Type} (f : Enc α) {T e : TypeId} {len : Nat} {x y : Operand} {k : IntKind} {u : TypeDesc} {z : Option Value} {size bytes : Nat} {cs ds : List D} {xs : List α} {a : α} {i : Int} (ho : o.op = .index T x y) (hd : o.dst = some t) (ht : t < N)
    (hu : P.underlying T = some (.array len e)) (hue : P.underlying e = some u) (hg : eA P e = true) (hi : TI P e z size bytes) (h0 : 0 < size) (hx : SV S x (.agg cs)) (hy : SV S y (.int k i)) (hn : gix xs i = some a) (hlen : xs.length = len)
    (hat : At cs size size 0 (xs.map fun x=>(f.d x).cells)) (hdd : (f.d a).cells = ds) (hsz : ds.length = size) : IOp P O N o S (S.set t (.agg ds)):=by
  have h1:=hat.get (i:=i.toNat) (c:=(f.d a).cells) (by rw [List.getElem?_map,(tE hn).2]; rfl)
  rw [hdd,Nat.zero_add] at h1
  have h4:=(List.getElem?_eq_some_iff.1 (tE hn).2).1
  refine vI ho hd ht hu hue hi hx hy (tE hn).1 (by omega) ?_ h0 (by simp [D.load,hg,h1])
  have h3:=congrArg List.length h1
  rw [List.length_take,List.length_drop] at h3; omega
theorem mK {T : TypeId} {x y : Operand} {z : Option Value} {size bytes : Nat} {id b k sz n : Nat} {e : TypeId} {cs cs' : List D} {d : D} {i : Int} (ho : o.op = .store T x y) (hd : o.dst = none)
    (hi : TI P T z size bytes) (hx : SV S x (.ref id (b + i.toNat * sz + k))) (he : S.ent id = .blk e cs) (hy : SV S y d) (hb : d.boxable = true) (hsz : d.cells.length = size) (h1 : d.cells.all D.one = true)
    (hn : 0 ≤ i ∧ i < (n : Int)) (hlen : Nat.ble (b + (n - 1) * sz + k + size) cs.length = true) (hall : aFn n fun j=>i = (j : Int) → gL cs (b + j * sz + k) d.cells = cs') : IOp P O N o S (S.setE id (.blk e cs')):=by
  have h2:=hall.get i.toNat (by omega) (by omega)
  refine qW ho hd hi hx he hy hb hsz h1 ?_ h2
  have h3:=Nat.le_of_ble_eq_true hlen
  have h4 : i.toNat * sz ≤ (n - 1) * sz:=Nat.mul_le_mul_right _ (by omega)
  omega
end
end Go.IL
open Go.RowKit (Below)
namespace Go.IL
section
variable {P : Program} {O : cG} {N : Nat} {S S' : St} {o : Oper} {t : Nat} {Q : Exit → St → Prop}
theorem aGz {E : Env} {β : bW} {v : Value} {id sz off len cap : Nat} (h : Rd E β v (.rsl id sz off len cap)) :
    ∃ b p c e f,v = .slice (some ⟨b,p,none⟩) len cap ∧ β id = some b ∧ len ≤ cap ∧ 0 < sz ∧ (0 < cap → p = off) ∧ p ≤ off ∧ E.w.heap[b]? = some (Obj.cells c e f) ∧ off + cap * sz ≤ c.size ∧ cap ≤ maxLen:=by
  cases h with
  | rsl _ _ _ _ _ _ b p h1 h2 h3 h4 c e f h5 h6 h7=>exact ⟨b,p,c,e,f,rfl,h1,h2,h3,h4.1,h4.2,h5,h6,h7⟩
theorem vM {S : St} {id t : Nat} {e : Ent} {d : D} : ((S.setE id e).set t d).ent id = e:=by simp [St.ent,entL,St.setE,St.set,aX]
theorem tN {S : St} {id t j : Nat} {e : Ent} {d : D} (h : j ≠ id) : ((S.setE id e).set t d).ent j = S.ent j:=by simp [St.ent,entL,St.setE,St.set,aX,Ne.symm h]
theorem Rel.turn {E : Env} {β : bW} {a : Act} (h : Rel O N S E β a) {id b : Nat} {e : TypeId} {ds ds' : List D} {d : D} (he : S.ent id = .blk e ds) (hb : β id = some b)
    (hk : ∀ vs sp,E.w.heap[b]? = some (.cells (List.toArray (vs ++ sp)) e (0,0)) → RdL E β vs ds → ∃ vs' sp',vs' ++ sp' = vs ++ sp ∧ RdL E β vs' ds') (hd : Rd E β (a.tmps.getD t undef) d) :
    Rel O N ((S.setE id (.blk e ds')).set t d) E β a:=by
  have hent:=h.h.ent id
  rw [he] at hent
  obtain ⟨vs,sp,h1,h2,h3,h4⟩:=vP hent hb
  obtain ⟨vs',sp',h5,h6⟩:=hk vs sp h2 h4
  have held : ∀ j,(((S.setE id (.blk e ds')).set t d).ent j).held = (S.ent j).held:=fun j=>by
    by_cases hj : j = id
    · subst hj; rw [vM,he]; rfl
    · rw [tN hj]
  refine ⟨h.n,h.nd,?_,fun s=>?_⟩
  · refine { h.h with ent := fun j => ?_, inj := fun i j k hi hj => h.h.inj i j k (held i ▸ hi) (held j ▸ hj) }
    by_cases hj : j = id
    · subst hj; rw [vM]; exact .inr ⟨b,vs',sp',hb,h1,by rw [h5]; exact h2,h3,h6⟩
    · rw [tN hj]; exact h.h.ent j
  · by_cases hst : t = s
    · subst hst; simpa [St.get,St.set,aX] using hd
    · have := h.sl s
      simpa [St.get,St.set,St.setE,aX,hst] using this
theorem Rel.closed {E : Env} {β : bW} {a : Act} (h : Rel O N S E β a) {id sz n cap : Nat} {e : TypeId} {ds j : List D} (hS : S.get t = .rsl id sz 0 n cap) (he : S.ent id = .blk e (ds ++ j)) (hl : ds.length = n * sz) :
    Rel O N ((S.setE id (.blk e ds)).set t (.osl id sz n)) E β a:=by
  have h1:=h.sl t
  rw [hS] at h1
  obtain ⟨b,p,c,e',f,hv,hb,hc,hsz,hp,hp',hcap,hcs,hcm⟩:=aGz h1
  refine h.turn he hb (fun vs sp hh hvs=>?_) ?_
  · refine ⟨vs.take ds.length, vs.drop ds.length ++ sp, by rw [← List.append_assoc, List.take_append_drop], ?_⟩
    have:=hvs.take ds.length
    rwa [List.take_append_of_le_length (Nat.le_refl _),List.take_length] at this
  · rw [hv]
    have : p = 0:=by omega
    subst this
    exact .osl _ _ b n cap sz hb hc hsz c e' f hcap (by omega) hcm
theorem aDc {vs us sp : List Value} {off : Nat} (h : off + us.length ≤ vs.length) : ((vs ++ sp).take off ++ us ++ (vs ++ sp).drop (off + us.length)) = (vs.take off ++ us ++ vs.drop (off + us.length)) ++ sp:=by
  rw [List.take_append_of_le_length (by omega),List.drop_append_of_le_length h]; simp
theorem aF6 {E : Env} {β : bW} {a : Act} (hr : Rel O N S E β a) {id b off : Nat} {e : TypeId} {ds es : List D} {vs us sp : List Value} (he : S.ent id = .blk e ds) (hb : β id = some b) (hown : O.own b) (hh : E.w.heap[b]? = some (.cells (List.toArray (vs ++ sp)) e (0,0))) (hX : ∀ o,E.X b o)
    (hl : RdL E β vs ds) (hc : RdL E β us es) (hn : off + es.length ≤ ds.length) :
    ∃ E' : Env,E'.w = E.w.setRow b ((vs ++ sp).take off ++ us ++ (vs ++ sp).drop (off + us.length)).toArray ∧ E'.X = E.X ∧ E.le E' ∧ Rel O N (S.setE id (.blk e (gL ds off es))) E' β a:=by
  have hvl:=hl.length
  have hul:=hc.length
  have e1:=aDc (sp:=sp) (show off + us.length ≤ vs.length by omega)
  let E' : Env:=⟨E.w.setRow b ((vs ++ sp).take off ++ us ++ (vs ++ sp).drop (off + us.length)).toArray,E.X⟩
  have hs : Step O E E' b:=⟨rfl,rfl,rfl,by simp [E'],by simpa [E'] using dI hh,hown,fun k _ hk=>setRow_other _ _ _ _ hk,fun _ _ _=>Iff.rfl,fun _ h=>by rw [hh] at h; cases h⟩
  have hle : E.le E':=hs.le (fun o v _ h2=>absurd (hX o) h2) (fun c e' f h3=>by
    rw [hh] at h3; cases h3
    exact ⟨_,_,setRow_heap _ _ _ _ _ _ hh,by rw [e1]; simp; omega⟩)
  refine ⟨E',rfl,rfl,hle,hr.n,hr.nd.step hs,?_,fun s=>Rd.mono hle (bW.le.refl _) (hr.sl s)⟩
  refine HOk.put hr.h hs hle (bW.le.refl _) ?_ ?_ hb ?_ (fun _ _=>trivial)
  · intro j hj; left; exact ⟨by simp [St.ent,entL,St.setE,aX,Ne.symm hj],rfl⟩
  · intro j hj hheld hbj
    have : (S.ent j).held = true:=by simpa [St.ent,entL,St.setE,aX,Ne.symm hj] using hheld
    exact hj (hr.h.inj j id b this (by rw [he]; rfl) hbj hb)
  · simp only [St.ent, entL, St.setE, aX, if_true]
    refine ⟨_,sp,by rw [← e1]; exact setRow_heap _ _ _ _ _ _ hh,hX,?_⟩
    rw [gL,← hul]
    exact RdL.mono hle (bW.le.refl _) (((hl.take off).append hc).append (hl.drop _))
theorem aFj {es : List D} (h : es.all D.one = true) (k : Nat) : (es.take k).all D.one = true:=by
  rw [List.all_eq_true] at h ⊢
  exact fun x hx=>h x (List.mem_of_mem_take hx)
theorem aFX {T T2 e : TypeId} {x y : Operand} {id sz off len cap m : Nat} {e' : TypeId} {ds es ds' : List D} {z : Option Value} {bytes : Nat} {k : Int} (ho : o.op = .call { callee := .builtin .copy, args := #[x, y], argTypes := #[T, T2] }) (hd : o.dst = some t) (ht : t < N)
    (hu : P.underlying T = some (.slice e)) (hi : TI P e z sz bytes) (he : S.ent id = .blk e' ds) (hy : ∀ E β a,Rel O N S E β a → Src E β (a.eval y) m es) (hes : es.length = m * sz) (hone : (es.take (min m len * sz)).all D.one = true)
    (hfit : off + len * sz ≤ ds.length) (hk : ((min m len : Nat) : Int) = k) (hds : gL ds off (es.take (min m len * sz)) = ds') : ∀ E β a,Rel O N S E β a → Rd E β (a.eval x) (.rsl id sz off len cap) → ∀ (next : Act → World → Prop) Q,(∀ E' β' a',Rel O N ((S.setE id (.blk e' ds')).set t (.int .i64 k)) E' β' a' → next a' E'.w) → o.wp P a E.w next Q:=by
  intro E β a hr hxr next Q hn
  subst hk hds
  obtain ⟨b,p,c,e'',f,hv,hb,hlc,hsz,hp,hp',hcap,hcs,hcm⟩:=aGz hxr
  have hent:=hr.h.ent id
  rw [he] at hent
  obtain ⟨vs,sp,hown,hh,hX,hvs⟩:=vP hent hb
  obtain ⟨i,hi1,hi2,hi3,hi4⟩:=hi.at
  have hvl:=hvs.length
  have hrun0 : ∀ r,(Builtin.copy_ #[T,T2] o.type #[a.eval x,a.eval y]).run P E.w = r → (execOp a.eval o).run P E.w = r.andThen fun v w'=>.ok (.value v) w':=fun r hr'=>by
    simp [execOp,ho,resolve,invoke,builtin,hr']
  have key : ∀ us : List Value,RdL E β us (es.take (min m len * sz)) → (0 < min m len → p = off) → (Builtin.copy_ #[T,T2] o.type #[a.eval x,a.eval y]).run P E.w = .ok (goInt ((min m len : Nat) : Int)) (E.w.setRow b ((vs ++ sp).take p ++ us ++ (vs ++ sp).drop (p + us.length)).toArray) →
      o.wp P a E.w next Q:=by
    intro us hus hpo hra
    unfold Oper.wp
    rw [hrun0 _ hra]
    have hul:=hus.length
    rw [List.length_take,hes] at hul
    have hmin : min (min m len * sz) (m * sz) = min m len * sz:=Nat.min_eq_left (Nat.mul_le_mul_right _ (Nat.min_le_left _ _))
    rw [hmin] at hul
    have hle2 : min m len * sz ≤ len * sz:=Nat.mul_le_mul_right _ (Nat.min_le_right _ _)
    have hlt : (es.take (min m len * sz)).length = min m len * sz:=by rw [List.length_take,hes,hmin]
    have heq : E.w.setRow b ((vs ++ sp).take p ++ us ++ (vs ++ sp).drop (p + us.length)).toArray = E.w.setRow b ((vs ++ sp).take off ++ us ++ (vs ++ sp).drop (off + us.length)).toArray:=by
      by_cases h0 : 0 < min m len
      · rw [hpo h0]
      · have : us = [] := List.length_eq_zero_iff.1 (by rw [hul, show min m len = 0 by omega, Nat.zero_mul])
        subst this
        simp
    rw [heq]
    obtain ⟨E',h1,h2,h3,h4⟩:=aF6 hr he hb hown hh hX hvs hus (off:=off) (by rw [hlt]; omega)
    simp only [Result.andThen_ok,Oper.upon,hd]
    rw [← h1]
    have:=h4.set ht (v:=goInt ((min m len : Nat) : Int)) (d:=.int .i64 ((min m len : Nat) : Int)) (by unfold goInt; exact .int _ _ _)
    exact hn E' β _ this
  have none_ : m = 0 ∨ len = 0 → ∀ yo sc,a.eval y = .slice yo m sc → o.wp P a E.w next Q:=by
    intro h0 yo sc hyv
    have hm0 : min m len = 0:=by omega
    refine key [] (by rw [hm0,Nat.zero_mul]; exact .nil _) (fun h=>by omega) ?_
    have e1 : E.w.setRow b ((vs ++ sp).take p ++ [] ++ (vs ++ sp).drop (p + ([] : List Value).length)).toArray = E.w:=by
      simp only [List.append_nil,List.length_nil,Nat.add_zero,List.take_append_drop]
      exact setRow_self _ _ _ _ _ hh
    rw [e1,hm0,hv,hyv]
    have hl0 : ∀ q : Addr,(loadCells q 0).run P E.w = .ok #[] E.w:=fun q=>by simpa using run_loadCells_list (P:=P) E.w q [] (by simp)
    have hmn : Nat.min m len = 0:=hm0
    cases yo <;> simp [Builtin.copy_,run_underlying hu,Builtin.lenOf,Builtin.firstCells,hi.run_size,hmn,storeCells,hl0]
  rcases hy E β a hr with ⟨hyv,hm0,he0⟩ | ⟨yb,yoff,ycap,us,hyv,hyr,hus⟩
  · subst hm0
    rcases hyv with hyv | ⟨ad,sc,hyv⟩
    · exact none_ (.inl rfl) _ _ hyv
    · exact none_ (.inl rfl) _ _ hyv
  · by_cases h0 : m = 0 ∨ len = 0
    · exact none_ h0 _ _ hyv
    · have hmin : min m len * sz ≤ m * sz := Nat.mul_le_mul_right _ (Nat.min_le_left _ _)
      have hle2 : min m len * sz ≤ len * sz:=Nat.mul_le_mul_right _ (Nat.min_le_right _ _)
      have hul : us.length = m * sz:=by rw [hus.length,hes]
      have hpo:=hp (by omega)
      have hus':=hus.take (min m len * sz)
      have hlt : (us.take (min m len * sz)).length = min m len * sz:=by rw [List.length_take,hul]; omega
      refine key _ hus' (fun _=>hpo) ?_
      have hl:=run_loadCells_list (P:=P) E.w ⟨yb,yoff,none⟩ (us.take (min m len * sz)) (fun j u hj=>by
        rw [List.getElem?_take] at hj
        split at hj
        · exact hyr j u hj
        · cases hj)
      have hst:=run_storeCells_at P b p e' (us.take (min m len * sz)) 0 (vs ++ sp).toArray E.w hh (by simp; omega) (yX hus' hone)
      simp only [Nat.add_zero] at hst
      rw [hv,hyv]
      have hmm : Nat.min m len = min m len:=rfl
      rw [hlt] at hl hst ⊢
      simp [Builtin.copy_,run_underlying hu,Builtin.lenOf,Builtin.firstCells,hi.run_size,hmm,hl,hst]
end
end Go.IL
open Go.RowKit (Below)
namespace Go.IL
section
variable {P : Program} {O : cG} {N : Nat} {S S' : St} {o : Oper} {t : Nat} {Q : Exit → St → Prop}
end
end Go.IL
open Go.RowKit (Below)
namespace Go.IL
section
variable {α : Type} (f : Enc0 α)
theorem Enc0.flat_take (l : List α) (k : Nat) : (D.flat (l.map f.d)).take (k * f.sz) = D.flat ((l.take k).map f.d):=by
  by_cases hk : k ≤ l.length
  · have h1 := f.flat_append (l.take k) (l.drop k)
    rw [List.take_append_drop] at h1
    have h2 : (D.flat ((l.take k).map f.d)).length = k * f.sz:=by rw [f.flat_len,List.length_take,Nat.min_eq_left hk]
    rw [← h1,List.take_append_of_le_length (by rw [h2]; exact Nat.le_refl _),← h2,List.take_length]
  · rw [List.take_of_length_le (l:=l) (by omega),List.take_of_length_le (by rw [f.flat_len]; exact Nat.mul_le_mul_right _ (by omega))]
end
theorem wS {a b : Nat} (h : b ≤ a) (h1 : a ≤ maxLen) : IntKind.wrap .i64 ((a : Int) - (b : Int)) = ((a - b : Nat) : Int):=by
  unfold maxLen at h1; rw [wrap64 (by omega) (by omega)]; omega
end Go.IL
open Go.RowKit (Below)
namespace Go.IL
section
variable {P : Program} {O : cG} {N : Nat} {S S' : St} {o : Oper} {t : Nat} {Q : Exit → St → Prop}
theorem Rel.same {E : Env} {β : bW} {a : Act} (h : Rel O N S E β a) (h1 : ∀ s,S'.get s = S.get s) (h2 : ∀ j,S'.ent j = S.ent j) : Rel O N S' E β a:=by
  have h3 : S'.ent = S.ent:=funext h2
  exact ⟨h.n,h.nd,h3 ▸ h.h,fun s=>(h1 s).symm ▸ h.sl s⟩
theorem aBN {S : St} {id : Nat} {e : Ent} : (S.setE id e).ent id = e:=by simp [St.ent,entL,St.setE,aX]
theorem tV {S : St} {id j : Nat} {e : Ent} (h : j ≠ id) : (S.setE id e).ent j = S.ent j:=by simp [St.ent,entL,St.setE,aX,Ne.symm h]
theorem Rel.shrunk {E : Env} {β : bW} {a : Act} (h : Rel O N S E β a) {id : Nat} {e : TypeId} {ds ds' j : List D} (he : S.ent id = .blk e ds) (hd : ds = ds' ++ j) : Rel O N (S.setE id (.blk e ds')) E β a:=by
  subst hd
  have hent:=h.h.ent id
  rw [he] at hent
  have held : ∀ j,((S.setE id (.blk e ds')).ent j).held = (S.ent j).held:=fun j=>by
    by_cases hj : j = id
    · subst hj; rw [aBN,he]; rfl
    · rw [tV hj]
  refine ⟨h.n,h.nd,{ h.h with ent:=fun k=>?_,inj:=fun i j k hi hj=>h.h.inj i j k (held i ▸ hi) (held j ▸ hj) },h.sl⟩
  by_cases hk : k = id
  · subst hk
    rw [aBN]
    rcases hent with ⟨h1,h2⟩ | ⟨b,vs,sp,h1,h2,h3,h4,h5⟩
    · exact .inl ⟨h1,(List.append_eq_nil_iff.1 h2).1⟩
    · refine .inr ⟨b, vs.take ds'.length, vs.drop ds'.length ++ sp, h1, h2, by rw [← List.append_assoc, List.take_append_drop]; exact h3, h4, ?_⟩
      have:=h5.take ds'.length
      rwa [List.take_append_of_le_length (Nat.le_refl _),List.take_length] at this
  · rw [tV hk]; exact h.h.ent k
theorem wL {α : Type} (f : Enc0 α) (l : List α) (k : Nat) : D.flat (l.map f.d) = D.flat ((l.take k).map f.d) ++ D.flat ((l.drop k).map f.d):=by
  rw [f.flat_append,List.take_append_drop]
theorem aDs {α : Type} (f : Enc0 α) {T e e' : TypeId} {x y : Operand} {z : Option Value} {bytes id n : Nat} {l r : List α} {k : IntKind} {h : Int} (ho : o.op = .slice T x none (some y) none) (hd : o.dst = some t) (ht : t < N)
    (hu : P.underlying T = some (.slice e)) (hi : TI P e z f.sz bytes) (hx : SV S x (.osl id f.sz n)) (he : S.ent id = .blk e' (D.flat (l.map f.d))) (hn : l.length ≤ n) (hy : SV S y (.int k h)) (hc : cut l 0 h = some r) :
    IOp P O N o S ((S.setE id (.blk e' (D.flat (r.map f.d)))).set t (.osl id f.sz r.length)):=by
  obtain ⟨⟨_,h0,h1⟩,hr'⟩:=cut_e hc
  have hr2 : l.take h.toNat = r:=by simpa using hr'
  have hrl : r.length = h.toNat:=by rw [← hr2,List.length_take]; omega
  have key : IOp P O N o S (S.set t (.osl id f.sz r.length)):=eY hd ht fun E β a hr=>by
    have hhi : vU S (n : Int) (some y) h:=⟨_,hy⟩
    have hlo : vU S 0 none 0:=rfl
    have h1:=hx.rd hr
    generalize hv : a.eval x = v at h1
    cases h1 with
    | nosl =>
      have hb:=lP (P:=P) hr (isS:=true) hlo hhi (Int.le_refl 0) h0 (by omega) (Nat.le_refl _)
      have e1 : h.toNat = 0:=by omega
      refine ⟨.slice none 0 0,?_,by rw [hrl,e1]; exact .nosl _ _ _⟩
      simp only [Option.map_none,Option.map_some] at hb
      simp [execOp,ho,hv,Instr.sliceAt,Instr.slice,run_underlying hu,hb,hi.run_size,e1]
    | osl _ _ b _ cap _ hb' hc' hsz c e2 f2 hcap hcs hcm =>
      have hb:=lP (P:=P) hr (isS:=true) hlo hhi (Int.le_refl 0) h0 (by omega) hc'
      simp only [Option.map_none,Option.map_some] at hb
      refine ⟨.slice (some ⟨b,0,none⟩) h.toNat cap,?_,by rw [hrl]; exact .osl _ _ b _ cap _ hb' (by omega) hsz c e2 f2 hcap hcs hcm⟩
      simp [execOp,ho,hv,Instr.sliceAt,Instr.slice,run_underlying hu,hb,hi.run_size,Addr.add]
  intro E β a hr next Q hn'
  refine key E β a hr next Q fun E' β' a' hr'=>hn' E' β' a' ?_
  exact hr'.shrunk (ds':=D.flat (r.map f.d)) (j:=D.flat ((l.drop h.toNat).map f.d)) he (by rw [← hr2]; exact wL f l _)
theorem xC {T e : TypeId} {x : Operand} {n : Int} (ho : o.op = .call { callee:=.builtin .cap,args:=#[x],argTypes:=#[T] }) (hd : o.dst = some t) (ht : t < N) (hu : P.underlying T = some (.slice e))
    (hx : SV S x .nils) (hn : (0 : Int) = n) : IOp P O N o S (S.set t (.int .i64 n)) :=
  eY hd ht fun E β a hr=>⟨.int .i64 n,by
    subst hn
    have h1:=hx.rd hr
    generalize hv : a.eval x = v at h1
    cases h1
    simp [execOp,ho,resolve,invoke,builtin,Builtin.cap_,run_underlying hu,hv,goInt],.int _ _ _⟩
theorem nA {b : Frame} {a : Act} {k : List Item} {cs : List Frame} {w : World} {c : Code} : step P (lone (b.atR a (.code (.scope c) :: k)) cs w) = .next (lone (b.atR a (.code c :: .inScope c :: k)) cs w) :=
  step_lone_go (by simp [stepG,stepG.exec,Frame.atR])
theorem aAm {b : Frame} {a : Act} {k : List Item} {cs : List Frame} {w : World} {c : Code} : step P (lone (b.atR a (.inScope c :: k)) cs w) = .next (lone (b.atR a k) cs w) :=
  step_lone_go (by simp [stepG,stepG.exec,Frame.atR])
theorem aDW {F : Fence} {n : Nat} {a : Act} {w : World} {R : Exit → Act → World → Prop} {c : Code} (h : c.wpIn F n P (Exit.noGoto R) a w) : (Code.scope c).wpIn F n P R a w:=by
  intro b k cs hro hb hr
  have h0 : (lone (b.atR a (.code (.scope c) :: k)) cs w).fenced P F:=fenced_calm hb hr rfl
  obtain ⟨e,a₁,w₁,hq,harr⟩:=h b (.inScope c :: k) cs hro hb hr
  cases e with
  | normal=>exact ⟨.normal,a₁,w₁,hq,.head h0 nA (StepsIn.trans harr (.one (fenced_calm hb hr rfl) aAm))⟩
  | exit id =>
    have hx : exitTo id (.inScope c :: k) = exitTo id k:=by simp [exitTo]
    exact ⟨.exit id,a₁,w₁,hq,fun k' hk=>.head h0 nA (harr.1 k' (by rw [hx]; exact hk)),
      fun hr' hk=>let ⟨k₁,h1,h2⟩:=harr.2 hr' (by rw [hx]; exact hk); ⟨k₁,h1,.head h0 nA h2⟩⟩
  | goto l=>exact hq.elim
  | ret=>exact ⟨_,a₁,w₁,hq,.of_steps (.one h0 nA) harr⟩
  | panic ch=>exact ⟨_,a₁,w₁,hq,.of_steps (.one h0 nA) harr⟩
  | outgrown=>exact ⟨_,a₁,w₁,hq,.of_steps (.one h0 nA) harr⟩
def aGw (Q : Exit → St → Prop) : Exit → St → Prop
  | .goto _,_=>False
  | e,S=>Q e S
theorem aE6 {c : Code} (h : IWP P O N c S (aGw Q)) : IWP P O N (.scope c) S Q:=by
  intro E β a hr
  refine aDW (wpIn_mono (h E β a hr) ?_)
  rintro e a' w' ⟨S',E',β',rfl,h2,h3⟩
  cases e with
  | goto l=>exact h3.elim
  | _=>exact ⟨S',E',β',rfl,h2,h3⟩
theorem aAp (h : Q .ret S) : aGw Q .ret S:=h
theorem xQ {T tn e : TypeId} {x y : Operand} {z : Value} {sz k bytes : Nat} {ki kn : IntKind} {n : Int} (id' : Nat)
    (ho : o.op = .call { callee:=.builtin .append,args:=#[x,y],argTypes:=#[T,tn] }) (hd : o.dst = some t) (ht : t < N)
    (hu : P.underlying T = some (.slice e)) (htn : P.underlying tn = some (.int kn)) (hi : TI P e (some z) sz bytes) (hz : z.cells.size = sz) (hsz : 0 < sz)
    (hx : SV S x .nils) (hfr : S.ent id' = .fresh) (hy : SV S y (.int ki n)) (hn : n = (k : Int)) (hk : 0 < k) (hm : k ≤ maxLen) (hb : k * bytes ≤ 140737488355328) :
    IOp P O N o S ((S.setE id' (.blk e (List.replicate (k * sz) .dead))).set t (.osl id' sz k)):=by
  intro E β a hr next Q hnx
  subst hn
  have h1:=hx.rd hr
  generalize hv : a.eval x = v at h1
  cases h1
  obtain ⟨i,hi1,hi2,hi3,hi4⟩:=hi.at
  have hfre : β id' = none:=by have:=hr.h.ent id'; rw [hfr] at this; exact this
  have hra:=Go.Lib.run_append_nil_zeros (P:=P) E.w T tn o.type e i z ki kn hu htn hi1 hi2 k hk (by rw [hi3]; exact hsz) (by simp [maxLen] at hm; omega) (by rw [hi4]; omega)
  have hyv:=jU (hy.rd hr)
  have hrun : (execOp a.eval o).run P E.w = ((Builtin.append_ #[T,tn] o.type #[a.eval x,a.eval y]).run P E.w).andThen fun v w'=>.ok (.value v) w':=by
    simp [execOp,ho,resolve,invoke,builtin]
  unfold Oper.wp
  rw [hrun,hv,hyv,hra]
  simp only [Result.andThen_ok,Oper.upon,hd]
  let C : Array Value:=Builtin.zeroCells z.cells k ++ Builtin.zeroCells z.cells (grownCap E.w k 0 e - k)
  let E' : Env:=⟨E.w.drew.alloc (.cells C e),fun b o=>b = E.w.heap.size ∨ E.X b o⟩
  let β' : bW:=fun j=>if j = id' then some E.w.heap.size else β j
  have hβ : β.le β':=fun j b hj=>by
    by_cases hji : j = id'
    · subst hji; rw [hfre] at hj; cases hj
    · simp [β',hji,hj]
  have hs : Step O E E' E.w.heap.size :=
    ⟨rfl,rfl,rfl,by simp [E'],by simp [E'],.inl hr.h.size,fun k hk _=>heap_alloc_old E.w.drew _ hk,fun k o hk=>by simp [E',hk],fun _ h=>Nat.lt_irrefl _ (dI h)⟩
  have hle : E.le E':=hs.le (fun o v h1 _=>by have:=World.block_lt_of_cell? _ _ h1; simp at this) (fun c e f h1=>by have:=dI h1; simp at this)
  have hnew : E'.w.heap[E.w.heap.size]? = some (.cells C e (0,0)):=heap_alloc_new E.w.drew _
  have hts : t < a.tmps.size:=hr.n ▸ ht
  refine hnx E' β' _ ⟨by simp [Act.put,hr.n],hr.nd.step hs,?_,fun s=>?_⟩
  · refine HOk.put hr.h hs hle hβ ?_ ?_ (id := id') (by simp [β']) ?_ (fun _ _ => trivial)
    · intro j hj; left; constructor
      · simp [St.ent,entL,St.setE,St.set,aX,Ne.symm hj]
      · simp [β',hj]
    · intro j hj hheld hbj
      have : (S.ent j).held = true:=by simpa [St.ent,entL,St.setE,St.set,aX,Ne.symm hj] using hheld
      have:=hr.h.held_lt this hbj
      omega
    · simp only [St.ent, entL, St.setE, St.set, aX, if_true]
      refine ⟨(Builtin.zeroCells z.cells k).toList,(Builtin.zeroCells z.cells (grownCap E.w k 0 e - k)).toList,by rw [hnew]; simp [C],fun o=>.inl rfl,?_⟩
      have:=xU E' β' (Builtin.zeroCells z.cells k).toList
      rwa [show (Builtin.zeroCells z.cells k).toList.length = k * sz by rw [Array.length_toList,size_zeroCells,hz]] at this
  · by_cases hst : t = s
    · subst hst
      simp only [Act.put,St.get,St.set,aX,if_true,Array.getD_eq_getD_getElem?,Array.getElem?_setIfInBounds_self,hts,Option.getD_some]
      refine .osl _ _ E.w.heap.size _ (grownCap E.w k 0 e) sz (by simp [β']) (grownCap_ge _ _ _ _) hsz _ _ _ hnew ?_ (grownCap_le_maxLen _ _ _ _ hm)
      have h1:=grownCap_ge E.w k 0 e
      simp only [C,Array.size_append,size_zeroCells,hz]
      rw [← Nat.add_mul]
      exact Nat.mul_le_mul_right _ (by omega)
    · have := Rd.mono hle hβ (hr.sl s)
      simpa [Act.put,St.get,St.set,St.setE,aX,hst,Array.getElem?_setIfInBounds_ne] using this
theorem aDt {T e e' : TypeId} {x y : Operand} {z : Option Value} {bytes id n sz : Nat} {k : IntKind} {ds : List D} (ho : o.op = .slice T x none (some y) none) (hd : o.dst = some t) (ht : t < N)
    (hu : P.underlying T = some (.slice e)) (hi : TI P e z sz bytes) (hx : SV S x (.osl id sz n)) (he : S.ent id = .blk e' ds) (hy : SV S y (.int k 0)) :
    IOp P O N o S ((S.setE id (.blk e' [])).set t (.osl id sz 0)):=by
  have key : IOp P O N o S (S.set t (.osl id sz 0)):=eY hd ht fun E β a hr=>by
    have hhi : vU S (n : Int) (some y) 0:=⟨_,hy⟩
    have hlo : vU S 0 none 0:=rfl
    have h1:=hx.rd hr
    generalize hv : a.eval x = v at h1
    cases h1 with
    | nosl =>
      have hb:=lP (P:=P) hr (isS:=true) hlo hhi (Int.le_refl 0) (Int.le_refl 0) (by omega) (Nat.le_refl _)
      refine ⟨.slice none 0 0,?_,.nosl _ _ _⟩
      simp only [Option.map_none,Option.map_some] at hb
      simp [execOp,ho,hv,Instr.sliceAt,Instr.slice,run_underlying hu,hb,hi.run_size]
    | osl _ _ b _ cap _ hb' hc' hsz c e2 f2 hcap hcs hcm =>
      have hb:=lP (P:=P) hr (isS:=true) hlo hhi (Int.le_refl 0) (Int.le_refl 0) (by omega) hc'
      simp only [Option.map_none,Option.map_some] at hb
      refine ⟨.slice (some ⟨b,0,none⟩) 0 cap,?_,.osl _ _ b _ cap _ hb' (by omega) hsz c e2 f2 hcap hcs hcm⟩
      simp [execOp,ho,hv,Instr.sliceAt,Instr.slice,run_underlying hu,hb,hi.run_size,Addr.add]
  intro E β a hr next Q hn'
  refine key E β a hr next Q fun E' β' a' hr'=>hn' E' β' a' ?_
  exact hr'.shrunk (ds':=[]) (j:=ds) he rfl
theorem zT {T e : TypeId} {x y : Operand} {z : Option Value} {size bytes : Nat} {k : IntKind} (ho : o.op = .slice T x none (some y) none) (hd : o.dst = some t) (ht : t < N)
    (hu : P.underlying T = some (.slice e)) (hi : TI P e z size bytes) (hx : SV S x .nils) (hy : SV S y (.int k 0)) : IOp P O N o S (S.set t .nils) :=
  eY hd ht fun E β a hr=>by
    have h1:=hx.rd hr
    generalize hv : a.eval x = v at h1
    cases h1
    refine ⟨.slice none 0 0,?_,.nils _⟩
    simp [execOp,ho,hv,Instr.sliceAt,Instr.slice,run_underlying hu,hi.run_size,Instr.sliceBounds,Instr.sliceBound,jU (hy.rd hr),asIntOf]
def aGX {α : Type} (b : Nat) (n : Int) : Option (List α):=if 0 ≤ n ∧ n ≤ 9223372036854775807 ∧ n * (b : Int) ≤ 140737488355328 then some [] else none
theorem growS_e {α : Type} {b : Nat} {n : Int} {r : List α} (h : aGX b n = some r) : ∃ k : Nat, n = (k : Int) ∧ k ≤ maxLen ∧ k * b ≤ 140737488355328 ∧ r = [] := by
  unfold aGX at h
  split at h
  · rename_i hh
    obtain ⟨h1,h2,h3⟩:=hh
    obtain ⟨k,rfl⟩ : ∃ k : Nat,n = (k : Int):=⟨n.toNat,by omega⟩
    exact ⟨k, rfl, by unfold maxLen; omega, by have : ((k * b : Nat) : Int) ≤ 140737488355328 := by push_cast; exact h3
                                               omega,(Option.some.inj h).symm⟩
  · cases h
end
end Go.IL
open Go.RowKit (Below)
namespace Go.IL
section
variable {P : Program} {O : cG} {N : Nat} {S S' : St} {o : Oper} {t : Nat} {Q : Exit → St → Prop}
structure HandM (S : St) (k : Nat) (A : List Nat) (H0 : List (Nat × Ent)) : Prop where
  nd : A.Nodup
  cov : A.all (fun i=>(H0.map fun x=>sig k A x.1).contains i) = true
  ents : ∀ x ∈ H0,iD A x.1 = true ∧ x.2.held = true ∧ S.ent (sig k A x.1) = x.2.ren (sig k A) ∧ x.2.refsIn (iD A) = true
end
end Go.IL
