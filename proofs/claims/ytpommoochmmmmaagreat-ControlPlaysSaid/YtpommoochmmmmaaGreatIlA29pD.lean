/-
  A part of the proof: rules and plain facts. No condition.
-/
import Derived.Test.YtpommoochmmmmaaGreatIlEx
import Derived.Test.YtpommoochmmmmaaGreatIlZ
import Derived.Lib.Builder
import Derived.Lib.UnsafeStr
set_option linter.all false
open Go renaming Program → An
open Go.IL.RdL renaming mono → Bu
open Nat renaming le_trans → Cb,lt_of_lt_of_le → CA
open _root_ renaming absurd → AP
open Go.Lib
open Go.RowKit (Below)
namespace Go.IL
section
variable {P:An} {O:aR} {N:Nat} {S S':St} {o:Oper} {t:Nat} {Q:Exit→St→Prop}
theorem HOk.drop {E E':Env} {β:bD} {H H':Nat→Ent} {b id:Nat} (h:HOk O E β H) (hs:Step O E E' b) (hle:E.le E')
 (hother:∀ j,j≠id→H' j=H j) (hid:H' id = .none) (hap:∀ j,j≠id→(H j).held=true→β j≠some b):HOk O E' β H' where
 os:=hs.os.trans h.os
 tab:=h.tab
 tape:=hs.tape.trans h.tape
 output:=hs.output.trans h.output
 size:=Cb h.size hs.size
 block k hk hf:=by
  have hne:k≠b:=by
   rintro rfl
   rcases hs.own with h1 | h1
   · omega
   · exact hf h1
  exact (hs.block k (by have:=h.size; omega) hne).trans (h.block k hk hf)
 xlt k o hX:=by
  by_cases hk:k=b
  · subst hk; exact hs.lt
  · exact CA (h.xlt k o ((hs.X k o hk).1 hX)) hs.size
 xold k o hk hf:=by
  have hne:k≠b:=by
   rintro rfl
   rcases hs.own with h1 | h1
   · omega
   · exact hf h1
  exact (hs.X k o hne).trans (h.xold k o hk hf)
 ent j:=by
  by_cases hj:j=id
  · subst hj; rw [hid]; trivial
  · rw [hother j hj]
    have hapj:=hap j hj
    have he:=h.ent j
    cases hH:H j with
    | none=>trivial
    | fresh=>rw [hH] at he; exact he
    | blk e ds =>
      rw [hH] at he hapj
      rcases he with ⟨h3,h4⟩ | ⟨k,vs,sp,h3,h4,h5,h6,h7⟩
      · exact .inl ⟨h3,h4⟩
      · have hne:k≠b:=fun e=>hapj rfl (e ▸ h3)
        exact .inr ⟨k,vs,sp,h3,h4,(hs.block k (cU h5) hne).trans h5,fun o=>(hs.X k o hne).2 (h6 o),Bu hle (bD.le.refl _) h7⟩
    | tail e sz n =>
      rw [hH] at he hapj
      rcases he with ⟨h3,h4⟩ | ⟨k,c,h3,h4,h5,h6⟩
      · exact .inl ⟨h3,h4⟩
      · have hne:k≠b:=fun e=>hapj rfl (e ▸ h3)
        exact .inr ⟨k,c,h3,h4,(hs.block k (cU h5) hne).trans h5,fun o ho=>(hs.X k o hne).2 (h6 o ho)⟩
    | loop lk ds st pend =>
      rw [hH] at he hapj
      obtain ⟨k,r,h3,h4,h5,h6,h7,h8,h9,h10,h11,h12⟩:=he
      have hne:k≠b:=fun e=>hapj rfl (e ▸ h3)
      exact ⟨k,r,h3,h4,(hs.block k (cU h5) hne).trans h5,fun o=>(hs.X k o hne).2 (h6 o),h7,h8,h9,h10,h11,h12.1,Bu hle (bD.le.refl _) h12.2⟩
    | kept n ds =>
      rw [hH] at he
      refine ⟨Bu hle (bD.le.refl _) he.1,fun c hc=>?_⟩
      have h5:=he.2 c hc
      by_cases hcb:c=b
      · subst hcb; exact AP h5 (hs.dfr _)
      · exact (hs.block c (cU h5) hcb).trans h5
 le:=h.le.trans hle
 gid:=h.gid
 given i b hi:=h.given i b hi
 inj i j k hi hj h1 h2:=by
  have hii:i≠id:=fun e=>by rw [e,hid] at hi; cases hi
  have hjj:j≠id:=fun e=>by rw [e,hid] at hj; cases hj
  exact h.inj i j k (hother i hii ▸ hi) (hother j hjj ▸ hj) h1 h2
structure aR.Semi (O:aR):Prop where
 round:O.round=none
 foot:∀ b,O.w.heap.size≤b→¬ O.foot b
structure aR.SemiL (L:List Nat) (O:aR):Prop where
 round:O.round=none
 foot:∀ b,O.w.heap.size≤b→¬ O.foot b
 dv:∀ j,j ∉ L→O.dv j=[]
def LG (P:An) (O:aR) (N:Nat) (c:Code) (Q:Exit→St→Prop) (S:St):Prop :=
 ∀ E β a,Rel O N S E β a→∀ (b:Frame) (k:List Item) (cs:List Frame),b.roundOf=(fen O.round).round→(fen O.round).fn b.fn→(fen O.round).room (cs.length+1+0) →
   ∃ e a' w',(∃ S' E' β',E'.w=w'∧Rel O N S' E' β' a'∧Q e S')∧ArrivesIn (Machine.fenced P (fen O.round)) P (lone (b.atR a (.code c :: .inLoop c::k)) cs E.w) b k cs e a' w'
theorem aGP {c:Code} (h:IWP P O N c S (aCH (LG P O N c Q) Q)):LG P O N c Q S:=by
 intro E β a hr b k cs hro hb hroom
 obtain ⟨e,a₁,w₁,⟨S₁,E₁,β₁,rfl,hr₁,hq⟩,harr⟩:=h E β a hr b (.inLoop c::k) cs hro hb hroom
 cases e with
 | normal =>
   obtain ⟨e₂,a₂,w₂,hq₂,harr₂⟩:=hq E₁ β₁ a₁ hr₁ b k cs hro hb hroom
   exact ⟨e₂,a₂,w₂,hq₂,.of_steps (StepsIn.trans harr (.one (fenced_calm hb hroom rfl) stepR_inLoop)) harr₂⟩
 | exit id=>exact ⟨_,a₁,_,⟨S₁,E₁,β₁,rfl,hr₁,hq⟩,.pass (x:=.inLoop c) rfl (fun _ _=>.inl (by simp)) harr⟩
 | goto l=>exact ⟨_,a₁,_,⟨S₁,E₁,β₁,rfl,hr₁,hq⟩,.pass (x:=.inLoop c) rfl (fun _ _=>.inl (by simp)) harr⟩
 | ret=>exact ⟨_,a₁,_,⟨S₁,E₁,β₁,rfl,hr₁,hq⟩,.pass (x:=.inLoop c) rfl (fun _ _=>.inl (by simp)) harr⟩
 | panic ch=>exact ⟨_,a₁,_,⟨S₁,E₁,β₁,rfl,hr₁,hq⟩,.pass (x:=.inLoop c) rfl (fun _ _=>.inl (by simp)) harr⟩
 | outgrown=>exact ⟨_,a₁,_,⟨S₁,E₁,β₁,rfl,hr₁,hq⟩,.pass (x:=.inLoop c) rfl (fun _ _=>.inl (by simp)) harr⟩
theorem aFd {c:Code} (h:LG P O N c Q S):IWP P O N (.loop c) S Q:=by
 intro E β a hr b k cs hro hb hroom
 obtain ⟨e,a',w',hq,harr⟩:=h E β a hr b k cs hro hb hroom
 exact ⟨e,a',w',hq,.of_steps (.one (fenced_calm hb hroom rfl) stepR_loop) harr⟩
end
end Go.IL
open Go renaming Operand → Ag,TypeId → Ak,Value → AI
open _root_ renaming Option → Ad
namespace Go.IL
section
variable {P:An} {O:aR} {N:Nat} {S S':St} {o:Oper} {t:Nat} {α:Type}
section loads
variable (f:Enc0 α) {T:Ak} {x:Ag} {u:TypeDesc} {z:Ad AI} {size bytes:Nat} {id off:Nat} {e:Ak} {pre post r cs:List D} {xs:List α} {d:D}
end loads
section stores
variable (f:Enc0 α) {T:Ak} {x y:Ag} {z:Ad AI} {size bytes:Nat} {id off:Nat} {e:Ak} {pre pre' post post':List D} {xs zs:List α} {d:D}
end stores
theorem SubC.refl:∀ l:List D,SubC l l
 | []=>.nil
 | _::l=>.same (SubC.refl l)
theorem SubC.append {l l' m m':List D} (h:SubC l l') (k:SubC m m'):SubC (l++m) (l'++m'):=by
 induction h with
 | nil=>exact k
 | same _ ih=>exact .same ih
 | nilg _ ih=>exact .nilg ih
 | nilo _ ih=>exact .nilo ih
 | nils _ ih=>exact .nils ih
 | gsl _ ih=>exact .gsl ih
section
variable {Q:Exit→St→Prop}
end
end
end Go.IL
open Bool renaming and_eq_true → Af,and_self → Bs,or_eq_true → CB
open Go renaming FuncId → BP
open Go.IL.Ce renaming own → Ht
open Go.IL.CeL renaming ents_lb → FZ,ths → Fy,ty → EF
open Go.IL.D renaming refsIn → Bq,refsInL → AG,ren → Dv,renL → BV
open Go.IL.IT renaming ents → FW,own → CY,refs → HC
open Go.IL.ITL renaming ents → CZ,ents_held → Gb,ents_in → GZ,ents_own → EZ,ents_ren → HT,get → GS,get_mem → GW,sls → Dd,sls_in → HJ,sls_slots → EL,ths → BS,ty → BN
open Go.IL.RK renaming ret → Hs
open Go.IL.V renaming dL → Ck
open List renaming all_cons → CR,all_eq_true → AV,append_assoc → Ax,contains_eq_mem → Eo,flatMap_cons → Be,getD_eq_getElem?_getD → CN,getElem?_map → CH,length_cons → Ao,map_append → BR,map_congr_left → GT,map_cons → AB,map_map → Bz,mem_cons → AF,mem_cons_of_mem → BB,mem_map → AL,mem_range → GM,not_mem_nil → AW,range → Bx,range' → Db,range'_succ → CM,range_eq_range' → Cz
open Nat renaming ble → AT,ble_eq → Dz,ble_eq_true_of_le → DT,blt_eq → CQ,le_of_ble_eq_true → AR
open Option renaming getD_some → Dp,map_some → Cl
open _root_ renaming if_neg → Aq,if_pos → Az
namespace Go.IL
section
variable {P:An} {O:aR} {N:Nat} {S S0:St} {o:Oper} {t:Nat}
def Erw (S0:St) (i:Nat) (en:Ent):Prop:=∃ e ds',en = .blk e ds'∧((∃ ds,S0.ent i = .blk e ds∧WkL ds ds')∨(S0.ent i = .fresh∧ds'=[]))
theorem Rel.wkE {E:Env} {β:bD} {a:Act} (h:Rel O N S0 E β a) {W:List (Nat×Ent)} (hW:∀ i en,(i,en)∈W→Erw S0 i en):Rel O N ⟨S0.sl,W++S0.H⟩ E β a:=by
 have key:∀ i,(⟨S0.sl,W++S0.H⟩:St).ent i=S0.ent i∨Erw S0 i ((⟨S0.sl,W++S0.H⟩:St).ent i):=by
  intro i
  show look (defE i) i (W++S0.H)=_∨Erw S0 i (look (defE i) i (W++S0.H))
  rw [dI]
  by_cases hi:i∈W.map (·.1)
  · rw [Az hi]
    obtain ⟨e,h1,h2⟩:=jY (z:=defE i) hi
    right; rw [h2]; exact hW i e h1
  · rw [Aq hi]; left; rfl
 have hheld:∀ i b,((⟨S0.sl,W++S0.H⟩:St).ent i).held=true→β i=some b→(S0.ent i).held=true:=by
  intro i b hh hb
  rcases key i with h1 | ⟨e,ds',h1,h2⟩
  · rw [h1] at hh; exact hh
  · rcases h2 with ⟨ds,h2,_⟩ | ⟨h2,_⟩
    · rw [h2]; rfl
    · have:=h.h.ent i
      rw [h2] at this
      rw [show β i=none from this] at hb; cases hb
 refine ⟨h.n,h.nd,{ h.h with ent:=fun i=>?_,inj:=fun i j b hi hj hbi hbj=>h.h.inj i j b (hheld i b hi hbi) (hheld j b hj hbj) hbi hbj },h.sl⟩
 have he:=h.h.ent i
 rcases key i with h1 | ⟨e,ds',h1,h2⟩
 · rw [h1]; exact he
 · rw [h1]
   rcases h2 with ⟨ds,h2,h3⟩ | ⟨h2,rfl⟩
   · rw [h2] at he
     rcases he with ⟨h4,rfl⟩ | ⟨b,vs,sp,h4,h5,h6,h7,h8⟩
     · cases h3; exact .inl ⟨h4,rfl⟩
     · exact .inr ⟨b,vs,sp,h4,h5,h6,h7,h8.wk h3⟩
   · rw [h2] at he; exact .inl ⟨he,rfl⟩

theorem aC6 (ρ:Nat→Nat):∀ (l:List D),BV ρ l=l.map (Dv ρ)
 | []=>rfl
 | d::l=>by simp only [BV,AB,aC6 ρ l]
theorem vS (p:Nat→Bool):∀ {l:List D},(∀ d∈l,d.refsIn p=true)→AG p l=true
 | [],_=>rfl
 | d::l,h=>by
   have h1:=h d (by simp)
   have h2:=vS p (l:=l) fun d hd=>h d (BB _ hd)
   simp only [AG,h1,h2,Bs]
theorem aK4 (ρ:Nat→Nat) (l:List D):(retD l).ren ρ=retD (l.map (Dv ρ)):=by
 cases l with
 | nil=>rfl
 | cons a l=>cases l with
   | nil=>rfl
   | cons b l=>simp only [retD,Dv,aC6,AB]
theorem retD_in (p:Nat→Bool) {l:List D} (h:∀ d∈l,d.refsIn p=true):(retD l).refsIn p=true:=by
 cases l with
 | nil=>rfl
 | cons a l=>cases l with
   | nil=>exact h a (by simp)
   | cons b l=>simp only [retD,Bq]; exact vS p h
end
section
variable {τ:Nat→El} (κ:∀ e,Cod τ e)
def HS.ds (h:HS τ) (z:BN τ h.l):List D:=(dS (BS idn h.l z) [] (Dd κ idn idn h.l z)).map (·.2)
def HS.H0 (h:HS τ) (z:BN τ h.l):List (Nat×Ent):=dH (BS idn h.l z) (CZ κ idn idn h.l z)
def HS.ret (h:HS τ) (u:BN τ h.o):List D:=(dS (BS idn h.o u) [] (Dd κ idn idn h.o u)).map (·.2)
def HS.H1 (h:HS τ) (u:BN τ h.o):List (Nat×Ent):=dH (BS idn h.o u) (CZ κ idn idn h.o u)
def HsOk (P:An) (f:BP) (h:HS τ):Prop:=bP P f∧h.wf=true∧∀ z y,h.F z=some y→FnH P f (h.ds κ z) (h.H0 κ z) (retD (h.ret κ (h.un z y))) (h.H1 κ (h.un z y))
end
section
variable {R:Type} {C:Cx} {O:aR} {N:Nat} {S0:St} {o:Oper} {S:VS C.τ} {k:KK C.τ R} {r:R}

theorem aIF {τ:Nat→El} {Θ:Th τ} {Γ:Ga}:∀ (n:Nat) (vs:List (V τ)) (ys:List (Nat×D)),ys.map (·.1)=Db n vs.length→(∀ y∈ys,Wk ((look (Sv.v V.dead:Sv τ) y.1 (zipF n vs)).d Θ Γ) y.2)→WkL (Ck Θ vs) (ys.map (·.2))
 | _,[],[],_,_=>.nil
 | _,[],_::_,h,_=>by simp at h
 | _,_::_,[],h,_=>by simp [CM] at h
 | n,v::vs,(m,d)::ys,h,hw=>by
   simp only [AB,Ao,CM,List.cons.injEq] at h
   obtain ⟨rfl,h⟩:=h
   simp only [Ck,AB]
   refine .cons ?_ (aIF (Γ:=Γ) (m+1) vs ys h fun y hy=>?_)
   · have:=hw (m,d) (by simp)
     simp only [zipF,aN,if_true,Sv.d] at this
     exact this
   · have h1:=hw y (by simp [hy])
     have h2:y.1∈Db (m+1) vs.length:=h ▸ AL.2 ⟨y,hy,rfl⟩
     have h3:¬ m=y.1:=by simp [List.mem_range'] at h2; omega
     simp only [zipF,aN,Aq h3] at h1
     exact h1

theorem aKv (A:List Nat) (k i:Nat):sigE A k i=sig k A i:=by
 unfold sigE sig
 cases hb:AT 1000 i with
 | true=>rw [Az (AR hb)]
 | false=>rw [Aq (fun h1=>by rw [DT h1] at hb; cases hb)]
theorem aMX {τ:Nat→El} {θ Θ:Th τ} (hn:(θ.map (·.1)).Nodup):ThOk (θ++Θ) θ:=by
 rintro ⟨c,e,ls⟩ hh
 have h1:(c,some (⟨e,ls⟩:TL τ))∈θ.map (fun x=>(x.1,some x.2)):=AL.2 ⟨_,hh,rfl⟩
 have h2:=xA (z:=none) h1 (by rw [Bz]; exact hn)
 have h3:look none c ((θ++Θ).map fun x=>(x.1,some x.2))=some (⟨e,ls⟩:TL τ):=by
  rw [BR,dI,Az (AL.2 ⟨_,h1,rfl⟩)]; exact h2
 simp only [Th.at]
 rw [h3]; simp
theorem CeL.ths_key (cn:Nat→Nat):∀ {τ:Nat→El} (l:List Ce) (a:EF τ l),(Fy cn l a).map (·.1)=(l.flatMap Ht).map cn
 | _,[],_=>rfl
 | _,x::l,a=>by
   simp only [Fy,BR,Be,CeL.ths_key cn l]
   cases x <;> rfl
theorem IT.ths_key {τ:Nat→El} (cn:Nat→Nat) {i:IT} (hn:i.nog=true) (a:i.ty τ):(i.ths cn a).map (·.1)=i.gsn.map cn:=by
 cases i with
 | vf t w cs=>exact CeL.ths_key cn cs a
 | bk id t cs=>exact CeL.ths_key cn cs a
 | gs=>cases hn
 | _=>rfl
theorem ITL.ths_key {τ:Nat→El} (cn:Nat→Nat):∀ {l:List IT} (hn:l.all IT.nog=true) (z:BN τ l),(BS cn l z).map (·.1)=(l.flatMap IT.gsn).map cn
 | [],_,_=>rfl
 | i::l,hn,z=>by
   simp only [CR,Af] at hn
   simp only [BS,BR,Be,IT.ths_key cn hn.1,ITL.ths_key cn hn.2]

theorem aIY {τ:Nat→El} {κ:∀ e,Cod τ e} (σ cn:Nat→Nat) (Θ:Th τ):∀ (l:List IT) (z:BN τ l),Ck Θ ((Dd κ σ cn l z).map fun x=>x.2.val)=(dS Θ [] (Dd κ σ cn l z)).map (·.2)
 | [],_=>rfl
 | i::l,z=>by
   have ih:=aIY (κ:=κ) σ cn Θ l z.2
   simp only [dS,Bz] at ih
   simp only [Dd,BR,aE5,dS,Bz,ih]
   congr 1
   cases i <;> rfl

theorem aKI (hm:Mo S S0) {f:BP} {h:HS C.τ} (hh:HsOk C.κ C.P f h) {vs:List (V C.τ)} (hlen:vs.length=h.acx)
 (hrun:∀ H,∀ E β a,Rel O N ⟨S0.sl,H⟩ E β a→∃ us:List AI,(execOp a.eval o).run C.P E.w = .ok (.enter f us.toArray) E.w∧RdL E β us (Ck S.Θ vs))
 {ρ:List (Nat×Nat)} {z:BN C.τ h.l} (hz:GS C.κ (S.arg vs) ρ h.l=some z) {A:List Nat} (hA:(Bx h.nb).map (fun j=>ren ρ (1000+j))=A)
 (h1:A.Nodup) (h2:((h.l.flatMap CY).map (ren ρ)).Nodup) (h3:∀ j,j<h.nn→S.ent (S.nid+j) = .fresh∧S.nid+j ∉ A) (h4:S.nid+h.nn≤1000) (h5:((h.o.flatMap IT.gsn).map (cnE S.nid h.nn)).Nodup)
 {y:h.R} (hy:h.F z=some y) {t:Nat} (hd:o.dst=some t) (ht:t<N) :
 IOp C.P O N o S0 ⟨(t,(Hs ((Dd C.κ (sigE A S.nid) (cnE S.nid h.nn) h.o (h.un z y)).map fun x=>x.2.val)).d (BS (cnE S.nid h.nn) h.o (h.un z y)++S.Θ))::S0.sl,
  dH (BS (cnE S.nid h.nn) h.o (h.un z y)++S.Θ) (CZ C.κ (sigE A S.nid) (cnE S.nid h.nn) h.o (h.un z y)++(h.l.flatMap CY).map (fun i=>(sigE A S.nid i,VE.none)))++S0.H⟩:=by
 obtain ⟨hcall,hwf,hfn⟩:=hh
 simp only [HS.wf,Af,decide_eq_true_eq,aFv] at hwf
 obtain ⟨⟨⟨w1,w2,w3⟩,w4,w5,w6⟩,⟨w7,w8⟩,⟨w9,w10⟩,⟨w11,w12⟩,w13⟩:=hwf
 replace w1:=rE w1
 replace w4:=rE w4
 have hAl:A.length=h.nb:=by rw [←hA]; simp
 generalize hu:h.un z y=u
 have hf:=hfn z y hy
 rw [hu] at hf
 -- names
 have hgiv:∀ i,dT A i=true↔(1000≤i∧i<1000+h.nb):=fun i=>by simp [dT,hAl]
 have hown:∀ i∈h.l.flatMap CY,dT A i=true:=fun i hi=>by
  have:=AV.1 w11 i hi
  simp only [Af,Dz,CQ] at this
  exact (hgiv i).2 this
 have hrefs:∀ i∈h.l.flatMap HC,dT A i=true:=fun i hi=>hown i (by simpa using AV.1 w2 i hi)
 have hsig:∀ i,dT A i=true→ren ρ i=sig S.nid A i:=fun i hi=>by
  obtain ⟨g1,g2⟩:=(hgiv i).1 hi
  have hlt:i-1000<h.nb:=by omega
  simp only [sig,Az g1,←hA]
  rw [CN,CH,List.getElem?_range hlt]
  simp only [Cl,Dp]
  rw [show 1000+(i-1000)=i by omega]
 -- the pseudo state
 have hma:Mo (S.arg vs) ⟨dS S.Θ S.Γ (zipF 0 vs),S0.H⟩:=⟨fun t=>.inl (sR (fun s:Sv C.τ=>s.d S.Θ S.Γ) (.v .dead) t (zipF 0 vs)),hm.ent,hm.len⟩
 obtain ⟨k4,k5⟩:=GW hz
 have hth:=aGA z w1
 have hargs:WkL (Ck S.Θ vs) (BV (sig S.nid A) (h.ds C.κ z)):=by
  have hk:(Dd C.κ idn idn h.l z).map (·.1)=Db 0 vs.length:=by rw [EL,w9,hlen,Cz]
  have:=aIF (Θ:=S.Θ) (Γ:=S.Γ) 0 vs ((Dd C.κ idn idn h.l z).map fun x=>(x.1,(x.2.d (BS idn h.l z) []).ren (sig S.nid A))) (by rw [Bz]; exact hk) (fun y hy=>by
   obtain ⟨x,hx,rfl⟩:=AL.1 hy
   obtain ⟨it,a,g1,g2,g4,g5⟩:=k4 x hx
   have g6:=IT.sl_ok hma g2 (fun y hy=>hth y (g5 y hy)) x g4
   have g7:=HJ (κ:=C.κ) (dT A) (BS idn h.l z) (z:=z) hown hrefs x hx
   rw [aBf hsig _ g7] at g6
   have g8:(⟨dS S.Θ S.Γ (zipF 0 vs),S0.H⟩:St).get x.1=(look (Sv.v V.dead:Sv C.τ) x.1 (zipF 0 vs)).d S.Θ S.Γ:=sR (fun s:Sv C.τ=>s.d S.Θ S.Γ) (.v .dead) x.1 (zipF 0 vs)
   rw [g8] at g6
   exact g6)
  rw [HS.ds,aC6,Bz,dS,Bz]
  rw [Bz] at this
  exact this
 -- memory,acx the function takes it
 let W:List (Nat×Ent):=(h.H0 C.κ z).map fun x=>(sig S.nid A x.1,x.2.ren (sig S.nid A))
 have hWr:∀ i en,(i,en)∈W→Erw S0 i en:=by
  intro i en hi
  obtain ⟨x,hx,he⟩:=AL.1 hi
  cases he
  obtain ⟨⟨j,ve⟩,hve,rfl⟩:=AL.1 hx
  obtain ⟨it,a,g1,g2,g4,g5⟩:=k5 _ hve
  have g6:=GZ (κ:=C.κ) (dT A) (BS idn h.l z) (z:=z) hown hrefs _ hve
  simp only at g6 ⊢
  have hnog:it.nog=true:=AV.1 w7 it g1
  rcases IT.ent_ok hma g2 (fun y hy=>hth y (g5 y hy)) _ g4 with ⟨e,ds,g7,g8⟩ | ⟨t,sz,n,g7,g8⟩
  · simp only at g7 g8
    rw [g7] at g6 ⊢
    simp only [Ent.refsIn] at g6
    refine ⟨e,_,rfl,?_⟩
    rw [←hsig j g6.1]
    have g9:BV (ren ρ) ds=BV (sig S.nid A) ds:=sY hsig _ g6.2
    rcases g8 with ⟨ds',g8,g10⟩ | ⟨g8,rfl⟩
    · exact .inl ⟨ds',g8,g9 ▸ g10⟩
    · exact .inr ⟨g8,rfl⟩
  · simp only at g7
    obtain ⟨e',ds',hlb⟩:∃ e ds,ve.d (BS idn h.l z) = .blk e ds:=by
     cases it <;> simp only [FW,AF,AW,or_false,Prod.mk.injEq] at g4
     case vf=>obtain ⟨t,e,c,ls,hh⟩:=FZ _ a _ g4; simp only at hh; rw [hh]; exact ⟨_,_,rfl⟩
     case gs=>cases hnog
     case bk =>
      rcases g4 with ⟨_,rfl⟩ | g4
      · exact ⟨_,_,rfl⟩
      · obtain ⟨t,e,c,ls,hh⟩:=FZ _ a _ g4; simp only at hh; rw [hh]; exact ⟨_,_,rfl⟩
     case bc=>rw [g4.2]; exact ⟨_,_,rfl⟩
     case bl=>rw [g4.2]; exact ⟨_,_,rfl⟩
    rw [g7] at hlb; cases hlb
 have hkeysH0:(h.H0 C.κ z).map (·.1)=h.l.flatMap CY:=by
  rw [←EZ (κ:=C.κ) h.l z]; simp [HS.H0,dH,Bz,Function.comp_def]
 have hWk:W.map (·.1)=(h.l.flatMap CY).map (sig S.nid A):=by rw [←hkeysH0]; simp [W,Bz,Function.comp_def]
 have hWn:(W.map (·.1)).Nodup:=by
  rw [hWk]
  have:(h.l.flatMap CY).map (sig S.nid A)=(h.l.flatMap CY).map (ren ρ):=GT fun i hi=>(hsig i (hown i hi)).symm
  rw [this]; exact h2
 have hWA:∀ i∈W.map (·.1),i∈A:=fun i hi=>by
  rw [hWk] at hi
  obtain ⟨j,hj,rfl⟩:=AL.1 hi
  exact tF (hown j hj)
 -- what comes back
 have hcn:((BS (cnE S.nid h.nn) h.o u).map (·.1)).Nodup:=by rw [ITL.ths_key _ w8]; exact h5
 have hth1:=aGA u w4
 have hth2:ThOk (BS (cnE S.nid h.nn) h.o u++S.Θ) (BS (cnE S.nid h.nn) h.o u):=aMX hcn
 have hσ:sigE A S.nid=sig S.nid A:=funext fun i=>aKv A S.nid i
 rw [hσ]
 have hback:∀ i∈h.o.flatMap CY,vM h.nn A i=true:=fun i hi=>by
  have:=AV.1 w13 i hi
  simp only [vM,CB] at this ⊢
  rcases this with g | g
  · exact .inl g
  · simp only [Af,Dz,CQ] at g
    exact .inr ((hgiv i).2 g)
 have hbackr:∀ i∈h.o.flatMap HC,vM h.nn A i=true:=fun i hi=>hback i (by simpa using AV.1 w5 i hi)
 have hsl:=ITL.sls_ren (κ:=C.κ) (σ:=sig S.nid A) (cn:=cnE S.nid h.nn) w8 u hth1 hth2
 have hen:=HT (κ:=C.κ) (σ:=sig S.nid A) (cn:=cnE S.nid h.nn) w8 u hth1 hth2
 have hrr:(retD (h.ret C.κ u)).ren (sig S.nid A)=(Hs ((Dd C.κ (sig S.nid A) (cnE S.nid h.nn) h.o u).map fun x=>x.2.val)).d (BS (cnE S.nid h.nn) h.o u++S.Θ):=by
  rw [ret_d,aIY,hsl,aK4,HS.ret]; simp only [Bz,Function.comp_def]
 rw [←hrr]
 have hgo:=aH2 (P:=C.P) (O:=O) (N:=N) (S:=⟨S0.sl,W++S0.H⟩) (o:=o) (t:=t) (f:=f) (ds:=h.ds C.κ z) (H0:=h.H0 C.κ z) (H1:=h.H1 C.κ u) S.nid h.nn A hd ht
  (fun E β a hr=>let ⟨us,g1,g2⟩:=hrun _ E β a hr; ⟨us,g1,g2.wk hargs⟩) rfl
  (vS _ fun d hd=>by
    obtain ⟨x1,hx1,rfl⟩:=AL.1 hd
    obtain ⟨x,hx,rfl⟩:=AL.1 hx1
    exact HJ (κ:=C.κ) (dT A) _ hown hrefs x hx) h4
  (fun j hj=>by
    obtain ⟨g1,g2⟩:=h3 j hj
    show look (defE (S.nid+j)) (S.nid+j) (W++S0.H) = .fresh
    rw [dI,Aq (fun hh=>g2 (hWA _ hh))]
    rcases hm.ent (S.nid+j) with g3 | g3
    · rw [show look (defE (S.nid+j)) (S.nid+j) S0.H=S0.ent (S.nid+j) from rfl,g3,g1]
    · rw [g1] at g3; cases g3)
  ⟨h1,AV.2 fun i hi=>by
   rw [←hA] at hi
   obtain ⟨j,hj,rfl⟩:=AL.1 hi
   have hj':=GM.1 hj
   have g1:1000+j∈h.l.flatMap CY:=by simpa using AV.1 w12 j hj
   rw [Eo,decide_eq_true_eq]
   rw [←hkeysH0] at g1
   obtain ⟨x,hx,hxe⟩:=AL.1 g1
   refine AL.2 ⟨x,hx,?_⟩
   have hxe:x.1=1000+j:=hxe
   show sig S.nid A x.1=_
   rw [hxe,hsig _ ((hgiv _).2 ⟨by omega,by omega⟩)],fun x hx=>by
   obtain ⟨⟨j,ve⟩,hve,rfl⟩:=AL.1 hx
   have g6:=GZ (κ:=C.κ) (dT A) (BS idn h.l z) (z:=z) hown hrefs _ hve
   refine ⟨g6.1,Gb _ _ hve,?_,g6.2⟩
   show look _ _ (W++S0.H)=_
   have g7:(sig S.nid A j,(ve.d (BS idn h.l z)).ren (sig S.nid A))∈W:=AL.2 ⟨_,hx,rfl⟩
   rw [dI,Az (AL.2 ⟨_,g7,rfl⟩)]
   exact xA g7 hWn⟩ hf rfl
  (retD_in _ fun d hd=>by
    obtain ⟨x1,hx1,rfl⟩:=AL.1 hd
    obtain ⟨x,hx,rfl⟩:=AL.1 hx1
    exact HJ (κ:=C.κ) _ _ hback hbackr x hx)
  (fun x hx=>by
    obtain ⟨⟨j,ve⟩,hve,rfl⟩:=AL.1 hx
    exact GZ (κ:=C.κ) _ _ hback hbackr _ hve) rfl
 have hgo2:IOp C.P O N o ⟨S0.sl,W++S0.H⟩ ⟨(t,(retD (h.ret C.κ u)).ren (sig S.nid A))::S0.sl,dH (BS (cnE S.nid h.nn) h.o u++S.Θ) (CZ C.κ (sig S.nid A) (cnE S.nid h.nn) h.o u++(h.l.flatMap CY).map (fun i=>(sig S.nid A i,VE.none)))++S0.H⟩:=by
  refine hgo.to fun E β a hr=>hr.same (fun s=>rfl) fun j=>?_
  have e1:dH (BS (cnE S.nid h.nn) h.o u++S.Θ) (CZ C.κ (sig S.nid A) (cnE S.nid h.nn) h.o u++(h.l.flatMap CY).map (fun i=>(sig S.nid A i,VE.none))) =
   (h.H1 C.κ u).map (fun x=>(sig S.nid A x.1,x.2.ren (sig S.nid A)))++(h.H0 C.κ z).map (fun x=>(sig S.nid A x.1,Ent.none)):=by
   have e2:(h.H0 C.κ z).map (fun x=>(sig S.nid A x.1,Ent.none))=((h.H0 C.κ z).map (·.1)).map fun i=>(sig S.nid A i,Ent.none):=by simp [Bz,Function.comp_def]
   rw [e2,hkeysH0]
   have e3:∀ (a b:List (Nat×VE C.τ)) (Θ:Th C.τ),dH Θ (a++b)=dH Θ a++dH Θ b:=fun a b Θ=>by simp [dH]
   rw [e3,hen]
   congr 1
   simp [dH,Bz,Function.comp_def,VE.d]
  rw [e1]
  show look (defE j) j _=look (defE j) j (aAa S.nid A (h.H0 C.κ z) (h.H1 C.κ u) (W++S0.H))
  simp only [aAa,Ax]
  generalize hX1:(h.H1 C.κ u).map (fun x=>(sig S.nid A x.1,x.2.ren (sig S.nid A)))=X1
  generalize hX2:(h.H0 C.κ z).map (fun x=>(sig S.nid A x.1,Ent.none))=X2
  by_cases g1:j∈X1.map (·.1)
  · rw [dI,Az g1,dI,Az g1]
  · rw [dI,Aq g1,dI (l:=X1),Aq g1]
    by_cases g2:j∈X2.map (·.1)
    · rw [dI,Az g2,dI,Az g2]
    · rw [dI,Aq g2,dI (l:=X2),Aq g2,dI,Aq (fun hh=>g2 ?_)]
      rw [hWk] at hh
      obtain ⟨i,hi,rfl⟩:=AL.1 hh
      rw [←hkeysH0] at hi
      obtain ⟨x,hx,rfl⟩:=AL.1 hi
      rw [←hX2]
      exact AL.2 ⟨_,AL.2 ⟨x,hx,rfl⟩,rfl⟩
 exact fun E β a hr=>hgo2 E β a (hr.wkE hWr)
end
end Go.IL
open Bool renaming and_true → Cw,not_eq_true' → CO,true_or → BO
open Go.IL.AKL renaming get → EE,get_fd → HE,get_sub → GU,put → Du,put_nr → FP
open Go.IL.Cod renaming get_sub → FY
open Go.IL.D renaming cells → HB,flat → Al,ofScalar → Do,ofVal → DO,one → EH
open Go.IL.Gd renaming val → Dk,val_app → HD
open Go.IL.ITL renaming ents_th → GX,ths_key → Hb
open Go.IL.RK renaming put → DS
open Go.IL.RdL renaming sub → GQ
open Go.IL.Th renaming len → EP
open Go.IL.V renaming ofVal → Ft
open List renaming any_cons → Hw,cons_append → AY,drop_append → Fc,drop_of_length_le → Cc,length → DH,length_append → Ae,length_replicate → BG,mapM_cons → GL,map_nil → BI,mem_append → As,mem_singleton → Av,nil_append → AE,replicate → Ay
open Nat renaming add_mul → Bp,beq → Aj,beq_eq → Br
open Option renaming isSome_iff_exists → EG
open _root_ renaming UInt8 → Ai,congrArg → Bv
namespace Go.IL
section
variable {R:Type} {C:Cx} {O:aR} {N:Nat} {S0:St} {o:Oper} {S:VS C.τ} {G:Gd} {k:KK C.τ R} {r:R}

def aDy (Θ:Th C.τ) (ui:List (Nat×VE C.τ)):Prop:=∀ i t e c l,(i,VE.lb t e c l)∈ui→Θ.len c e=l.length

theorem aIS (hlen:∀ i t e c l,S.ent i = .lb t e c l→S.Θ.len c e=l.length) {T:Ak} {x y:Ag} {p v:V C.τ} (ho:o.op = .store T x y) (hx:SVA S G x (p.d S.Θ)) (hy:SVA S G y (v.d S.Θ)) (h:aIT C S T p v k=some r) :
 ∃ w ui,k w ui []=some r∧ui≠[]∧aDy S.Θ ui∧(G.val S.Γ=true→∀ S0,Mo S S0→o.dst=none→IOp C.P O N o S0 ⟨S0.sl,dH S.Θ ui++S0.H⟩):=by
 unfold aIT at h
 split at h
 · rename_i i hi
   obtain ⟨hc,h⟩:=aX h
   simp only [Af,Br] at hc
   obtain ⟨hb,hsz,h1⟩:=hc
   have hcl:(v.d S.Θ).cells.length=i.size:=by rw [uQ,yP,hsz]
   have hone:(v.d S.Θ).cells.all EH=true:=by rw [uQ]; exact all_one _ h1
   split at h
   · rename_i id off
     split at h
     · rename_i t cs he
       obtain ⟨hc,h⟩:=aX h
       replace h:=spl_e h
       refine ⟨_,_,h,by simp,?_,fun hG S0 hm hd=>?_⟩
       · intro j t e c l hj; simp at hj
       · simp only [dH,AB,BI,VE.d,spl_d]
         exact cY ho hd (yV hi) (hx hG _ hm) (hm.blk he) (hy hG _ hm) (vK _ _ hb) hcl hone (by rw [yP]; exact AR hc) (by rw [uQ])
     · cases h
   · rename_i id j e off
     split at h
     · rename_i t e' c l he
       obtain ⟨hc,hh⟩:=aX h; clear h
       have h:=hh; clear hh
       simp only [Af,Br] at hc
       obtain ⟨rfl,h2⟩:=hc
       obtain ⟨a,ha,h⟩:=eC h
       replace h:=spl_e h
       obtain ⟨hf,h⟩:=aX h
       obtain ⟨a',ha',h⟩:=Cod.getK_e h
       have hcs:=Cod.firm8 hf (ha' rfl)
       rw [spl_d,put_d,←uQ] at hcs
       refine ⟨_,_,h,by simp,?_,fun hG S0 hm hd=>?_⟩
       · intro j t e c l hj
         simp only [Av,Prod.mk.injEq,VE.lb.injEq] at hj
         obtain ⟨_,_,rfl,rfl,hj⟩:=hj
         cases hj
         rw [List.length_set]; exact hlen _ _ _ _ _ he
       · simp only [dH,AB,BI,VE.d]
         exact qX (C.τ e').E.toEnc0 ho hd (yV hi) (hx hG _ hm) (hm.lb he) (hy hG _ hm) (vK _ _ hb) hcl hone ha (AR h2) hcs rfl
     · cases h
   · cases h
 · cases h

theorem aJz {place:Nat→Ad (Nat×Nat)} {f:Ag→V C.τ} (hf:∀ x,SVA S G x ((f x).d S.Θ)):∀ {ps:List (Nat×Ag)} {cells cs:List (V C.τ)},aJ0 place f cells ps=some cs →
 ∃ ds,(G.val S.Γ=true→∀ S0,Mo S S0→PVs S0 ps ds)∧xG place (Ck S.Θ cells) ds=some (Ck S.Θ cs)
 | [],cells,cs,h=>by simp only [aJ0,Option.some.injEq] at h; subst h; exact ⟨[],fun _ _ _=>.nil,rfl⟩
 | (i, x)::rest,cells,cs,h=>by
   simp only [aJ0] at h
   split at h
   · cases h
   · rename_i off size hp
     obtain ⟨hc,h⟩:=aX h
     simp only [Af,Br] at hc
     obtain ⟨hb,hs,hl⟩:=hc
     replace h:=spl_e h
     obtain ⟨ds,h1,h2⟩:=aJz hf h
     refine ⟨(i,(f x).d S.Θ)::ds,fun hG S0 hm=>.cons (hf x hG S0 hm) (h1 hG S0 hm),?_⟩
     rw [spl_d,←uQ] at h2
     simp only [xG,hp]
     rw [Aq]
     · exact h2
     · have h3:((f x).d S.Θ).cells.length=size:=by rw [uQ,yP,hs]
       simp only [vK _ _ hb,h3,yP]
       have:=AR hl
       simp; omega

theorem aCW {P:An}:∀ {fs:List Field} {l:List (Nat×Nat)},places P fs=some l→fs.mapM (fun f=>(P.info? f.type).map fun i=>(f.offset,i.size))=some l
 | [],l,h=>by simp only [places,Option.some.injEq] at h; subst h; rfl
 | f :: r,l,h=>by
   simp only [places] at h
   split at h
   · rename_i i hi
     split at h
     · rename_i l' hl'
       cases h
       simp [GL,hi,aCW hl']
     · cases h
   · cases h

theorem aIG {P:An} {τ:Nat→El} {T:Ak} {cs:List (V τ)} (h:aKn P T=some cs) (Θ:Th τ):∃ z s b,TI P T (some z) s b∧(DO z).boxable=true∧(DO z).cells=Ck Θ cs:=by
 unfold aKn at h
 split at h
 · rename_i i hi
   split at h
   · rename_i z hz
     split at h
     · cases h
     · cases h
     · rename_i v h1 h2
       cases h
       refine ⟨z,_,_,hz ▸ yV hi,?_,?_⟩
       · rw [←aBo (τ:=τ) Θ z]
         apply vK
         cases hv:(Ft z:V τ) <;> simp_all [V.boxable]
       · rw [←aBo (τ:=τ) Θ z,uQ]
   · cases h
 · cases h

theorem aKW {T:Ak} {ps:Array (Nat×Ag)} (ho:o.op = .build T ps) (h:aKX C G S T ps.toList k=some r) :
 ∃ v,k v [] []=some r∧PV C.P O N o S G (v.d S.Θ):=by
 have hs:dA o.op=false:=by rw [ho]; try rfl
 unfold aKX at h
 split at h
 · rename_i fs hu
   split at h
   · rename_i l z hl hz
     split at h
     · rename_i cs hcs
       refine ⟨_,h,hs,fun hG S0 hm t hd ht=>?_⟩
       obtain ⟨zv,s,b,h1,h2,h3⟩:=aIG hz S.Θ
       obtain ⟨ds,h4,h5⟩:=aJz (G:=G) (fun x hG S0 hm=>hm.rd hG x) hcs
       refine gO (places:=l.toArray) (ps:=ps.toList) (by rw [ho]) hd ht hu h1 (fun w=>?_) h2 (h4 hG S0 hm) (by rw [h3]; simpa using h5)
       rw [Array.mapM_eq_mapM_toList,Sem.run_map,run_places (P:=C.P) w fs.toList l (aCW hl)]; rfl
     · cases h
   · cases h
 · cases h

theorem wV {n s:Nat} {ds:List D} {pre:List D} (hd:ds.length=s):eH (pre++Ay ((n+1)*s) D.dead) pre.length ds=pre++ds++Ay (n*s) .dead:=by
 simp only [eH,List.take_left,Fc,hd]
 rw [Cc (by omega),AE,List.drop_replicate]
 congr 2
 rw [Bp]; omega

theorem aGd (e:Nat) {f:Ag→V C.τ} (hf:∀ x,SVA S G x ((f x).d S.Θ)):∀ {ps:List (Nat×Ag)} {n:Nat} {k:List (C.τ e).α→Ad R} {r:R} (pre:List (C.τ e).α),pre.length=n→aE2 C S.Γ G S.Θ e f ps n k=some r →
 ∃ l ds,k l=some r∧(G.val S.Γ=true→∀ S0,Mo S S0→PVs S0 ps ds)∧l.length=ps.length∧(G.val S.Γ=true →
   xG (fun i=>some (i*(C.τ e).E.sz,(C.τ e).E.sz)) (Al (pre.map (C.τ e).E.d)++Ay (ps.length*(C.τ e).E.sz) .dead) ds=some (Al ((pre++l).map (C.τ e).E.d)))
 | [],n,k,r,pre,hn,h=>⟨[],[],h,fun _ _ _=>.nil,rfl,fun _=>by simp [xG]⟩
 | (i, x) :: rest,n,k,r,pre,hn,h=>by
   simp only [aE2] at h
   obtain ⟨hc,h⟩:=aX h
   simp only [Af,Br] at hc
   obtain ⟨hi,hb⟩:=hc
   obtain ⟨a,ha,h⟩:=Cod.getK_e h
   obtain ⟨l,ds,h1,h2,h3,h4⟩:=aGd e hf (pre++[a]) (by rw [Ae,hn]; rfl) h
   by_cases hGv:G.val S.Γ=true
   · have hsub:=FY (ha hGv)
     -- the value,taken acx plain
     obtain ⟨d,hd,hdc,hdb⟩:∃ d,Sub ((f x).d S.Θ) d∧d.cells=((C.τ e).E.d a).cells∧d.boxable=true:=by
      have hb':=vK S.Θ (f x) hb
      rw [←uQ] at hsub
      generalize (f x).d S.Θ=d0 at hb' hsub
      by_cases ha0:∃ cs,d0 = .agg cs
      · obtain ⟨cs,rfl⟩:=ha0
        exact ⟨.agg ((C.τ e).E.d a).cells,.agg hsub,rfl,rfl⟩
      · have hc0:d0.cells=[d0]:=by cases d0 <;> first | rfl | exact AP ⟨_,rfl⟩ ha0
        rw [hc0] at hsub
        generalize hcc:((C.τ e).E.d a).cells=cc at hsub
        cases hsub with
        | cons h5 h6 =>
          cases h6
          rename_i d'
          have hone:=((C.τ e).E.fl a).2
          rw [hcc] at hone
          simp only [CR,List.all_nil,Cw] at hone
          refine ⟨d',h5,?_,?_⟩
          · cases d' <;> first | rfl | cases hone
          · cases d' <;> first | rfl | cases hone
     refine ⟨a::l,(i,d)::ds,h1,fun hG S0 hm=>.cons ((hf x hG S0 hm).sub hd) (h2 hG S0 hm),by simp [h3],fun _=>?_⟩
     have hlen:(Al (pre.map (C.τ e).E.d)).length=n*(C.τ e).E.sz:=by rw [(C.τ e).E.flat_len,hn]
     have hsz:d.cells.length=(C.τ e).E.sz:=by rw [hdc,((C.τ e).E.fl a).1]
     simp only [xG]
     rw [Aq]
     · subst hi
       have:=wV (n:=rest.length) (s:=(C.τ e).E.sz) (pre:=Al (pre.map (C.τ e).E.d)) hsz
       rw [hlen] at this
       simp only [Ao]
       rw [this]
       rw [hdc]
       have h7:Al ((pre++[a]).map (C.τ e).E.d)=Al (pre.map (C.τ e).E.d)++((C.τ e).E.d a).cells:=by simp [Al]
       rw [←h7]
       simpa using h4 hGv
     · simp only [hdb,hsz,Ae,hlen,BG,Ao]
       subst hi
       simp
       rw [Bp]; omega
   · exact ⟨a::l,(i,.dead)::ds,h1,fun hG=>AP hG hGv,by simp [h3],fun hG=>AP hG hGv⟩

theorem sizeZ_e {P:An} {T:Ak} {n:Nat} (h:aKu P T n=true):∃ z b,TI P T (some z) n b:=by
 unfold aKu at h
 split at h
 · rename_i i hi
   simp only [Af,Br] at h
   obtain ⟨z,hz⟩:=EG.1 h.2
   exact ⟨z,_,hz ▸ h.1 ▸ yV hi⟩
 · cases h
theorem bs_ok {T elt n:Nat} {ps:Array (Nat×Ag)} (ho:o.op = .buildSlice T n ps) (hu:C.P.underlying T=some (.slice elt)) (hf:xC S=true)
 (hsz:aKu C.P elt (C.τ (C.ec elt)).E.sz=true) (hn:ps.toList.length=n) (hb:n*(C.τ (C.ec elt)).E.sz≤16777216)
 {k2:List (C.τ (C.ec elt)).α→Ad R} (h:aE2 C S.Γ G S.Θ (C.ec elt) (S.rd G) ps.toList 0 k2=some r) :
 ∃ l,k2 l=some r∧dA o.op=false∧(G.val S.Γ=true→∀ S0,Mo S S0→∀ t,o.dst=some t→t<N →
   IOp C.P O N o S0 (S0.set t (.slice false (l.map (C.τ (C.ec elt)).E.d))) ∧
   IOp C.P O N o S0 ((S0.setE S.nid (.tail elt (C.τ (C.ec elt)).E.sz l.length)).set t (.gsl S.nid (C.τ (C.ec elt)).E.sz (l.map (C.τ (C.ec elt)).E.d)))):=by
 have hs:dA o.op=false:=by rw [ho]; try rfl
 obtain ⟨z,b1,hi3⟩:=sizeZ_e hsz
 obtain ⟨l,ds,h1,h2,h3,h4⟩:=aGd (C.ec elt) (fun x hG S0 hm=>hm.rd hG x) [] rfl h
 refine ⟨l,h1,hs,fun hG S0 hm t hd ht=>?_⟩
 replace h4:=h4 hG
 simp only [BI,AE] at h4
 rw [show Al []=[] from rfl,AE,hn] at h4
 refine ⟨?_,?_⟩
 · exact iop_bsF (C.τ (C.ec elt)).E l (ps:=ps.toList) (by rw [ho]) hd ht hu hi3 (h2 hG S0 hm) h4 (h3.trans hn) (by simpa using hb)
 · exact zD (C.τ (C.ec elt)).E l (ps:=ps.toList) S.nid (by rw [ho]) hd ht hu hi3 (hm.fresh (wD hf)) (h2 hG S0 hm) h4 (h3.trans hn) (by simpa using hb)

theorem Th.at_hd (Θ:Th C.τ) (n e:Nat) (l:List (C.τ e).α):Th.at ((n,⟨e,l⟩)::Θ) n e=l:=by
 simp [Th.at,look]

theorem Mo.rd0 (hm:Mo S S0) {x:Ag} (hn:S.rd0 x ≠ .dead):S0.op x=(S.rd0 x).d S.Θ:=by
 cases x with
 | tmp t =>
   simp only [VS.rd0] at hn ⊢
   rcases hm.sl t with h1 | h1
   · cases hst:S.get t with
     | v w=>rw [hst] at h1; exact h1
     | _=>rw [hst] at hn; exact AP rfl hn
   · rw [h1] at hn; exact AP rfl hn
 | const w=>simp only [VS.rd0,aBo]; rfl
 | func f=>exact AP rfl hn
 | global g=>exact AP rfl hn
theorem aIV {elt:Ak} {y:Ag} {e:Nat} {ys:List (C.τ e).α} (h:srcE C S elt (S.rd0 y) (S.rd G y)=some ⟨e,ys⟩) :
 G.val S.Γ=true→∀ S0,Mo S S0→∀ E β a,Rel O N S0 E β a→Src E β (a.eval y) ys.length (Al (ys.map (C.τ e).E.d)):=by
 intro hG S0 hm
 unfold srcE at h
 split at h
 · rename_i id e0 c hy
   split at h
   · rename_i t2 e2 c2 l he
     split at h
     · rename_i heq
       subst heq
       obtain ⟨hc,hh⟩:=aX h; clear h
       rw [Br] at hc
       subst hc
       cases hh
       exact aAf (C.τ _).E.toEnc0 (by rw [hm.rd0 (by rw [hy]; simp),hy]; try simp only [V.d]) (hm.len _ _ _ _ _ he).symm (hm.lb he)
     · cases h
   · cases h
 · obtain ⟨f,h1⟩:=aCC (S:=S) (G:=G) (x:=y) h (fun hG S0 hm=>hm.rd hG y)
   exact aFO (C.τ e).E (h1 hG S0 hm)
theorem aIW {elt:Ak} {y:Ag} {e:Nat} {ys:List (C.τ e).α} (h:srcE C S elt (S.rd0 y) (S.rd G y)=some ⟨e,ys⟩) (hp:isPl (S.rd0 y)=true):∃ f,SVA S G y (.slice f (ys.map (C.τ e).E.d)):=by
 unfold srcE at h
 split at h
 · rename_i hy; rw [hy] at hp; cases hp
 · exact aCC (S:=S) (G:=G) (x:=y) h (fun hG S0 hm=>hm.rd hG y)
theorem aMu {x y:Ag} (h:opEq x y=true):x=y:=by
 unfold opEq at h
 split at h
 · split at h
   · rw [Br] at h; rw [h]
   · cases h
 · split at h
   · split at h
     · split at h
       · simp only [Af,decide_eq_true_eq] at h
         rw [qN h.1,h.2]
       · cases h
     · cases h
   · cases h
 · cases h
theorem aEE (v:AI):(Do v).cells=[Do v]:=by unfold Do; split <;> rfl
theorem aFZ (z:AI) (hb:(Ft z:V C.τ).boxable=true) (Θ:Th C.τ):z.cells.toList.map Do=Ck Θ (Ft z:V C.τ).cells:=by
 rw [←uQ,aBo]
 cases z with
 | agg cs=>simp [Value.cells,DO,HB]
 | _=>exact (aEE _).symm
theorem makE_ok {T:Ak} {x:Ag} (ho:o.op = .makeSlice T x x) (h:makE C S.Γ G S T (S.rd G x) k=some r) :
 ∃ v ui θ,k v ui θ=some r∧aDy (θ++S.Θ) ui∧dA o.op=false∧(G.val S.Γ=true→∀ S0,Mo S S0→∀ t,o.dst=some t→t<N→IOp C.P O N o S0 ⟨(t,v.d (θ++S.Θ))::S0.sl,dH (θ++S.Θ) ui++S0.H⟩):=by
 have hs:dA o.op=false:=by rw [ho]; try rfl
 unfold makE at h
 split at h
 · rename_i elt hu
   split at h
   · rename_i i hi
     split at h
     · rename_i z hz
       split at h
       · rename_i kk n hn
         rw [mL] at h
         obtain ⟨hc,h⟩:=aX h
         simp only [Af,Br] at hc
         obtain ⟨hf,hsz,hzs,hb⟩:=hc
         split at h
         · rename_i a ha
           obtain ⟨xs,hm',h⟩:=pt_e h
           have hti:TI C.P elt (some z) (C.τ (C.ec elt)).E.sz i.bytes:=hz ▸ hsz ▸ yV hi
           refine ⟨_,_,_,h,?_,hs,fun hG S0 hm t hd ht=>?_⟩
           · intro j t e c l hj
             simp only [Av,Prod.mk.injEq,VE.lb.injEq] at hj
             obtain ⟨_,_,rfl,rfl,hl⟩:=hj
             cases hl
             simp only [EP,AY,AE,Th.at_hd]
           · simp only [dH,AB,BI,VE.d,V.d,AY,AE,EP,Th.at_hd]
             have hx:=hm.rd hG x
             rw [uR hn] at hx
             exact aJU (C.τ (C.ec elt)).E.toEnc0 a S.nid ho hd ht hu hti (hzs.trans hsz) (hm.fresh (wD hf)) hx (hm' hG) (by rw [aFZ z hb S.Θ]; exact FY ha)
         · cases h
       · cases h
     · cases h
   · cases h
 · cases h
theorem copE_ok {T T':Ak} {x y:Ag} (ho:o.op = .call { callee:=.builtin .copy,args:=#[x,y],argTypes:=#[T,T'] }) (hlen:∀ i t e c l,S.ent i = .lb t e c l→S.Θ.len c e=l.length) (h:copE C S T (S.rd0 x) (S.rd0 y) (S.rd [] y) k=some r) :
 ∃ v ui θ,k v ui θ=some r∧aDy (θ++S.Θ) ui∧dA o.op=false∧(∀ S0,Mo S S0→∀ t,o.dst=some t→t<N→IOp C.P O N o S0 ⟨(t,v.d (θ++S.Θ))::S0.sl,dH (θ++S.Θ) ui++S0.H⟩):=by
 have hs:dA o.op=false:=by rw [ho]; try rfl
 unfold copE at h
 split at h
 · rename_i elt hu
   split at h
   · rename_i id e c hx
     split at h
     · rename_i t2 e2 c2 l he
       split at h
       · rename_i heq
         subst heq
         obtain ⟨hc,hh⟩:=aX h; clear h
         simp only [Af,Br] at hc
         obtain ⟨rfl,hsz⟩:=hc
         obtain ⟨zz,bb,hti⟩:∃ zz bb,TI C.P elt zz (C.τ e2).E.sz bb:=by
          unfold zM at hsz
          split at hsz
          · rename_i i hi; rw [Br] at hsz; exact ⟨_,_,hsz ▸ yV hi⟩
          · cases hsz
         split at hh
         · rename_i e3 ys hys
           split at hh
           · rename_i h3
             subst h3
             refine ⟨_,_,_,hh,?_,hs,fun S0 hm t hd ht=>?_⟩
             · intro j t e c l' hj
               simp only [Av,Prod.mk.injEq,VE.lb.injEq] at hj
               obtain ⟨_,_,rfl,rfl,hl⟩:=hj
               cases hl
               rw [AE,hlen _ _ _ _ _ he,aB8,aB8,cpy_len]
             · simp only [dH,AB,BI,VE.d,V.d,AE,aB8]
               have hl:=(hm.len _ _ _ _ _ he)
               exact aJW (C.τ e3).E.toEnc0 ho hd ht hu hti (n:=l.length) (by rw [hm.rd0 (by rw [hx]; simp),hx]; simp only [V.d,hl]) rfl (hm.lb he) (aIV (G:=[]) hys rfl S0 hm) rfl
           · cases hh
         · cases hh
       · cases h
     · cases h
   · cases h
 · cases h
theorem appE_ok {T:Ak} {x y:Ag} (ho:o.op = .call { callee:=.builtin .append,args:=#[x,y],argTypes:=#[T,T] }) (h:appE C S.Γ G S T (S.rd0 x) (S.rd0 y) (S.rd G y) k=some r) :
 ∃ v ui θ,k v ui θ=some r∧ui≠[]∧aDy (θ++S.Θ) ui∧(∃ x,θ=[(S.nid,x)])∧dA o.op=false∧(G.val S.Γ=true→∀ S0,Mo S S0→∀ t,o.dst=some t→t<N→IOp C.P O N o S0 ⟨(t,v.d (θ++S.Θ))::S0.sl,dH (θ++S.Θ) ui++S0.H⟩):=by
 have hs:dA o.op=false:=by rw [ho]; try rfl
 unfold appE at h
 split at h
 · rename_i elt hu
   split at h
   · rename_i i e ys hi hy
     obtain ⟨hc,h⟩:=aX h
     simp only [Af,Br] at hc
     obtain ⟨hf,hsz,hz⟩:=hc
     obtain ⟨z,hz1,hz2⟩:∃ z,i.zero=some z∧z.cells.size=i.size:=by
      split at hz
      · rename_i z hz1; exact ⟨z,hz1,by simpa using hz⟩
      · cases hz
     have hti:TI C.P elt (some z) (C.τ e).E.sz i.bytes:=hz1 ▸ hsz ▸ yV hi
     have hsrc:=aIV (O:=O) (N:=N) hy
     split at h
     · rename_i hx
       cases how:C.ow elt with
       | true =>
         rw [how] at h
         replace h:(pt S.Γ G (app i.bytes [] ys) [] fun zs=>k (.osl S.nid e S.nid) [(S.nid,.lb elt e S.nid zs)] [(S.nid,⟨e,zs⟩)])=some r:=h
         obtain ⟨zs,ha,h⟩:=pt_e h
         refine ⟨_,_,_,h,by simp,?_,⟨_,rfl⟩,hs,fun hG S0 hm t hd ht=>?_⟩
         · intro j t e c l hj
           simp only [Av,Prod.mk.injEq,VE.lb.injEq] at hj
           obtain ⟨_,_,rfl,rfl,hl⟩:=hj
           cases hl
           simp only [EP,AY,AE,Th.at_hd]
         · simp only [dH,AB,BI,VE.d,V.d,AY,AE,EP,Th.at_hd]
           exact oR (C.τ e).E.toEnc0 S.nid ho hd ht hu hti (hz2.trans hsz) (by rw [hm.rd0 (by rw [hx]; simp),hx]; try simp only [V.d]) (hm.fresh (wD hf)) (hsrc hG _ hm) (ha hG)
       | false =>
       rw [how] at h
       replace h:bt (isPl (S.rd0 y)) (pt S.Γ G (app i.bytes [] ys) [] fun zs=>k (.gsl S.nid e) [(S.nid,.tail elt e S.nid)] [(S.nid,⟨e,zs⟩)]) none=some r:=h
       obtain ⟨hpl,h⟩:=aX h
       obtain ⟨fl,hyv⟩:=aIW hy hpl
       obtain ⟨zs,ha,h⟩:=pt_e h
       refine ⟨_,_,_,h,by simp,?_,⟨_,rfl⟩,hs,fun hG S0 hm t hd ht=>?_⟩
       · intro j t e c l hj; simp at hj
       · simp only [dH,AB,BI,VE.d,V.d,AY,AE,EP,Th.at_hd]
         exact aJZ (C.τ e).E S.nid ho hd ht hu hti (hz2.trans hsz) (by rw [hm.rd0 (by rw [hx]; simp),hx]; try simp only [V.d]) (hm.fresh (wD hf)) (hyv hG _ hm) (ha hG)
     · rename_i id e' hx
       obtain ⟨hc,hh⟩:=aX h; clear h
       have h:=hh; clear hh
       simp only [Af,Br] at hc
       obtain ⟨rfl,hpl⟩:=hc
       obtain ⟨fl,hyv⟩:=aIW hy hpl
       split at h
       · rename_i t2 e2 c2 he
         obtain ⟨hc,hh⟩:=aX h; clear h
         have h:=hh; clear hh
         simp only [Af,Br] at hc
         obtain ⟨rfl,rfl,rfl⟩:=hc
         obtain ⟨zs,ha,h⟩:=pt_e h
         refine ⟨_,_,_,h,by simp,?_,⟨_,rfl⟩,hs,fun hG S0 hm t hd ht=>?_⟩
         · intro j t e c l hj; simp at hj
         · simp only [dH,AB,BI,VE.d,V.d,AY,AE,EP,Th.at_hd]
           exact wA (C.τ _).E S.nid ho hd ht hu hti (hz2.trans hsz) (by rw [hm.rd0 (by rw [hx]; simp),hx]; try simp only [V.d]) (hm.tail he) (hm.fresh (wD hf)) (hyv hG _ hm) (ha hG)
       · cases h
     · rename_i id e' c hx
       split at h
       · rename_i t2 e2 c2 l he
         split at h
         · rename_i heq
           subst heq
           obtain ⟨hc,hh⟩:=aX h; clear h
           have h:=hh; clear hh
           simp only [Af,Br] at hc
           obtain ⟨rfl,rfl,rfl⟩:=hc
           obtain ⟨zs,ha,h⟩:=pt_e h
           refine ⟨_,_,_,h,by simp,?_,⟨_,rfl⟩,hs,fun hG S0 hm t hd ht=>?_⟩
           · intro j t e c l hj
             simp only [AF,AW,or_false,Prod.mk.injEq,VE.lb.injEq,reduceCtorEq,and_false] at hj
             obtain ⟨_,_,rfl,rfl,hl⟩:=hj
             cases hl
             simp only [EP,AY,AE,Th.at_hd]
           · simp only [dH,AB,BI,VE.d,V.d,AY,AE,EP,Th.at_hd]
             exact wB (C.τ _).E.toEnc0 S.nid ho hd ht hu hti (hz2.trans hsz) (by rw [hm.rd0 (by rw [hx]; simp),hx]; try simp only [V.d]) (hm.len _ _ _ _ _ he).symm (hm.lb he) (hm.fresh (wD hf)) (hsrc hG _ hm) (ha hG)
         · cases h
       · cases h
     · rename_i f e' l hx
       split at h
       · split at h
         · rename_i heq
           subst heq
           split at h
           · cases h
           · rename_i y0 yr
             obtain ⟨zs,ha,h⟩:=pt_e h
             refine ⟨_,_,_,h,by simp,?_,⟨_,rfl⟩,hs,fun hG S0 hm t hd ht=>?_⟩
             · intro j t e c l hj
               simp only [Av,Prod.mk.injEq,VE.lb.injEq] at hj
               obtain ⟨_,_,rfl,rfl,hl⟩:=hj
               cases hl
               simp only [EP,AY,AE,Th.at_hd]
             · simp only [dH,AB,BI,VE.d,V.d,AY,AE,EP,Th.at_hd]
               exact aGU (C.τ _).E.toEnc0 S.nid ho hd ht hu hti (hz2.trans hsz) (sv (by rw [hm.rd0 (by rw [hx]; simp),hx]; try simp only [V.d])) (hm.fresh (wD hf)) (hsrc hG _ hm) (by simp) (ha hG)
         · cases h
       · cases h
     · cases h
   · cases h
 · cases h

def FsOk (C:Cx):Prop:=(∀ x∈C.fs,bP C.P x.1∧∀ z r,x.2.F z=some r→eL C.P x.1 (Ck [] (Du C.κ x.2.acx z)) (retD (Ck [] (DS C.κ x.2.rs r))))∧∀ x∈C.hs,HsOk C.κ C.P x.1 x.2

theorem aA1 {f:Ag→V C.τ} {Θ:Th C.τ} (hf:∀ x,SV S0 x ((f x).d Θ)):∀ (xs:List Ag),SVs S0 xs (Ck Θ (xs.map f))
 | []=>.nil
 | x::xs=>.cons (hf x) (aA1 hf xs)
theorem SVs.sub:∀ {xs:List Ag} {ds ds':List D},SVs S0 xs ds→SubL ds ds'→SVs S0 xs ds'
 | _,_,_,.nil,.nil=>.nil
 | _,_,_,.cons h t,.cons h' t'=>.cons (h.sub h') (SVs.sub t t')

theorem aH3 {P:An} {x:Ag} {f:BP} {caps ds ds':List D} {d:D} {t:Nat} {xs:Array Ag} {ts:Array Ak} (ho:o.op = .call { callee:=.value x,args:=xs,argTypes:=ts }) (hd:o.dst=some t) (ht:t<N)
 (hc:bP P f) (hfx:SV S0 x (.fn f caps)) (hx:SVs S0 xs.toList ds) (hsub:SubL (ds++caps) ds') (hp:AG noRef ds'=true) (hf:eL P f ds' d):IOp P O N o S0 (S0.set t d) :=
 aBv hd ht (fun E β a hr=>by
  obtain ⟨vs,hev,hl⟩:=aIu (hfx.rd hr)
  refine ⟨xs.toList.map a.eval++vs,?_,GQ hsub ((hx.rd hr).append hl)⟩
  obtain ⟨xl⟩:=xs
  simp [execOp,ho,resolve,Deferred.ofValue,hev,invoke,iY hc]) hp hf
theorem aFy {f:BP} {vs:List (V C.τ)}:∀ {l:List (BP×CS C.τ)},aFA C S.Γ G S f vs k l=some r→(∃ c,(f,c)∈l∧∃ z y,(G.val S.Γ=true→c.F z=some y)∧k (Hs (DS C.κ c.rs y)) [] []=some r ∧
 ((∃ h:EE C.κ S.Θ (fun _=>.none) c.acx vs=some z,True)∨(EE C.κ S.Θ S.ent c.acx vs=some z∧c.rs.all (AK.mf C.κ)=true)))∨(G=[]∧aDs C S f vs k C.hs=some r)
 | [],h=>by
   simp only [aFA] at h
   split at h
   · exact .inr ⟨rfl,h⟩
   · cases h
 | (g, c)::l,h=>by
   have rest:aFA C S.Γ G S f vs k l=some r→_:=fun h=>(aFy h).imp (fun ⟨c',h1,h2⟩=>(⟨c',BB (g,c) h1,h2⟩:∃ c',(f,c')∈(g,c)::l∧∃ z y,(G.val S.Γ=true→c'.F z=some y)∧k (Hs (DS C.κ c'.rs y)) [] []=some r ∧
    ((∃ h:EE C.κ S.Θ (fun _=>.none) c'.acx vs=some z,True)∨(EE C.κ S.Θ S.ent c'.acx vs=some z∧c'.rs.all (AK.mf C.κ)=true)))) id
   simp only [aFA] at h
   cases hg:Aj g f with
   | false=>rw [hg] at h; exact rest h
   | true =>
     rw [hg] at h
     try simp only [aAz] at h
     rw [Br] at hg
     subst hg
     split at h
     · rename_i z hz
       obtain ⟨y,hy,h⟩:=pt_e h
       rw [mL] at h
       exact .inl ⟨c,by simp,z,y,hy,h,.inl ⟨hz,trivial⟩⟩
     · split at h
       · rename_i z hz
         cases hmf:c.rs.all (AK.mf C.κ) with
         | true =>
           rw [hmf] at h
           try simp only [aAz] at h
           obtain ⟨y,hy,h⟩:=pt_e h
           rw [mL] at h
           exact .inl ⟨c,by simp,z,y,hy,h,.inr ⟨hz,hmf⟩⟩
         | false=>rw [hmf] at h; exact rest h
       · exact rest h

theorem aLt (hC:FsOk C) {f:BP} {xs:Array Ag} {ts:Array Ak} (ho:o.op = .call { callee:=.value (.func f),args:=xs,argTypes:=ts })
 (h:aLu C S.Γ G S f (xs.toList.map (S.rd G)) k=some r):(∃ v,k v [] []=some r∧PV C.P O N o S G (v.d S.Θ))∨(G=[]∧aDs C S f (xs.toList.map (S.rd G)) k C.hs=some r):=by
 have hs:dA o.op=false:=by rw [ho]; try rfl
 rcases aFy h with ⟨c,hc,z,y,hy,h,hz⟩ | h
 · obtain ⟨hca,hpu⟩:=hC.1 _ hc
   refine .inl ⟨_,h,hs,fun hG S0 hm t hd ht=>?_⟩
   rw [ret_d,RK.put_d S.Θ []]
   rcases hz with ⟨hz,_⟩ | ⟨hz,hmf⟩
   · exact eZ (xs:=xs.toList) (by rw [ho]) hd ht hca ((aA1 (hm.rd hG) xs.toList).sub (GU hz)) (FP _ _ _) (hpu z y (hy hG))
   · exact aAN (xs:=xs.toList) (by rw [ho]) hd ht hca (aA1 (hm.rd hG) xs.toList) (HE hm hz) (FP _ _ _) (aMv (RK.put_nm _ _ _ hmf)) (hpu z y (hy hG))
 · exact .inr h
theorem aLs (hC:FsOk C) {q:Ag} {f:BP} {caps:List (V C.τ)} {xs:Array Ag} {ts:Array Ak} (ho:o.op = .call { callee:=.value q,args:=xs,argTypes:=ts }) (hq:S.rd G q = .fn f caps)
 (h:aLu C S.Γ G S f (xs.toList.map (S.rd G)++caps) k=some r):(∃ v,k v [] []=some r∧PV C.P O N o S G (v.d S.Θ))∨(G=[]∧aDs C S f (xs.toList.map (S.rd G)++caps) k C.hs=some r):=by
 have hs:dA o.op=false:=by rw [ho]; try rfl
 rcases aFy h with ⟨c,hc,z,y,hy,h,hz⟩ | h
 · obtain ⟨hca,hpu⟩:=hC.1 _ hc
   refine .inl ⟨_,h,hs,fun hG S0 hm t hd ht=>?_⟩
   rw [ret_d,RK.put_d S.Θ []]
   have hfx:=hm.rd hG q
   rw [hq] at hfx
   simp only [V.d] at hfx
   -- all at once: what is handed over,then what the function value holds
   rcases hz with ⟨hz,_⟩ | ⟨hz,hmf⟩
   · exact aH3 ho hd ht hca hfx (aA1 (hm.rd hG) xs.toList) (by have:=GU (Θ':=[]) hz; rwa [aE5] at this) (FP _ _ _) (hpu z y (hy hG))
   · exact aCd (xs:=xs.toList) (by rw [ho]) hd ht hca hfx (aA1 (hm.rd hG) xs.toList) (by have:=HE (Θ':=[]) hm hz; rwa [aE5] at this) (FP _ _ _) (aMv (RK.put_nm _ _ _ hmf)) (hpu z y (hy hG))
 · exact .inr h
theorem SV.at_sl {S0:St} {H:List (Nat×Ent)} {x:Ag} {d:D} (h:SV S0 x d):SV ⟨S0.sl,H⟩ x d:=by
 cases x <;> exact h
theorem SVs.at_sl {S0:St} {H:List (Nat×Ent)}:∀ {xs:List Ag} {ds:List D},SVs S0 xs ds→SVs ⟨S0.sl,H⟩ xs ds
 | _,_,.nil=>.nil
 | _,_,.cons h t=>.cons h.at_sl (SVs.at_sl t)
theorem ITL.ths_len {τ:Nat→El} {κ:∀ e,Cod τ e} {σ cn:Nat→Nat} {l:List IT} {z:BN τ l} {Θ:Th τ} (hth:ThOk Θ (BS cn l z)):∀ y∈CZ κ σ cn l z,∀ t e c ls,y.2 = .lb t e c ls→Θ.len c e=ls.length:=fun y hy t e c ls h=>by
 have:=hth _ (GX y hy t e c ls h)
 simp only [EP]; exact Bv DH this
theorem aDr {f:BP} {vs:List (V C.τ)} (hs:dA o.op=false)
 (hrun:∀ h:HS C.τ,bP C.P f→∀ S0,Mo S S0→∀ H,∀ E β a,Rel O N ⟨S0.sl,H⟩ E β a→∃ us:List AI,(execOp a.eval o).run C.P E.w = .ok (.enter f us.toArray) E.w∧RdL E β us (Ck S.Θ vs)) :
 ∀ {l:List (BP×HS C.τ)},(∀ x∈l,HsOk C.κ C.P x.1 x.2)→aDs C S f vs k l=some r →
 ∃ v ui θ,k v ui θ=some r∧aDy (θ++S.Θ) ui∧(∀ S0,Mo S S0→∀ t,o.dst=some t→t<N→IOp C.P O N o S0 ⟨(t,v.d (θ++S.Θ))::S0.sl,dH (θ++S.Θ) ui++S0.H⟩)
 | [],_,h=>by cases h
 | (g, hh)::l,hC,h=>by
   have rest:=aDr (l:=l) hs hrun (fun x hx=>hC x (BB _ hx))
   simp only [aDs] at h
   cases hg:(Aj g f&&Aj vs.length hh.acx) with
   | false=>rw [hg] at h; exact rest h
   | true =>
     rw [hg] at h
     replace h:(vF (ITL.rn (S.arg vs) (fun c=>S.nid+32+(c-1000)) hh.l []) fun ρ =>
      match GS C.κ (S.arg vs) ρ hh.l with
      | some z=>vF ((Bx hh.nb).map fun j=>ren ρ (1000+j)) fun A =>
        bt (wZ A&&(wZ ((hh.l.flatMap CY).map (ren ρ))&&((Bx hh.nn).all (fun j=>aFm S (S.nid+j) && !A.contains (S.nid+j))&&(AT (S.nid+hh.nn) 1000&&wZ ((hh.o.flatMap IT.gsn).map (cnE S.nid hh.nn))))))
         (aNI C S hh A z k) none
      | none=>aDs C S f vs k l)=some r:=h
     simp only [Af,Br] at hg
     obtain ⟨rfl,hlen⟩:=hg
     rw [mL] at h
     split at h
     · rename_i z hz
       rw [mL] at h
       generalize hA:(Bx hh.nb).map (fun j=>ren (ITL.rn (S.arg vs) (fun c=>S.nid+32+(c-1000)) hh.l []) (1000+j))=A at h
       obtain ⟨hc,h⟩:=aX h
       simp only [Af] at hc
       obtain ⟨h1,h2,h3,h4,h5⟩:=hc
       obtain ⟨y,hy,h⟩:=eC h
       rw [mL,mL,mL] at h
       have hok:=hC (g,hh) (by simp)
       have hok':=hok
       obtain ⟨w0,hwf,_⟩:=hok'
       simp only [HS.wf,Af,decide_eq_true_eq,aFv] at hwf
       obtain ⟨⟨_,w4,_⟩,⟨_,w8⟩,_⟩:=hwf
       have hth2:ThOk (BS (cnE S.nid hh.nn) hh.o (hh.un z y)++S.Θ) (BS (cnE S.nid hh.nn) hh.o (hh.un z y)):=aMX (by rw [Hb _ w8]; exact rE h5)
       refine ⟨_,_,_,h,?_,fun S0 hm t hd ht=>?_⟩
       · intro i t e c ls hi
         rcases As.1 hi with hi | hi
         · exact ITL.ths_len hth2 _ hi t e c ls rfl
         · obtain ⟨j,_,hj⟩:=AL.1 hi; cases hj
       · exact aKI hm hok hlen (hrun hh w0 S0 hm) hz hA (rE h1) (rE h2) (fun j hj=>by
          have:=AV.1 h3 j (GM.2 hj)
          simp only [Af,CO,Eo,decide_eq_false_iff_not] at this
          refine ⟨?_,this.2⟩
          have h6:=this.1
          unfold aFm at h6
          split at h6
          · assumption
          · cases h6) (AR h4) (rE h5) hy hd ht
     · exact rest h

theorem aK8 {c x y:Ag} (ho:o.op = .pick c x y) (h:pickE S G c x y k=some r):∃ v,k v [] []=some r∧PV C.P O N o S G (v.d S.Θ):=by
 have hs:dA o.op=false:=by rw [ho]; try rfl
 have key:∀ (b:Bool) (gx gy:List Gd),SVA S G c (.bool b)→(G.val S.Γ=true→b=true→∀ g∈gx,g.val S.Γ=true)→(G.val S.Γ=true→b=false→∀ g∈gy,g.val S.Γ=true) →
  aHr S x y k b gx gy=some r→∃ v,k v [] []=some r∧PV C.P O N o S G (v.d S.Θ):=by
  intro b gx gy hc h1 h2 h
  unfold aHr at h
  split at h
  · rename_i u v hu hv
    refine ⟨_,h,hs,fun hG S0 hm t hd ht=>?_⟩
    simp only [V.d]
    refine aAH ho hd ht (hc hG _ hm) (fun hb=>?_) (fun hb=>?_)
    · have:=hm.rdg (h1 hG hb) x
      rw [hu] at this; subst hb; exact this
    · have:=hm.rdg (h2 hG hb) y
      rw [hv] at this; subst hb; exact this
  · cases h
 have hc:SVA S G c _:=fun hG S0 hm=>hm.rd hG c
 have one:G.val S.Γ=true→∀ g∈[G],g.val S.Γ=true:=fun hG g hg=>by rw [Av.1 hg]; exact hG
 have two:G.val S.Γ=true→∀ (i:Nat) (w:Bool),S.Γ.at i=w→∀ g∈[G,G++[(i,w)]],g.val S.Γ=true:=fun hG i w hw g hg=>by
  simp only [AF,AW,or_false] at hg
  rcases hg with rfl | rfl
  · exact hG
  · rw [HD,hG]; simp [Dk,Gd.vl,hw]
 unfold pickE at h
 split at h
 · rename_i t
   simp only [VS.rd,VS.rdg] at hc
   split at h
   · rename_i b hb
     rw [hb] at hc
     exact key b _ _ hc (fun hG _=>one hG) (fun hG _=>one hG) h
   · rename_i i hi
     rw [hi] at hc
     exact key _ _ _ hc (fun hG h=>two hG i true h) (fun hG h=>two hG i false h) h
   · rename_i g i hi
     obtain ⟨hg,h⟩:=aX h
     rw [hi] at hc
     simp only [Hw,hg,BO,aAz] at hc
     exact key _ _ _ hc (fun hG h=>two hG i true h) (fun hG h=>two hG i false h) h
   · rename_i g b hi
     obtain ⟨hg,h⟩:=aX h
     rw [hi] at hc
     simp only [Hw,hg,BO,aAz] at hc
     exact key _ _ _ hc (fun hG _=>one hG) (fun hG _=>one hG) h
   · cases h
 · cases h

theorem castB_d (C:Cx) (l:List (C.τ 0).α):l.map (C.τ 0).E.d=(castB C l).map aBJ:=by
 have key:∀ (t:El) (h:t=bEl) (l:List t.α),l.map t.E.d=(cast (Bv (fun t:El=>List t.α) h) l).map aBJ:=by
  intro t h l; subst h; rfl
 exact key _ C.b0 l
theorem aLq (C:Cx) (l:List Ai):(aNG C l).map (C.τ 0).E.d=l.map aBJ:=by
 have key:∀ (t:El) (h:t=bEl) (l:List Ai),(cast (Bv (fun t:El=>List t.α) h.symm) l:List t.α).map t.E.d=l.map aBJ:=by
  intro t h l; subst h; rfl
 exact key _ C.b0 l
theorem aLo {s d:Ak} {x:Ag} (ho:o.op = .convert s d x) (h:convE C S s d (S.rd G x) k=some r):∃ v,k v [] []=some r∧PV C.P O N o S G (v.d S.Θ):=by
 have hs:dA o.op=false:=by rw [ho]; try rfl
 have hx:SVA S G x _:=fun hG S0 hm=>hm.rd hG x
 unfold convE at h
 split at h
 · rename_i us k' h1 h2
   split at h
   · rename_i kk n hn
     rw [uR hn] at hx
     exact ⟨_,h,hs,fun hG S0 hm t hd ht=>xE ho hd ht ⟨_,h1⟩ h2 (hx hG _ hm) rfl⟩
   · cases h
 · rename_i e h1 h2
   split at h
   · rename_i h3
     split at h
     · rename_i l hl
       obtain ⟨f,hx⟩:=aCC hl hx
       rw [castB_d] at hx
       exact ⟨_,h,hs,fun hG S0 hm t hd ht=>aAO ho hd ht h1 h3 h2 (hx hG _ hm)⟩
     · cases h
   · cases h
 · rename_i e h1 h2
   split at h
   · rename_i l h3 hl
     rw [hl] at hx
     refine ⟨_,h,hs,fun hG S0 hm t hd ht=>?_⟩
     simp only [V.d,aLq]
     exact aDZ ho hd ht h1 h2 h3 (hx hG _ hm)
   · cases h
 · cases h
end
end Go.IL
open Array renaming toArray_toList → BA
open Go.IL.Th renaming at_hd → EM
namespace Go.IL
section
variable {R:Type} {C:Cx} {O:aR} {N:Nat} {S0:St} {o:Oper} {S:VS C.τ} {G:Gd} {k:KK C.τ R} {r:R}

inductive aF0 (C:Cx) (O:aR) (N:Nat) (o:Oper) (S:VS C.τ) (G:Gd):V C.τ→List (Nat×VE C.τ)→Th C.τ→Prop
 | val {v} (h:PV C.P O N o S G (v.d S.Θ)):aF0 C O N o S G v [] []
 | store {v ui} (hs:dA o.op=true) (hn:ui≠[]) (hl:aDy S.Θ ui) (h:G.val S.Γ=true→∀ S0,Mo S S0→o.dst=none→IOp C.P O N o S0 ⟨S0.sl,dH S.Θ ui++S0.H⟩):aF0 C O N o S G v ui []
 | mem {v ui θ} (hs:dA o.op=false) (hl:aDy (θ++S.Θ) ui)
  (h:G.val S.Γ=true→∀ S0,Mo S S0→∀ t,o.dst=some t→t<N→IOp C.P O N o S0 ⟨(t,v.d (θ++S.Θ))::S0.sl,dH (θ++S.Θ) ui++S0.H⟩):aF0 C O N o S G v ui θ

theorem aF0.hmem {v:V C.τ} {ui:List (Nat×VE C.τ)} {θ:Th C.τ} (hs:dA o.op=false) (hl:aDy (θ++S.Θ) ui)
 (h:G.val S.Γ=true→∀ S0,Mo S S0→∀ t,o.dst=some t→t<N→IOp C.P O N o S0 ⟨(t,v.d (θ++S.Θ))::S0.sl,dH (θ++S.Θ) ui++S0.H⟩):aF0 C O N o S G v ui θ:=.mem hs hl h
theorem opE_ok (hC:FsOk C) (hlen:∀ i t e c l,S.ent i = .lb t e c l→S.Θ.len c e=l.length) {pe:Nat→VE C.τ} (hpe:∀ i t e c l,pe i = .lb t e c l→S.Θ.len c e=l.length) (h:opE C G S pe o.op k=some r):∃ v ui θ,k v ui θ=some r∧aF0 C O N o S G v ui θ:=by
 have pv:(∃ v,k v [] []=some r∧PV C.P O N o S G (v.d S.Θ))→∃ v ui θ,k v ui θ=some r∧aF0 C O N o S G v ui θ:=fun ⟨v,h1,h2⟩=>⟨v,[],[],h1,.val h2⟩
 unfold opE at h
 split at h
 · rename_i x ho
   have hs:dA o.op=false:=by rw [ho]; try rfl
   rw [aLj] at h
   exact pv ⟨_,h,hs,fun hG S0 hm t hd ht=>eK ho hd ht (hm.rd hG x)⟩
 · rename_i x ho
   have hs:dA o.op=false:=by rw [ho]; try rfl
   rw [aLj] at h
   exact pv ⟨_,h,hs,fun hG S0 hm t hd ht=>dK ho hd ht (hm.rd hG x)⟩
 · rename_i op xt x y yt ho
   exact pv (binE_ok ho (fun hG S0 hm=>hm.rd hG x) (fun hG S0 hm=>hm.rd hG y) h)
 · rename_i u xt x ho
   have hs:dA o.op=false:=by rw [ho]; try rfl
   have hx:SVA S G x _:=fun hG S0 hm=>hm.rd hG x
   split at h
   · rename_i b hb
     rw [hb] at hx
     split at h
     · exact pv ⟨_,h,hs,fun hG S0 hm t hd ht=>qJ ho hd ht (hx hG _ hm)⟩
     · exact pv ⟨_,h,hs,fun hG S0 hm t hd ht=>qJ ho hd ht (hx hG _ hm)⟩
   · rename_i k' n hn
     rw [hn] at hx
     exact pv ⟨_,h,hs,fun hG S0 hm t hd ht=>iop_neg ho hd ht (hx hG _ hm) rfl⟩
   · cases h
 · rename_i c x y ho
   exact pv (aK8 ho h)
 · rename_i s d x ho
   exact pv (aLo ho h)
 · rename_i T x ho
   exact pv (aLF ho (fun hG S0 hm=>hm.rd hG x) h)
 · rename_i T x y ho
   obtain ⟨w,ui,h1,h2,h3,h4⟩:=aIS (o:=o) (N:=N) (O:=O) hlen ho (fun hG S0 hm=>hm.rd hG x) (fun hG S0 hm=>hm.rd hG y) h
   exact ⟨w,ui,[],h1,.store (by rw [ho]; try rfl) h2 h3 h4⟩
 · rename_i t x ho
   have hs:dA o.op=false:=by rw [ho]; try rfl
   obtain ⟨hc,h⟩:=aX h
   simp only [Af] at hc
   refine ⟨_,_,_,h,.mem hs (fun j t e c l hj=>by simp at hj) fun hG S0 hm t' hd ht=>?_⟩
   simp only [dH,AB,BI,VE.d,V.d,AE]
   exact aBP S.nid ho hd ht (hm.fresh (wD hc.2)) (hm.rd hG x) (vK _ _ hc.1) (uQ _ _)
 · rename_i t ho
   have hs:dA o.op=false:=by rw [ho]; try rfl
   obtain ⟨hc,h⟩:=aX h
   split at h
   · rename_i cs hcs
     rw [mL] at h
     obtain ⟨z,s,b,h1,h2,h3⟩:=aIG hcs S.Θ
     refine ⟨_,_,_,h,.mem hs (fun j t e c l hj=>by simp at hj) fun hG S0 hm t' hd ht=>?_⟩
     simp only [dH,AB,BI,VE.d,V.d,AE]
     exact aCe S.nid ho hd ht (hm.fresh (wD hc)) h1 h2 h3
   · cases h
 · rename_i x ho
   have hs:dA o.op=false:=by rw [ho]; try rfl
   have hx:SVA S G x _:=fun hG S0 hm=>hm.rd hG x
   split at h
   · rename_i id off hv
     rw [hv] at hx
     exact pv ⟨_,h,hs,fun hG S0 hm t hd ht=>aS ho hd ht (hx hG _ hm)⟩
   · rename_i id j e off hv
     rw [hv] at hx
     exact pv ⟨_,h,hs,fun hG S0 hm t hd ht=>aS ho hd ht (hx hG _ hm)⟩
   · rename_i cs hv
     rw [hv] at hx
     exact pv ⟨_,h,hs,fun hG S0 hm t hd ht=>aAq ho hd ht (hx hG _ hm)⟩
   · cases h
 · rename_i T x i ho
   exact pv (faE_ok ho (fun hG S0 hm=>hm.rd hG x) h)
 · rename_i T x i ho
   exact pv (fldE_ok ho (fun hG S0 hm=>hm.rd hG x) h)
 · rename_i T x y ho
   exact pv (idxE_ok ho (fun hG S0 hm=>hm.rd hG x) (fun hG S0 hm=>hm.rd hG y) hpe h)
 · rename_i T x y ho
   exact pv (ixE_ok ho (fun hG S0 hm=>hm.rd hG x) (fun hG S0 hm=>hm.rd hG y) h)
 · rename_i x i ho
   have hs:dA o.op=false:=by rw [ho]; try rfl
   have hx:SVA S G x _:=fun hG S0 hm=>hm.rd hG x
   split at h
   · rename_i cs hv
     rw [hv] at hx
     split at h
     · rename_i v hi
       rw [aLj] at h
       exact pv ⟨_,h,hs,fun hG S0 hm t hd ht=>rA ho hd ht (hx hG _ hm) (by rw [aBB,CH,hi]; rfl)⟩
     · cases h
   · cases h
 · rename_i T x lo hi mx ho
   split at h
   · exact pv (slcE_ok ho h)
   · rename_i m
     split at h
     · rename_i y
       obtain ⟨he,hh⟩:=aX h; clear h
       cases aMu he
       split at hh
       · rename_i elt kk n hu hn
         split at hh
         · rename_i e l hl
           obtain ⟨hsz,hh⟩:=aX hh
           obtain ⟨zz,bb,hti⟩:∃ zz bb,TI C.P elt zz (C.τ e).E.sz bb:=by
            unfold zM at hsz
            split at hsz
            · rename_i i hi; rw [Br] at hsz; exact ⟨_,_,hsz ▸ yV hi⟩
            · cases hsz
           obtain ⟨rr,hc,hh⟩:=pt_e hh
           obtain ⟨f,hx⟩:=aCC (S:=S) (G:=G) (x:=x) hl (fun hG S0 hm=>hm.rd hG x)
           exact pv ⟨_,hh,by rw [ho]; try rfl,fun hG S0 hm t hd ht=>aEi (C.τ e).E ho hd ht hu hti (hx hG S0 hm) (uR hn S.Θ ▸ hm.rd hG _) (uR hn S.Θ ▸ hm.rd hG _) (hc hG)⟩
         · cases hh
       · cases hh
     · cases h
 · rename_i T x y ho
   obtain ⟨he,hh⟩:=aX h; clear h
   cases aMu he
   obtain ⟨v,ui,θ,h1,h2,h3,h4⟩:=makE_ok (N:=N) (O:=O) ho hh
   exact ⟨v,ui,θ,h1,.hmem h3 h2 h4⟩
 · rename_i T ps ho
   exact pv (aKW ho h)
 · rename_i T n ps ho
   split at h
   · rename_i elt hu
     obtain ⟨hc,h⟩:=aX h
     simp only [Af,Br] at hc
     obtain ⟨hf,hsz,hn,hb⟩:=hc
     obtain ⟨l,h1,hs,h2⟩:=bs_ok (N:=N) (O:=O) ho hu hf hsz hn (AR hb) h
     cases G with
     | nil =>
       refine ⟨_,_,_,h1,.mem hs (fun j t e c l hj=>by simp at hj) fun hG S0 hm t hd ht=>?_⟩
       simp only [dH,AB,BI,VE.d,V.d,AY,AE,EP,EM]
       exact (h2 hG S0 hm t hd ht).2
     | cons a g =>
       exact pv ⟨_,h1,hs,fun hG S0 hm t hd ht=>(h2 hG S0 hm t hd ht).1⟩
   · cases h
 · rename_i fn first caps ho
   have hs:dA o.op=false:=by rw [ho]; try rfl
   split at h
   · rename_i f
     split at h
     · rename_i hfi
       rw [mL] at h
       refine pv ⟨_,h,hs,fun hG S0 hm t hd ht=>?_⟩
       have h1:first = #[]:=by rw [←BA (xs:=first),hfi]
       subst h1
       simp only [V.d]
       exact uF (xs:=caps.toList) (by rw [ho]) hd ht (aA1 (hm.rd hG) caps.toList)
     · cases h
   · cases h
 · rename_i c ho
   obtain ⟨callee,args,ts⟩:=c
   dsimp only at h
   split at h
   · split at h
     · rename_i x T hx hT
       have h1:args = #[x]:=by rw [←BA (xs:=args),hx]
       have h2:ts = #[T]:=by rw [←BA (xs:=ts),hT]
       subst h1; subst h2
       exact pv (lenE_ok ho (fun hG S0 hm=>hm.rd hG x) h)
     · cases h
   · split at h
     · rename_i x y T T' hx hT
       obtain ⟨hc,hh⟩:=aX h; clear h
       have h:=hh; clear hh
       rw [Br] at hc
       have h1:args = #[x,y]:=by rw [←BA (xs:=args),hx]
       have h2:ts = #[T,T']:=by rw [←BA (xs:=ts),hT]
       subst hc; subst h1; subst h2
       obtain ⟨v,ui,θ,h1,h2,h3,h4,h5,h6⟩:=appE_ok (N:=N) (O:=O) ho h
       exact ⟨v,ui,θ,h1,.mem h5 h3 h6⟩
     · cases h
   · split at h
     · rename_i x y T T' hx hT
       split at h
       · have h1:args = #[x,y]:=by rw [←BA (xs:=args),hx]
         have h2:ts = #[T,T']:=by rw [←BA (xs:=ts),hT]
         subst h1; subst h2
         obtain ⟨v,ui,θ,h1,h2,h3,h4⟩:=copE_ok (N:=N) (O:=O) ho hlen h
         exact ⟨v,ui,θ,h1,.hmem h3 h2 (fun _=>h4)⟩
       · cases h
     · cases h
   · split at h
     · rename_i ka a kb b hx
       obtain ⟨hc,hh⟩:=aX h; clear h
       have h:=hh; clear hh
       have hs:dA o.op=false:=by rw [ho]; try rfl
       obtain ⟨x,y,ha,h1,h2⟩:∃ x y,args.toList=[x,y]∧(S.rd G x).asI=some (ka,a)∧(S.rd G y).asI=some (kb,b):=by
        cases hl:args.toList with
        | nil=>rw [hl] at hx; simp at hx
        | cons x l=>cases l with
          | nil=>rw [hl] at hx; simp at hx
          | cons y l=>cases l with
            | nil=>rw [hl] at hx; simp at hx; exact ⟨x,y,rfl,hx.1,hx.2⟩
            | cons=>rw [hl] at hx; simp at hx
       have h3:args = #[x,y]:=by rw [←BA (xs:=args),ha]
       subst h3
       cases qN hc
       exact pv ⟨_,h,hs,fun hG S0 hm t hd ht=>aAI ho hd ht (uR h1 S.Θ ▸ hm.rd hG x) (uR h2 S.Θ ▸ hm.rd hG y) rfl⟩
     · rename_i ka a kb b kc c hx
       obtain ⟨hc,hh⟩:=aX h; clear h
       have h:=hh; clear hh
       simp only [Af] at hc
       have hs:dA o.op=false:=by rw [ho]; try rfl
       obtain ⟨x,y,u,ha,h1,h2,h3⟩:∃ x y u,args.toList=[x,y,u]∧(S.rd G x).asI=some (ka,a)∧(S.rd G y).asI=some (kb,b)∧(S.rd G u).asI=some (kc,c):=by
        cases hl:args.toList with
        | nil=>rw [hl] at hx; simp at hx
        | cons x l=>cases l with
          | nil=>rw [hl] at hx; simp at hx
          | cons y l=>cases l with
            | nil=>rw [hl] at hx; simp at hx
            | cons u l=>cases l with
              | nil=>rw [hl] at hx; simp at hx; exact ⟨x,y,u,rfl,hx.1,hx.2.1,hx.2.2⟩
              | cons=>rw [hl] at hx; simp at hx
       have h4:args = #[x,y,u]:=by rw [←BA (xs:=args),ha]
       subst h4
       cases qN hc.1
       cases qN hc.2
       exact pv ⟨_,h,hs,fun hG S0 hm t hd ht=>aLU ho hd ht (uR h1 S.Θ ▸ hm.rd hG x) (uR h2 S.Θ ▸ hm.rd hG y) (uR h3 S.Θ ▸ hm.rd hG u) rfl⟩
     · cases h
   · split at h
     · rename_i ka a kb b hx
       obtain ⟨hc,hh⟩:=aX h; clear h
       have h:=hh; clear hh
       have hs:dA o.op=false:=by rw [ho]; try rfl
       obtain ⟨x,y,ha,h1,h2⟩:∃ x y,args.toList=[x,y]∧(S.rd G x).asI=some (ka,a)∧(S.rd G y).asI=some (kb,b):=by
        cases hl:args.toList with
        | nil=>rw [hl] at hx; simp at hx
        | cons x l=>cases l with
          | nil=>rw [hl] at hx; simp at hx
          | cons y l=>cases l with
            | nil=>rw [hl] at hx; simp at hx; exact ⟨x,y,rfl,hx.1,hx.2⟩
            | cons=>rw [hl] at hx; simp at hx
       have h3:args = #[x,y]:=by rw [←BA (xs:=args),ha]
       subst h3
       cases qN hc
       exact pv ⟨_,h,hs,fun hG S0 hm t hd ht=>aGS ho hd ht (uR h1 S.Θ ▸ hm.rd hG x) (uR h2 S.Θ ▸ hm.rd hG y) rfl⟩
     · rename_i ka a kb b kc c hx
       obtain ⟨hc,hh⟩:=aX h; clear h
       have h:=hh; clear hh
       simp only [Af] at hc
       have hs:dA o.op=false:=by rw [ho]; try rfl
       obtain ⟨x,y,u,ha,h1,h2,h3⟩:∃ x y u,args.toList=[x,y,u]∧(S.rd G x).asI=some (ka,a)∧(S.rd G y).asI=some (kb,b)∧(S.rd G u).asI=some (kc,c):=by
        cases hl:args.toList with
        | nil=>rw [hl] at hx; simp at hx
        | cons x l=>cases l with
          | nil=>rw [hl] at hx; simp at hx
          | cons y l=>cases l with
            | nil=>rw [hl] at hx; simp at hx
            | cons u l=>cases l with
              | nil=>rw [hl] at hx; simp at hx; exact ⟨x,y,u,rfl,hx.1,hx.2.1,hx.2.2⟩
              | cons=>rw [hl] at hx; simp at hx
       have h4:args = #[x,y,u]:=by rw [←BA (xs:=args),ha]
       subst h4
       cases qN hc.1
       cases qN hc.2
       exact pv ⟨_,h,hs,fun hG S0 hm t hd ht=>aLT ho hd ht (uR h1 S.Θ ▸ hm.rd hG x) (uR h2 S.Θ ▸ hm.rd hG y) (uR h3 S.Θ ▸ hm.rd hG u) rfl⟩
     · cases h
   · have hs:dA o.op=false:=by rw [ho]; try rfl
     rcases aLt hC ho h with h | ⟨rfl,h⟩
     · exact pv h
     · obtain ⟨v,ui,θ,h1,h2,h3⟩:=aDr (O:=O) (N:=N) hs (fun hh hca S0 hm H E β a hr=>⟨args.toList.map a.eval,by
        obtain ⟨xl⟩:=args
        simp [execOp,ho,resolve,Deferred.ofValue,Act.eval,invoke,iY hca],((aA1 (hm.rd (G:=[]) rfl) args.toList).at_sl).rd hr⟩) hC.2 h
       exact ⟨v,ui,θ,h1,.hmem hs h2 (fun _=>h3)⟩
   · split at h
     · rename_i f caps hq
       have hs:dA o.op=false:=by rw [ho]; try rfl
       rcases aLs hC ho hq h with h | ⟨rfl,h⟩
       · exact pv h
       · obtain ⟨v,ui,θ,h1,h2,h3⟩:=aDr (O:=O) (N:=N) hs (fun hh hca S0 hm H E β a hr=>by
          have hfx:SV S0 _ ((V.fn f caps).d S.Θ):=hq ▸ hm.rd (G:=[]) rfl (.tmp _)
          simp only [V.d] at hfx
          obtain ⟨us,hev,hl⟩:=aIu ((hfx.at_sl (H:=H)).rd hr)
          refine ⟨args.toList.map a.eval++us,?_,?_⟩
          · obtain ⟨xl⟩:=args
            simp [execOp,ho,resolve,Deferred.ofValue,hev,invoke,iY hca]
          · rw [aE5]; exact ((aA1 (hm.rd (G:=[]) rfl) args.toList).at_sl.rd hr).append hl) hC.2 h
         exact ⟨v,ui,θ,h1,.hmem hs h2 (fun _=>h3)⟩
     · cases h
   · cases h
 · cases h
end
end Go.IL
open Bool renaming or_eq_false_iff → BC
open Go.IL.Gd renaming val_cons → FX
open Go.IL.V renaming occL → HQ
open List renaming any_eq_false → Dg
namespace Go.IL
section
variable {τ:Nat→El}

theorem Th.at_ne {Θ:Th τ} {n:Nat} {x:TL τ} {id:Nat} (h:Aj id n=false) (e:Nat):Th.at ((n,x)::Θ) id e=Th.at Θ id e:=by
 have hn:¬ n=id:=fun hh=>by subst hh; simp at h
 simp [Th.at,look,hn]

mutual
theorem V.d_ext {Θ:Th τ} {n:Nat} {x:TL τ}:∀ (v:V τ),v.occ n=false→v.d ((n,x)::Θ)=v.d Θ
 | .dead,_ | .bool _,_ | .lit _,_ | .int _ _,_ | .u8 _,_ | .flt _ _,_ | .str _,_ | .sl _ _ _,_ | .nils,_ | .nilp,_ | .nilf,_ | .nili,_ | .ref _ _,_ | .rfe _ _ _ _,_=>by simp [V.d]
 | .agg cs,h=>by simp only [V.d,V.dL_ext cs (by simpa [V.occ] using h)]
 | .tup cs,h=>by simp only [V.d,V.dL_ext cs (by simpa [V.occ] using h)]
 | .fptr cs,h=>by simp only [V.d,V.dL_ext cs (by simpa [V.occ] using h)]
 | .fn f cs,h=>by simp only [V.d,V.dL_ext cs (by simpa [V.occ] using h)]
 | .gsl id e,h=>by simp only [V.d,Th.at_ne (show Aj id n=false from by simpa [V.occ] using h)]
 | .osl id e c,h=>by simp only [V.d,EP,Th.at_ne (show Aj c n=false from by simpa [V.occ] using h)]
theorem V.dL_ext {Θ:Th τ} {n:Nat} {x:TL τ}:∀ (cs:List (V τ)),HQ n cs=false→Ck ((n,x)::Θ) cs=Ck Θ cs
 | [],_=>rfl
 | v::vs,h=>by
   simp only [HQ,BC] at h
   simp only [Ck,V.d_ext v h.1,V.dL_ext vs h.2]
end
theorem V.d_exts {Θ:Th τ} (v:V τ):∀ {θ:Th τ},(∀ p∈θ,v.occ p.1=false)→v.d (θ++Θ)=v.d Θ
 | [],_=>rfl
 | (n,x)::θ,h=>by rw [AY,V.d_ext v (h (n,x) (by simp)),V.d_exts v (θ:=θ) fun p hp=>h p (by simp [hp])]
theorem VE.d_ext {Θ:Th τ} {n:Nat} {x:TL τ} (en:VE τ) (h:en.occ n=false):en.d ((n,x)::Θ)=en.d Θ:=by
 cases en with
 | blk t cs=>simp only [VE.d,V.dL_ext cs (by simpa [VE.occ] using h)]
 | tail t e c=>simp only [VE.d,EP,Th.at_ne (show Aj c n=false from by simpa [VE.occ] using h)]
 | _=>rfl
theorem Ga.at_ne {Γ:Ga} {n i:Nat} {b:Bool} (h:Aj i n=false):Ga.at ((n,b)::Γ) i=Γ.at i:=by
 have hn:¬ n=i:=fun hh=>by subst hh; simp at h
 simp [Ga.at,look,hn]
theorem Gd.val_ext {Γ:Ga} {n:Nat} {b:Bool}:∀ (g:Gd),g.any (fun p=>Aj p.1 n)=false→Dk ((n,b)::Γ) g=Dk Γ g
 | [],_=>rfl
 | (i,w)::r,h=>by
   simp only [Hw,BC] at h
   rw [FX,FX,Ga.at_ne h.1,Gd.val_ext r h.2]
theorem Sv.d_ext {Θ:Th τ} {Γ:Ga} {n:Nat} {x:TL τ} (s:Sv τ) (h:s.occ n=false):s.d ((n,x)::Θ) Γ=s.d Θ Γ:=by
 cases s with
 | v w=>simp only [Sv.d,V.d_ext w (by simpa [Sv.occ] using h)]
 | gb i=>rfl
 | cnd g w =>
   simp only [Sv.occ,BC] at h
   simp only [Sv.d,V.d_ext w h.2]
 | cgb g i=>rfl
theorem Sv.d_extG {Θ:Th τ} {Γ:Ga} {n:Nat} {b:Bool} (s:Sv τ) (h:s.occ n=false):s.d Θ ((n,b)::Γ)=s.d Θ Γ:=by
 cases s with
 | v w=>rfl
 | gb i=>simp only [Sv.d,Ga.at_ne (show Aj i n=false from by simpa [Sv.occ] using h)]
 | cnd g w =>
   simp only [Sv.occ,BC] at h
   simp only [Sv.d,Gd.val_ext g h.1]
 | cgb g i =>
   simp only [Sv.occ,BC] at h
   simp only [Sv.d,Gd.val_ext g h.1,Ga.at_ne h.2]

theorem VE.d_exts {Θ:Th τ} (en:VE τ):∀ {θ:Th τ},(∀ p∈θ,en.occ p.1=false)→en.d (θ++Θ)=en.d Θ
 | [],_=>rfl
 | (n,x)::θ,h=>by rw [AY,VE.d_ext en (h (n,x) (by simp)),VE.d_exts en (θ:=θ) fun p hp=>h p (by simp [hp])]
theorem Sv.d_exts {Θ:Th τ} {Γ:Ga} (s:Sv τ):∀ {θ:Th τ},(∀ p∈θ,s.occ p.1=false)→s.d (θ++Θ) Γ=s.d Θ Γ
 | [],_=>rfl
 | (n,x)::θ,h=>by rw [AY,Sv.d_ext s (h (n,x) (by simp)),Sv.d_exts s (θ:=θ) fun p hp=>h p (by simp [hp])]
theorem Th.at_nes {Θ:Th τ} {id:Nat} (e:Nat):∀ {θ:Th τ},(∀ p∈θ,Aj id p.1=false)→Th.at (θ++Θ) id e=Th.at Θ id e
 | [],_=>rfl
 | (n,x)::θ,h=>by rw [AY,Th.at_ne (h (n,x) (by simp)),Th.at_nes e (θ:=θ) fun p hp=>h p (by simp [hp])]
theorem aDP {S:VS τ} {n:Nat} (h:S.occ n=false) (t:Nat):(S.get t).occ n=false:=by
 simp only [VS.occ,BC,Dg] at h
 replace h:=h.1
 rcases rF (z:=Sv.v (V.dead:V τ)) (t:=t) (l:=S.sl) with h1 | h1
 · rw [show S.get t=_ from h1]; try rfl
 · have:=h.1 _ h1; simpa [VS.get] using this
theorem aJD {S:VS τ} {n:Nat} (h:S.occ n=false) (i:Nat):(S.ent i).occ n=false:=by
 simp only [VS.occ,BC,Dg] at h
 replace h:=h.1
 rcases rF (z:=(bt S.shut VE.none (defV i):VE τ)) (t:=i) (l:=S.H) with h1 | h1
 · rw [show S.ent i=_ from h1]
   cases S.shut
   · simp only [uK,defV]; cases AT 1000 i <;> rfl
   · rfl
 · have:=h.2 _ h1; simpa [VS.ent] using this

theorem occ_phi {S:VS τ} {n:Nat} (h:S.occ n=false):∀ p∈S.Φ,Aj p.1 n=false:=by
 simp only [VS.occ,BC,Dg] at h
 intro p hp
 have:=h.2 p hp
 cases hb:Aj p.1 n with
 | true=>exact AP hb this
 | false=>rfl
structure Mt (S:VS τ) (Sd:St):Prop where
 sl:∀ t,Sd.get t=(S.get t).d S.Θ S.Γ
 ent:∀ i,Sd.ent i=(S.ent i).d S.Θ
 len:∀ i t e c l,S.ent i = .lb t e c l→S.Θ.len c e=l.length
 shut:S.shut=false
 phi:∀ p∈S.Φ,S.Γ.at p.1=p.2
theorem Mt.mo {S:VS τ} {Sd:St} (h:Mt S Sd):Mo S Sd:=⟨fun t=>.inl (h.sl t),fun i=>.inl (h.ent i),h.len⟩

theorem aLB (S:VS τ) (rs ri:List Nat) (t:Nat):((S.only rs ri).get t=S.get t∧t∈rs)∨(S.only rs ri).get t = .v .dead:=by
 have key:∀ rs:List Nat,(look (Sv.v (V.dead:V τ)) t (rs.map fun t=>(t,S.get t))=S.get t∧t∈rs)∨look (Sv.v (V.dead:V τ)) t (rs.map fun t=>(t,S.get t)) = .v .dead:=by
  intro rs
  induction rs with
  | nil=>right; rfl
  | cons a rs ih =>
    simp only [AB,aN]
    by_cases h:a=t
    · subst h; left; simp
    · rw [Aq h]
      rcases ih with h1 | h1
      · exact .inl ⟨h1.1,BB _ h1.2⟩
      · exact .inr h1
 exact key rs
theorem aDN (S:VS τ) (rs ri:List Nat) (i:Nat):((S.only rs ri).ent i=S.ent i∧i∈ri)∨(S.only rs ri).ent i = .none:=by
 have key:∀ ri:List Nat,(look (VE.none:VE τ) i (ri.map fun i=>(i,S.ent i))=S.ent i∧i∈ri)∨look (VE.none:VE τ) i (ri.map fun i=>(i,S.ent i)) = .none:=by
  intro ri
  induction ri with
  | nil=>right; rfl
  | cons a rs ih =>
    simp only [AB,aN]
    by_cases h:a=i
    · subst h; left; simp
    · rw [Aq h]
      rcases ih with h1 | h1
      · exact .inl ⟨h1.1,BB _ h1.2⟩
      · exact .inr h1
 exact key ri
theorem Mt.only {S:VS τ} {Sd S0:St} (h:Mt S Sd) {n:Node} (hA:yF n S0 Sd):Mo (S.only n.rs n.ri) S0:=by
 refine ⟨fun t=>?_,fun i=>?_,fun i t e c l he=>?_⟩
 · rcases aLB S n.rs n.ri t with ⟨h1,h2⟩ | h1
   · exact .inl (by rw [hA.1 t h2,h1]; exact h.sl t)
   · exact .inr h1
 · rcases aDN S n.rs n.ri i with ⟨h1,h2⟩ | h1
   · exact .inl (by rw [hA.2 i h2,h1]; exact h.ent i)
   · exact .inr h1
 · rcases aDN S n.rs n.ri i with ⟨h1,h2⟩ | h1
   · rw [h1] at he; exact h.len i t e c l he
   · rw [he] at h1; cases h1
theorem Mt.only_len {S:VS τ} {Sd:St} (h:Mt S Sd) (rs ri:List Nat):∀ i t e c l,(S.only rs ri).ent i = .lb t e c l→S.Θ.len c e=l.length:=by
 intro i t e c l he
 rcases aDN S rs ri i with ⟨h1,h2⟩ | h1
 · rw [h1] at he; exact h.len i t e c l he
 · rw [he] at h1; cases h1

theorem phi_ext {S:VS τ} {n:Nat} {b:Bool} (h:S.occ n=false) (hp:∀ p∈S.Φ,S.Γ.at p.1=p.2):∀ p∈S.Φ,Ga.at ((n,b)::S.Γ) p.1=p.2:=fun p hm=>by
 rw [Ga.at_ne (occ_phi h p hm)]; exact hp p hm
theorem Mt.slot {S:VS τ} {Sd:St} (hm:Mt S Sd) {tj:Nat} {b:Bool} {sv:Sv τ} (ho:S.occ S.nid=false) (hsv:sv.d S.Θ ((S.nid,b)::S.Γ)=(S.get tj).d S.Θ S.Γ) :
 Mt ⟨(tj,sv)::S.sl,S.H,(S.nid,b)::S.Γ,S.Θ,S.nid+1,S.shut,S.Φ⟩ Sd:=by
 refine ⟨fun t=>?_,hm.ent,hm.len,hm.shut,phi_ext ho hm.phi⟩
 simp only [VS.get,aN]
 by_cases ht:tj=t
 · subst ht; rw [Az rfl,hsv]; exact hm.sl tj
 · rw [Aq ht]
   have:=Sv.d_extG (Θ:=S.Θ) (Γ:=S.Γ) (n:=S.nid) (b:=b) (S.get t) (aDP ho t)
   simp only [VS.get] at this
   rw [this]; exact hm.sl t
theorem Mt.num {S:VS τ} {Sd:St} (hm:Mt S Sd) {t:Nat} {b:Bool} (ho:S.occ S.nid=false) (hb:(S.get t).d S.Θ S.Γ = .bool b):Mt (S.num t b) Sd :=
 hm.slot ho (by rw [hb]; simp [Sv.d,Ga.at,look])
theorem bt_e {α:Type} {c:Bool} {x:Ad α} {r:α} (h:bt c none x=some r):c=false∧x=some r:=by
 cases c with
 | true=>cases h
 | false=>exact ⟨rfl,h⟩

theorem aEt {R:Type} {S:VS τ} {Sd:St} {tj:Nat} {want:Bool} {k:VS τ→Gd→Ad R} {r:R} (hm:Mt S Sd) (h:aGZ S tj want k=some r) :
 ∃ S' G,k S' G=some r∧Mt S' Sd∧Grd Sd tj want (G.val S'.Γ)∧G≠[]:=by
 unfold aGZ at h
 have hs:=hm.sl tj
 have one:∀ b,(S.get tj).d S.Θ S.Γ = .bool b→bt (S.occ S.nid) none (numK S tj b fun S'=>k S' [(S.nid,want)])=some r→∃ S' G,k S' G=some r∧Mt S' Sd∧Grd Sd tj want (G.val S'.Γ)∧G≠[]:=by
  intro b hb h
  obtain ⟨ho,h⟩:=bt_e h
  rw [aDR] at h
  refine ⟨_,_,h,hm.num ho hb,?_,by simp⟩
  have:Dk ((S.nid,b)::S.Γ) [(S.nid,want)]=(b == want):=by simp [Dk,Gd.vl,Ga.at,look]
  rw [this]
  exact .one (hs.trans hb)
 split at h
 · rename_i i hi
   rw [hi] at hs
   exact ⟨S,_,h,hm,.one hs,by simp⟩
 · rename_i b hb
   exact one b (by rw [hb]; try rfl) h
 · rename_i b hb
   exact one b (by rw [hb]; try rfl) h
 · rename_i g i hi
   rw [hi] at hs
   split at h
   · rename_i p
     refine ⟨S,_,h,hm,?_,by simp⟩
     obtain ⟨pi,pw⟩:=p
     exact .two hs
   · rename_i p q
     refine ⟨S,_,h,hm,?_,by simp⟩
     obtain ⟨pi,pw⟩:=p
     obtain ⟨qi,qw⟩:=q
     exact .two hs
   · cases h
 · rename_i g b hb
   rw [hb] at hs
   split at h
   · rename_i p
     obtain ⟨ho,h⟩:=bt_e h
     rw [aJu] at h
     have hocc:=aDP ho tj
     rw [hb] at hocc
     simp only [Sv.occ,BC] at hocc
     have hv:Dk ((S.nid,b)::S.Γ) [p]=Dk S.Γ [p]:=Gd.val_ext _ hocc.1
     refine ⟨_,_,h,hm.slot ho (by rw [hb]; simp only [Sv.d,V.d,hv]; simp [Ga.at,look]),?_,by simp⟩
     have:Dk ((S.nid,b)::S.Γ) ([p]++[(S.nid,want)])=(Dk S.Γ [p]&&(b == want)):=by
      have h2:Dk ((S.nid,b)::S.Γ) [(S.nid,want)]=(b == want):=by simp [Dk,Gd.vl,Ga.at,look]
      rw [HD,h2,hv]
     replace this:Dk ((S.nid,b)::S.Γ) ([p,(S.nid,want)])=(Dk S.Γ [p]&&(b == want)):=this
     rw [this]
     exact .two (by rw [hs]; try simp [Sv.d,V.d])
   · rename_i p q
     obtain ⟨ho,h⟩:=bt_e h
     rw [aJu] at h
     have hocc:=aDP ho tj
     rw [hb] at hocc
     simp only [Sv.occ,BC] at hocc
     have hv:Dk ((S.nid,b)::S.Γ) [p,q]=Dk S.Γ [p,q]:=Gd.val_ext _ hocc.1
     refine ⟨_,_,h,hm.slot ho (by rw [hb]; simp only [Sv.d,V.d,hv]; simp [Ga.at,look]),?_,by simp⟩
     have:Dk ((S.nid,b)::S.Γ) ([p,q]++[(S.nid,want)])=(Dk S.Γ [p,q]&&(b == want)):=by
      have h2:Dk ((S.nid,b)::S.Γ) [(S.nid,want)]=(b == want):=by simp [Dk,Gd.vl,Ga.at,look]
      rw [HD,h2,hv]
     replace this:Dk ((S.nid,b)::S.Γ) ([p,q,(S.nid,want)])=(Dk S.Γ [p,q]&&(b == want)):=this
     rw [this]
     exact .two (by rw [hs]; try simp [Sv.d,V.d])
   · cases h
 · cases h
theorem aI3 {R:Type} {S:VS τ} {Sd:St} {o:Op} {k:VS τ→Ad R} {r:R} (hm:Mt S Sd) (h:preE S o k=some r):∃ S',k S'=some r∧Mt S' Sd:=by
 unfold preE at h
 split at h
 · split at h
   · rename_i b hb
     obtain ⟨ho,h⟩:=bt_e h
     rw [aDR] at h
     exact ⟨_,h,hm.num ho (by rw [hb]; try rfl)⟩
   · exact ⟨S,h,hm⟩
 · split at h
   · rename_i b hb
     obtain ⟨ho,h⟩:=bt_e h
     rw [aDR] at h
     exact ⟨_,h,hm.num ho (by rw [hb]; try rfl)⟩
   · exact ⟨S,h,hm⟩
 · exact ⟨S,h,hm⟩
theorem Mt.know {S:VS τ} {Sd:St} (hm:Mt S Sd) {i:Nat} {w:Bool} (h:S.Γ.at i=w):Mt (S.know i w) Sd :=
 ⟨hm.sl,hm.ent,hm.len,hm.shut,fun p hp=>by
  cases hp with
  | head=>exact h
  | tail _ hp=>exact hm.phi p hp⟩
end
end Go.IL
open Go.IL.St renaming ent_upd → Fi,get_upd → Fg
namespace Go.IL
section
variable {R:Type} {C:Cx} {O:aR} {N:Nat} {S S':VS C.τ} {Sd:St} {G:Gd} {r:R}

theorem aJF {α β:Type} (f:α→β) (t:Nat) (l:List (Nat×α)):t∈(l.map fun x=>(x.1,f x.2)).map (·.1)↔t∈l.map (·.1):=by
 simp [Bz,Function.comp_def]

theorem Mt.put (hm:Mt S Sd) {us:List (Nat×Sv C.τ)} {ui:List (Nat×VE C.τ)} {θ:Th C.τ} (hθ:∀ p∈θ,S.occ p.1=false) (hl:aDy (θ++S.Θ) ui) (rs ri:List Nat) :
 Mt (S.put us ui θ) (Sd.upd ⟨rs,ri,dS (θ++S.Θ) S.Γ us,dH (θ++S.Θ) ui⟩):=by
 have e1:∀ t,(S.get t).d (θ++S.Θ) S.Γ=(S.get t).d S.Θ S.Γ:=fun t=>Sv.d_exts _ fun p hp=>aDP (hθ p hp) t
 have e2:∀ i,(S.ent i).d (θ++S.Θ)=(S.ent i).d S.Θ:=fun i=>VE.d_exts _ fun p hp=>aJD (hθ p hp) i
 refine ⟨fun t=>?_,fun i=>?_,fun i t e c l he=>?_,hm.shut,hm.phi⟩
 · rw [Fg]
   simp only [VS.put,VS.get,dI,dS,aJF]
   by_cases h:t∈us.map (·.1)
   · rw [Az h,Az h]
     exact sR (fun s:Sv C.τ=>s.d (θ++S.Θ) S.Γ) (.v .dead) t us
   · rw [Aq h,Aq h]
     exact (hm.sl t).trans (e1 t).symm
 · rw [Fi]
   simp only [VS.put,VS.ent,dI,dH,aJF,hm.shut,uK]
   by_cases h:i∈ui.map (·.1)
   · rw [Az h,Az h]
     have:=sR (fun s:VE C.τ=>s.d (θ++S.Θ)) (defV i) i ui
     have hd:(defV i:VE C.τ).d (θ++S.Θ)=defE i:=by
      unfold defV defE
      cases hb:AT 1000 i with
      | true=>rw [Az (AR hb)]; try rfl
      | false=>rw [Aq (fun h1=>by rw [DT h1] at hb; cases hb)]; try rfl
     simp only [hd] at this
     exact this
   · rw [Aq h,Aq h]
     have:=(hm.ent i).trans (e2 i).symm
     simpa only [VS.ent,hm.shut,uK] using this
 · simp only [VS.put,VS.ent,dI,hm.shut,uK] at he ⊢
   by_cases h:i∈ui.map (·.1)
   · rw [Az h] at he
     rcases rF (z:=(defV i:VE C.τ)) (t:=i) (l:=ui) with h1 | h1
     · rw [he] at h1
       unfold defV at h1
       cases hb:AT 1000 i <;> rw [hb] at h1 <;> cases h1
     · rw [he] at h1; exact hl i t e c l h1
   · rw [Aq h] at he
     have he':S.ent i = .lb t e c l:=by simpa only [VS.ent,hm.shut,uK] using he
     have h1:=hm.len i t e c l he'
     show (Th.at (θ++S.Θ) c e).length=l.length
     rw [Th.at_nes e fun p hp=>by
      have h2:=aJD (hθ p hp) i
      rw [he'] at h2
      simpa [VE.occ] using h2]
     exact h1

theorem rawE_ok {o:Oper} {sv:Sv C.τ} (h:rawE S G o.op=some sv):G=[]∧sH o.op=true∧dA o.op=false∧∀ S0,Mo S S0→∀ t,o.dst=some t→t<N→IOp C.P O N o S0 (S0.set t (sv.d S.Θ S.Γ)):=by
 have key:∀ (x:Ag) (s:Sv C.τ),rawX S x=some s→∀ S0,Mo S S0→SV S0 x (s.d S.Θ S.Γ):=by
  intro x s h S0 hm
  have hr:=hm.rd (G:=[]) rfl x
  unfold rawX at h
  split at h
  · rename_i s'
    simp only [VS.rd,VS.rdg] at hr
    split at h
    · rename_i i hi; cases h; rw [hi] at hr; exact hr
    · rename_i b hb; cases h; rw [hb] at hr; exact hr
    · cases h
  · cases h; exact hr
  · cases h
 unfold rawE at h
 split at h
 · split at h
   · rename_i x ho
     exact ⟨rfl,by rw [ho]; rfl,by rw [ho]; try rfl,fun S0 hm t hd ht=>eK ho hd ht (key x sv h S0 hm)⟩
   · rename_i x ho
     exact ⟨rfl,by rw [ho]; rfl,by rw [ho]; try rfl,fun S0 hm t hd ht=>dK ho hd ht (key x sv h S0 hm)⟩
   · cases h
 · cases h
theorem aBM {o:Oper} {k:VS C.τ→List Nat→List Nat→Ad R} (hC:FsOk C) (hm:Mt S Sd) (hΘ:S'.Θ=S.Θ) (hΓ:S'.Γ=S.Γ) (hn:S'.nid=S.nid) (hlen:∀ i t e c l,S'.ent i = .lb t e c l→S.Θ.len c e=l.length)
 (h:aHc C N o G S S' k=some r) (rs ri:List Nat) :
 ∃ us ui S2,k S2 (us.map (·.1)) (ui.map (·.1))=some r∧Mt S2 (Sd.upd ⟨rs,ri,us,ui⟩)∧sH o.op=true ∧
   ((G=[]∧∀ S0,Mo S' S0→IOp C.P O N o S0 (S0.upd ⟨rs,ri,us,ui⟩)) ∨
     (∃ t d,G≠[]∧us=[(t,.cnd (G.val S.Γ) d)]∧ui=[]∧o.dst=some t∧t<N∧(G.val S.Γ=true→∀ S0,Mo S' S0→IOp C.P O N o S0 (S0.set t d)))):=by
 unfold aHc at h
 split at h
 · rename_i sv hsv
   obtain ⟨rfl,hnd,hst,hop⟩:=rawE_ok (O:=O) (N:=N) hsv
   split at h
   · rename_i t hd
     obtain ⟨hc,h⟩:=aX h
     rw [aBk] at h
     have ht:t<N:=AR hc
     refine ⟨dS S.Θ S.Γ [(t,sv)],[],_,h,hm.put (ui:=[]) (θ:=[]) (fun p hp=>by cases hp) (fun i t e c l hj=>by cases hj) rs ri,hnd,.inl ⟨rfl,fun S0 hmo=>?_⟩⟩
     have:=hop S0 hmo t hd ht
     rw [hΘ,hΓ] at this
     exact this
   · cases h
 obtain ⟨hnd,h⟩:=aX h
 obtain ⟨v,ui,θ,h,hout⟩:=opE_ok (O:=O) (N:=N) hC (by rw [hΘ]; exact hlen) (by rw [hΘ]; exact hm.len) h
 split at h
 · -- a plain value
   split at h
   · rename_i t hd
     obtain ⟨hc,h⟩:=aX h
     rw [aBk] at h
     simp only [Af,CO] at hc
     have ht:t<N:=AR hc.1
     have hv:dA o.op=false∧(G.val S'.Γ=true→∀ S0,Mo S' S0→∀ t,o.dst=some t→t<N→IOp C.P O N o S0 (S0.set t (v.d S'.Θ))):=by
      cases hout with
      | store hs hne=>exact AP rfl hne
      | val hv=>exact hv
      | mem hs hl hv=>exact ⟨hs,fun hg S0 hm t hd ht=>hv hg S0 hm t hd ht⟩
     · obtain ⟨hs,hv⟩:=hv
       refine ⟨dS S.Θ S.Γ _,[],_,h,by have:=hm.put (us:=[(t,svG G v)]) (ui:=[]) (θ:=[]) (fun p hp=>by cases hp) (fun i t e c l hj=>by cases hj) rs ri; exact this,hnd,?_⟩
       cases G with
       | nil =>
         refine .inl ⟨rfl,fun S0 hmo=>?_⟩
         have:=hv rfl S0 hmo t hd ht
         rw [hΘ] at this
         exact this
       | cons a g =>
         refine .inr ⟨t,v.d S.Θ,by simp,rfl,rfl,hd,ht,fun hg S0 hmo=>?_⟩
         have:=hv (by rw [hΓ]; exact hg) S0 hmo t hd ht
         rw [hΘ] at this
         exact this
   · cases h
 · rename_i hnn
   split at h
   · split at h
     · rename_i t hd
       obtain ⟨hc,h⟩:=aX h
       rw [aBk] at h
       simp only [Af,CO] at hc
       obtain ⟨⟨hc1,hc2⟩,ho⟩:=hc
       have ht:t<N:=AR hc1
       cases hout with
       | store hs=>rw [hs] at hc2; cases hc2
       | val=>exact AP rfl (hnn rfl)
       | mem hs hl hv =>
         rw [hΘ] at hl hv
         have hθ':∀ p∈θ,S.occ p.1=false:=fun p hp=>by simpa using AV.1 ho p hp
         refine ⟨dS (θ++S.Θ) S.Γ [(t,.v v)],dH (θ++S.Θ) ui,_,?_,hm.put hθ' hl rs ri,hnd,.inl ⟨rfl,fun S0 hmo=>?_⟩⟩
         · simpa [dS,dH,Bz,Function.comp_def] using h
         · exact hv rfl S0 hmo t hd ht
     · rename_i hd
       obtain ⟨hc,h⟩:=aX h
       rw [aBk] at h
       simp only [Af] at hc
       cases hout with
       | mem hs=>rw [hs] at hc; cases hc.1
       | val=>exact AP rfl (hnn rfl)
       | store hs hne hl hv =>
         rw [hΘ] at hl hv
         refine ⟨[],dH S.Θ ui,_,?_,hm.put (us:=[]) (θ:=[]) (fun p hp=>by cases hp) hl rs ri,hnd,.inl ⟨rfl,fun S0 hmo=>?_⟩⟩
         · have h2:=(aX h).2
           rw [aBk] at h2
           simpa [dH,Bz,Function.comp_def] using h2
         · exact hv rfl S0 hmo hd
   · cases h

theorem aFU {ops:Array Oper} (hC:FsOk C) {Q:Exit→St→Prop}:∀ {l:List Oper} {S:VS C.τ} {Sd:St} {k:VS C.τ→Ad R} {r:R},regP C N ops l S k=some r→Mt S Sd →
 (∀ S' Sd',Mt S' Sd'→k S'=some r→Q .normal Sd')→ILS C.P O N ops l Sd Q
 | [],S,Sd,k,r,h,hm,hk=>dJ (hk S Sd hm h)
 | o :: l,S,Sd,k,r,h,hm,hk=>by
   simp only [regP] at h
   split at h
   · rename_i hg
     obtain ⟨S1,h,hm⟩:=aI3 hm h
     obtain ⟨us,ui,S2,h1,h2,h3,h4⟩:=aBM (O:=O) hC hm rfl rfl rfl hm.len h [] []
     rcases h4 with ⟨_,h4⟩ | ⟨t,d,hne,rfl,rfl,h5,h6,h7⟩
     · exact aE (by simp [pH,hg,h3]) (h4 Sd hm.mo) (aFU hC h1 h2 hk)
     · exact AP rfl hne
   · rename_i j want hg
     split at h
     · rename_i tj htj
       obtain ⟨S1,G,h1,hm1,hgr,hG⟩:=aEt hm h
       obtain ⟨us,ui,S2,h1,h2,h3,h4⟩:=aBM (O:=O) hC hm1 rfl rfl rfl hm1.len h1 [] []
       rcases h4 with ⟨h4,_⟩ | ⟨t,d,hne,rfl,rfl,h5,h6,h7⟩
       · exact AP h4 hG
       · exact nP hg htj hgr (by rw [h5,h3]) h6 (fun hg=>h7 hg Sd hm1.mo) (aFU hC h1 h2 hk)
     · cases h
end
end Go.IL
open List renaming drop_drop → DN,getElem?_drop → CJ
open Nat renaming add_zero → CE
namespace Go.IL
section
variable {R:Type} {C:Cx} {O:aR} {N:Nat} {S S':VS C.τ} {Sd:St} {G:Gd} {r:R}

def Node.key (n:Node):Nk:=⟨n.rs,n.ri,n.us.map (·.1),n.ui.map (·.1)⟩
theorem aJI {ops:Array Oper} {nds:List Node}:∀ (n k:Nat) (listed:Array Bool),lexK ops (nds.map Node.key) n k listed=aEZ ops nds n k listed
 | 0,_,_=>rfl
 | n+1,k,listed=>by
   have hg:∀ i,(nds.map Node.key).getD i ⟨[],[],[],[]⟩=(nds.getD i ⟨[],[],[],[]⟩).key:=fun i=>by
    simp only [CN,CH]
    cases nds[i]? <;> rfl
   simp only [lexK,aEZ,aJI n,hg]
   rfl

theorem Grd.congr {A B:St} {tj:Nat} {want g:Bool} (h:Grd A tj want g) (he:B.get tj=A.get tj):Grd B tj want g:=by
 cases h with
 | one h=>exact .one (he.trans h)
 | two h=>exact .two (he.trans h)

theorem aFV {ops:Array Oper} (hC:FsOk C):∀ {l:List Oper} {S:VS C.τ} {Sd:St} {acc:List Nk} {k:VS C.τ→List Nk→Ad R} {r:R} {i:Nat},regD C N ops l S acc k=some r→Mt S Sd→ops.toList.drop i=l →
 ∃ nds S',k S' (acc.reverse++nds.map Node.key)=some r∧Mt S' (seqS Sd nds)∧DSeq C.P O N ops i Sd nds∧nds.length=l.length
 | [],S,Sd,acc,k,r,i,h,hm,hl=>⟨[],S,by simpa [regD] using h,hm,.nil,rfl⟩
 | o :: l,S,Sd,acc,k,r,i,h,hm,hl=>by
   have ho:ops[i]? = some o:=by
    have h1:(ops.toList.drop i)[0]? = some o:=by rw [hl]; rfl
    rw [CJ,CE] at h1
    simpa using h1
   have hl2:ops.toList.drop (i+1)=l:=by
    rw [←DN,hl]; rfl
   simp only [regD] at h
   split at h
   · rename_i hg
     obtain ⟨S1,h,hm⟩:=aI3 hm h
     obtain ⟨us,ui,S2,h1,h2,h3,h4⟩:=aBM (O:=O) (S':=S1.only (yI o) (idsE C S1 o)) hC hm rfl rfl rfl (hm.only_len _ _) h (yI o) (idsE C S1 o)
     rcases h4 with ⟨_,h4⟩ | ⟨t,d,hne,_⟩
     · obtain ⟨nds,S',h5,h6,h7,h8⟩:=aFV hC h1 h2 hl2
       refine ⟨⟨yI o,idsE C S1 o,us,ui⟩::nds,S',?_,h6,.cons ?_ h7,by simp [h8]⟩
       · simpa [Node.key] using h5
       · exact lop ho (by simp [pH,hg,h3]) fun S0 hA=>h4 S0 (hm.only (n:=⟨yI o,idsE C S1 o,us,ui⟩) hA)
     · exact AP rfl hne
   · rename_i j want hg
     split at h
     · rename_i tj htj
       obtain ⟨S1,G,h1,hm1,hgr,hG⟩:=aEt hm h
       obtain ⟨us,ui,S2,h1,h2,h3,h4⟩:=aBM (O:=O) (S':=S1.only (tj::yI o) (idsE C S1 o)) hC hm1 rfl rfl rfl (hm1.only_len _ _) h1 (tj::yI o) (idsE C S1 o)
       rcases h4 with ⟨h4,_⟩ | ⟨t,d,hne,rfl,rfl,h5,h6,h7⟩
       · exact AP h4 hG
       · obtain ⟨nds,S',h8,h9,h10,h11⟩:=aFV hC h1 h2 hl2
         refine ⟨⟨tj::yI o,idsE C S1 o,[(t,.cnd (G.val S1.Γ) d)],[]⟩::nds,S',?_,h9,.cons ?_ h10,by simp [h11]⟩
         · simpa [Node.key] using h8
         · exact lopg ho hg htj (by rw [h5,h3]) h6 (fun S0 hA=>hgr.congr (hA.1 tj (by simp))) (fun S0 hA hgv=>h7 hgv S0 (hm1.only hA))
     · cases h

theorem regE_ok {id:Nat} {ops:Array Oper} {draw:Bool} (hC:FsOk C) {Q:Exit→St→Prop} {k:VS C.τ→Ad R} (h:regE C N ops draw S k=some r) (hm:Mt S Sd)
 (hk:∀ S' Sd',Mt S' Sd'→k S'=some r→Q .normal Sd'):IWP C.P O N (.region id ops draw) Sd Q:=by
 unfold regE at h
 cases draw with
 | false =>
   have:=bN (id:=id) (aFU (O:=O) (Q:=Q) hC h hm hk)
   simpa using this
 | true =>
   obtain ⟨nds,S',h1,h2,h3,h4⟩:=aFV (O:=O) (i:=0) hC h hm (by simp)
   obtain ⟨hc,h1⟩:=aX h1
   simp only [Af,List.reverse_nil,AE] at hc
   obtain ⟨hc1,hc2⟩:=hc
   rw [aJI] at hc2
   have:=aDX (id:=id) (O:=O) (N:=N) (l:=ops.toList) (Q:=Q) hc1 nds h4 (by simpa using h3) (by simpa using hc2) (hk S' _ h2 h1)
   simpa using this
end
end Go.IL
namespace Go.IL
section
variable {R:Type} {C:Cx} {O:aR} {N:Nat} {r:R}

def post (P:An) (O:aR) (N:Nat) (root:Code) (Q:Exit→St→Prop):List Nat→Exit→St→Prop
 | []=>Q
 | i :: q=>match sub root q with
   | .seq _ y=>match i with
     | 0=>aCH (fun S=>IWP P O N y S (post P O N root Q q)) (post P O N root Q q)
     | _=>post P O N root Q q
   | .cond _ _ _=>post P O N root Q q
   | .block j _=>yR j (post P O N root Q q)
   | .scope _=>aMj (post P O N root Q q)
   | .loop c=>aCH (LG P O N c (post P O N root Q q)) (post P O N root Q q)
   | _=>fun _ _=>False

def Atp (P:An) (O:aR) (N:Nat) (root:Code) (Q:Exit→St→Prop) (p:List Nat) (S:St):Prop:=match sub root p with
 | .loop c=>LG P O N c (post P O N root Q p) S
 | c=>IWP P O N c S (post P O N root Q p)
theorem Atp.iwp {P:An} {root:Code} {Q:Exit→St→Prop} {p:List Nat} {S:St} (h:Atp P O N root Q p S):IWP P O N (sub root p) S (post P O N root Q p):=by
 unfold Atp at h
 split at h
 · rename_i c hc; rw [hc]; exact aFd h
 · exact h
theorem Atp.lg {P:An} {root:Code} {Q:Exit→St→Prop} {p:List Nat} {S:St} {c:Code} (hc:sub root p = .loop c) (h:Atp P O N root Q p S):LG P O N c (post P O N root Q p) S:=by
 unfold Atp at h
 rw [hc] at h
 exact h

theorem aGK:∀ {p q:List Nat},aEQ p q=true→p=q
 | [],[],_=>rfl
 | a::p,b::q,h=>by
   simp only [aEQ,Af,Br] at h
   rw [h.1,aGK h.2]
 | [],_::_,h=>by cases h
 | _::_,[],h=>by cases h
theorem aLd {τ:Nat→El} {p:List Nat} {f:VS τ→Ad R}:∀ {h:Hd τ R},Hd.at h p=some f→(p,f)∈h
 | [],h=>by simp [Hd.at] at h
 | (q,g)::l,h=>by
   unfold Hd.at at h
   cases hq:aEQ q p with
   | true=>rw [hq] at h; cases h; rw [aGK hq]; simp
   | false=>rw [hq] at h; exact BB _ (aLd h)

theorem aJQ {P:An} {S:St} {Q:Exit→St→Prop} {c:Ag} {x y:Code} {b:Bool} (hc:SV S c (.bool b)) (h1:b=true→IWP P O N x S Q) (h2:b=false→IWP P O N y S Q):IWP P O N (.cond c x y) S Q :=
 fun E β a hr=>by
  have:=yY (hc.rd hr)
  exact wpIn_cond_split this (fun h=>h1 h E β a hr) (fun h=>h2 h E β a hr)

def HdOk (O:aR) (X:Fx C R) (Q:Exit→St→Prop) (r:R):Prop:=∀ x∈X.hd,∀ S Sd,Mt S Sd→x.2 S=some r→Atp C.P O X.N X.root Q x.1 Sd
def FinOk (X:Fx C R) (Q:Exit→St→Prop) (r:R):Prop:=∀ S Sd,Mt S Sd→X.fin S=some r→Q .normal Sd∧Q .ret Sd

theorem aND {X : Fx C R} (hC:FsOk C) {Q:Exit→St→Prop} (hH:HdOk O X Q r) (hF:FinOk X Q r):∀ n,
 (∀ p S Sd,den X n none p S=some r→Mt S Sd→IWP C.P O X.N (sub X.root p) Sd (post C.P O X.N X.root Q p)) ∧
 (∀ e p S Sd,den X n (some e) p S=some r→Mt S Sd→post C.P O X.N X.root Q p e Sd):=by
 intro n
 induction n with
 | zero=>exact ⟨fun p S Sd h=>by simp [den] at h,fun e p S Sd h=>by simp [den] at h⟩
 | succ n ih =>
   obtain ⟨ih1,ih2⟩:=ih
   refine ⟨fun p S Sd h hm=>?_,fun e p S Sd h hm=>?_⟩
   · unfold den at h
     split at h
     · rename_i x y hc
       have:=ih1 _ _ _ h hm
       rw [hc]
       simp only [sub,hc,kid,post] at this
       exact bG this
     · rename_i id ops draw hc
       rw [hc]
       exact regE_ok hC h hm fun S' Sd' hm' hk=>ih2 _ _ _ _ hk hm'
     · rename_i hc; rw [hc]; exact bS (ih2 _ _ _ _ h hm)
     · rename_i l hc; rw [hc]; exact aJP (ih2 _ _ _ _ h hm)
     · rename_i hc; rw [hc]; exact bJ (ih2 _ _ _ _ h hm)
     · rename_i i hc; rw [hc]; exact dW (ih2 _ _ _ _ h hm)
     · rename_i c x y hc
       rw [hc]
       have go:∀ (b:Bool) (S1 S2:VS C.τ) (t:Unit),SV Sd c (.bool b)→(b=true→Mt S1 Sd)→(b=false→Mt S2 Sd)→(bif b then den X n none (0::p) S1 else den X n none (1::p) S2)=some r →
        IWP C.P O X.N (.cond c x y) Sd (post C.P O X.N X.root Q p):=by
        intro b S1 S2 t hsv m1 m2 hgo
        refine aJQ hsv (fun hbt=>?_) (fun hbf=>?_)
        · have:=ih1 _ _ _ (by simpa [hbt] using hgo) (m1 hbt)
          simpa only [sub,hc,kid,post] using this
        · have:=ih1 _ _ _ (by simpa [hbf] using hgo) (m2 hbf)
          simpa only [sub,hc,kid,post] using this
       have go2:∀ (b:Bool) (t:Nat),c = .tmp t→Sd.get t = .bool b→bt b (den X n none (0::p) S) (den X n none (1::p) S)=some r →
        IWP C.P O X.N (.cond c x y) Sd (post C.P O X.N X.root Q p):=fun b t ht hb h =>
        go b S S () (ht ▸ sv (x:=.tmp t) hb) (fun _=>hm) (fun _=>hm) (by cases b <;> exact h)
       split at h
       · rename_i t
         have hs:=hm.sl t
         split at h
         · rename_i b hb
           exact go2 b t rfl (by rw [hs,hb]; try rfl) h
         · rename_i b hb
           obtain ⟨ho,h⟩:=bt_e h
           try simp only [aDR] at h
           have hn:=hm.num ho (t:=t) (b:=b) (by rw [hb]; try rfl)
           have hat:(S.num t b).Γ.at S.nid=b:=by simp [Ga.at,look]
           exact go b _ _ () (sv (x:=.tmp t) (by show Sd.get t=_; rw [hs,hb]; try rfl)) (fun hb=>hn.know (by rw [hat,hb])) (fun hb=>hn.know (by rw [hat,hb])) h
         · rename_i i hi
           have hd:Sd.get t = .bool (S.Γ.at i):=by rw [hs,hi]; try rfl
           split at h
           · rename_i w hw
             have hmem:(i,w)∈S.Φ:=by
              have:∀ l:List (Nat×Bool),look (α:=Ad Bool) none i (l.map fun x=>(x.1,some x.2))=some w→(i,w)∈l:=by
               intro l
               induction l with
               | nil=>intro h; cases h
               | cons a l ih =>
                 intro h
                 simp only [AB,aN] at h
                 split at h
                 · rename_i ha; cases h; subst ha; simp
                 · exact BB _ (ih h)
              exact this _ hw
             have hgw:=hm.phi _ hmem
             exact go2 w t rfl (by rw [hd]; exact Bv D.bool hgw) h
           · exact go _ _ _ () (sv (x:=.tmp t) hd) (fun hb=>hm.know hb) (fun hb=>hm.know hb) h
         · cases h
       · split at h
         · rename_i b
           exact go b S S () (sv rfl) (fun _=>hm) (fun _=>hm) (by cases b <;> exact h)
         · cases h
       · cases h
     · rename_i j c hc
       rw [hc]
       have:=ih1 _ _ _ h hm
       simp only [sub,hc,kid,post] at this
       exact bT this
     · rename_i c hc
       rw [hc]
       have:=ih1 _ _ _ h hm
       simp only [sub,hc,kid,post] at this
       exact aJO this
     · rename_i c hc
       split at h
       · rename_i f hf
         exact (hH _ (aLd hf) S Sd hm h).iwp
       · cases h
     · cases h
   · unfold den at h
     cases p with
     | nil =>
       simp only at h
       split at h
       · exact (hF S Sd hm h).1
       · exact (hF S Sd hm h).2
       · cases h
     | cons i q =>
       simp only at h
       split at h
       · rename_i x y hc
         cases i with
         | zero =>
           simp only [post,hc]
           cases e with
           | normal =>
             replace h:(match X.hd.at (1::q) with | some f=>f S | none=>den X n none (1::q) S)=some r:=h
             simp only [aCH]
             split at h
             · rename_i f hf
               have:=(hH _ (aLd hf) S Sd hm h).iwp
               simpa only [sub,hc,kid,post] using this
             · have:=ih1 _ _ _ h hm
               simpa only [sub,hc,kid,post] using this
           | _=>exact ih2 _ _ _ _ h hm
         | succ j =>
           have:=ih2 _ _ _ _ h hm
           simpa only [post,hc] using this
       · rename_i c x y hc
         have:=ih2 _ _ _ _ h hm
         simpa only [post,hc] using this
       · rename_i j c hc
         simp only [post,hc]
         split at h
         · rename_i k
           simp only [yR]
           cases hk:Aj k j with
           | true =>
             rw [hk] at h
             rw [Az (by simpa using hk)]
             exact ih2 _ _ _ _ h hm
           | false =>
             rw [hk] at h
             rw [Aq (fun hh=>by subst hh; simp at hk)]
             exact ih2 _ _ _ _ h hm
         · rename_i hne
           have:=ih2 _ _ _ _ h hm
           cases e with
           | exit k=>exact AP rfl (hne k)
           | _=>exact this
       · rename_i c hc
         simp only [post,hc]
         split at h
         · cases h
         · rename_i hne
           have:=ih2 _ _ _ _ h hm
           cases e with
           | goto k=>exact AP rfl (hne k)
           | _=>exact this
       · rename_i c hc
         simp only [post,hc]
         split at h
         · split at h
           · rename_i f hf
             exact (hH _ (aLd hf) S Sd hm h).lg hc
           · cases h
         · rename_i hne
           have:=ih2 _ _ _ _ h hm
           cases e with
           | normal=>exact AP rfl hne
           | _=>exact this
       · cases h
end
end Go.IL
open Go.IL.ITL renaming st → DB
open Go.IL.St renaming held → GP
open List renaming mem_flatMap → BQ
namespace Go.IL
section
variable {τ:Nat→El}
def VS.toSt (S:VS τ):St:=⟨dS S.Θ S.Γ S.sl,dH S.Θ S.H⟩
theorem defV_d (Θ:Th τ) (i:Nat):(defV i:VE τ).d Θ=defE i:=by
 unfold defV defE
 cases hb:AT 1000 i with
 | true=>rw [Az (AR hb)]; try rfl
 | false=>rw [Aq (fun h1=>by rw [DT h1] at hb; cases hb)]; try rfl
theorem aIM {S:VS τ} (hs:S.shut=false) (hp:∀ p∈S.Φ,S.Γ.at p.1=p.2) (hl:∀ i t e c l,S.ent i = .lb t e c l→S.Θ.len c e=l.length):Mt S S.toSt:=by
 refine ⟨fun t=>sR (fun s:Sv τ=>s.d S.Θ S.Γ) (.v .dead) t S.sl,fun i=>?_,hl,hs,hp⟩
 have:=sR (fun s:VE τ=>s.d S.Θ) (defV i) i S.H
 simp only [defV_d] at this
 simp only [VS.ent,hs,uK]
 exact this

variable {κ:∀ e,Cod τ e}
theorem ITL.st_len (κ:∀ e,Cod τ e) (l:List IT) (nid:Nat) (z:BN τ l) (hno:(l.flatMap CY).Nodup):∀ i t e c ls,(DB κ l nid z).ent i = .lb t e c ls→(DB κ l nid z).Θ.len c e=ls.length:=by
 intro i t e c ls he
 rcases rF (z:=(defV i:VE τ)) (t:=i) (l:=CZ κ idn idn l z) with h1 | h1
 · have:(DB κ l nid z).ent i=defV i:=h1
   rw [this] at he
   unfold defV at he
   cases hb:AT 1000 i <;> rw [hb] at he <;> cases he
 · have:(DB κ l nid z).ent i=look (defV i) i (CZ κ idn idn l z):=rfl
   rw [←this,he] at h1
   have:=aGA z hno _ (GX _ h1 t e c ls rfl)
   simp only [EP]
   exact Bv DH this
theorem ITL.st_mt (κ:∀ e,Cod τ e) (l:List IT) (nid:Nat) (z:BN τ l) (hno:(l.flatMap CY).Nodup):Mt (DB κ l nid z) (DB κ l nid z).toSt :=
 aIM rfl (fun p hp=>by cases hp) (ITL.st_len κ l nid z hno)

theorem ITL.own_held {l:List IT} (z:BN τ l) (nid:Nat) (hno:(l.flatMap CY).Nodup):∀ i∈l.flatMap CY,(DB κ l nid z).toSt.held i=true:=by
 intro i hi
 rw [←EZ (κ:=κ) l z] at hi
 obtain ⟨⟨j,en⟩,h1,rfl⟩:=AL.1 hi
 have h2:(j,en.d (BS idn l z))∈(DB κ l nid z).toSt.H:=AL.2 ⟨_,h1,rfl⟩
 have hk:((DB κ l nid z).toSt.H.map (·.1))=l.flatMap CY:=by
  rw [←EZ (κ:=κ) l z]; simp [VS.toSt,dH,Bz,Function.comp_def]
 have h3:(DB κ l nid z).toSt.ent j=en.d (BS idn l z):=xA h2 (hk ▸ hno)
 unfold GP
 rw [h3]; exact Gb _ _ h1
variable {S:VS τ} {Sd:St}
theorem aHV {l:List IT} {z:BN τ l} (nid:Nat) (hm:Mo S Sd) (h:ITL.arr κ l S=some z):∃ ρ,Weak Sd (DB κ l nid z).toSt ρ∧(l.flatMap CY).Nodup∧∀ y∈Dd κ idn idn l z,Wk (Sd.get y.1) ((y.2.d (BS idn l z) []).ren ρ)∧(y.2.d (BS idn l z) []).refsIn (DB κ l nid z).toSt.okn=true:=by
 unfold ITL.arr at h
 rw [mL] at h
 split at h
 · rename_i z' hg
   obtain ⟨hc,h⟩:=aX h
   cases h
   generalize hρd:ITL.rn S (fun c=>S.nid+c) l []=ρ at hg hc
   simp only [aFv,Af] at hc
   obtain ⟨⟨hno,hrf,hgs⟩,hnr,hfx⟩:=hc
   replace hno:=rE hno
   replace hnr:=rE hnr
   obtain ⟨k4,k5⟩:=GW hg
   have hth:=aGA z hno
   have hkeys:((DB κ l nid z).toSt.H).map (·.1)=l.flatMap CY:=by
    rw [←EZ (κ:=κ) l z]; simp [VS.toSt,dH,Bz,Function.comp_def]
   have hok:∀ i∈l.flatMap CY,(DB κ l nid z).toSt.okn i=true:=fun i hi=>by
    unfold St.okn; rw [ITL.own_held z nid hno i hi]; rfl
   have hok2:∀ i∈l.flatMap HC,(DB κ l nid z).toSt.okn i=true:=fun i hi=>hok i (by simpa using AV.1 hrf i hi)
   have hsl:∀ y∈Dd κ idn idn l z,Wk (Sd.get y.1) ((y.2.d (BS idn l z) []).ren (ren ρ))∧(y.2.d (BS idn l z) []).refsIn (DB κ l nid z).toSt.okn=true:=fun y hy=>by
    obtain ⟨it,a,h1,h2,h4,h5⟩:=k4 y hy
    exact ⟨IT.sl_ok hm h2 (fun y hy=>hth y (h5 y hy)) y h4,IT.sls_in _ _ (fun x hx=>hok x (BQ.2 ⟨it,h1,hx⟩)) (fun x hx=>hok2 x (BQ.2 ⟨it,h1,hx⟩)) y h4⟩
   refine ⟨ren ρ,⟨AllW.of fun t d hd=>?_,AllW.of fun i en hi=>?_,?_,fun i hi=>?_⟩,hno,hsl⟩
   · obtain ⟨⟨t',sv⟩,hsv,he⟩:=AL.1 hd
     cases he
     exact .cw (hsl _ hsv).1 (hsl _ hsv).2
   · obtain ⟨⟨i',ve⟩,hve,he⟩:=AL.1 hi
     cases he
     obtain ⟨it,a,h1,h2,h4,h5⟩:=k5 _ hve
     have hin:=IT.ents_in (κ:=κ) (DB κ l nid z).toSt.okn (BS idn l z) (fun x hx=>hok x (BQ.2 ⟨it,h1,hx⟩)) (fun x hx=>hok2 x (BQ.2 ⟨it,h1,hx⟩)) _ h4
     rcases IT.ent_ok hm h2 (fun y hy=>hth y (h5 y hy)) _ h4 with ⟨e,ds,h6,h7⟩ | ⟨t,sz,n,h6,h7⟩
     · show EntW Sd _ (ren ρ) i' (ve.d (BS idn l z))
       simp only at h6 h7 hin
       rw [h6] at hin ⊢
       rcases h7 with ⟨ds',h7,h8⟩ | ⟨h7,rfl⟩
       · exact .cw h7 h8 hin
       · exact .nilb h7
     · show EntW Sd _ (ren ρ) i' (ve.d (BS idn l z))
       simp only at h6 h7
       rw [h6]
       rcases h7 with h7 | ⟨h7,rfl⟩
       · exact .tail h7
       · exact .nils h7
   · have:(DB κ l nid z).toSt.H.map (fun x=>ren ρ x.1)=((DB κ l nid z).toSt.H.map (·.1)).map (ren ρ):=by simp [Bz,Function.comp_def]
     rw [this,hkeys]; exact hnr
   · rcases rF (z:=i) (t:=i) (l:=ρ) with h1 | h1
     · exact h1
     · have:=AV.1 hfx _ h1
       rw [DT hi] at this
       simpa using this
 · cases h

theorem arr_ok {l:List IT} {z:BN τ l} (nid:Nat) (hm:Mt S Sd) (h:ITL.arr κ l S=some z) :
 ∃ ρ S',Weak Sd S' ρ∧Mt (DB κ l nid z) S' :=
 let ⟨ρ,hw,hno,_⟩:=aHV nid hm.mo h
 ⟨ρ,_,hw,ITL.st_mt κ l nid z hno⟩
end
end Go.IL
open Go.IL.AKL renaming ty → FF
open Go.IL.IT renaming slots → Ig
open Go.IL.RK renaming get → Hr,ty → Bb
open List renaming length_map → Bf,zip_cons_cons → Dq
namespace Go.IL
section
variable {R:Type} {C:Cx} {O:aR} {N:Nat} {r:R}

theorem aMQ {P:An} {root:Code} {Q:Exit→St→Prop} {p:List Nat} {S S':St} {ρ:Nat→Nat} (hw:Weak S S' ρ) (h:Atp P O N root Q p S'):Atp P O N root Q p S:=by
 unfold Atp at h ⊢
 split
 · rename_i c hc
   rw [hc] at h
   exact fun E β a hr=>let ⟨β',hr'⟩:=hr.weak hw; h E β' a hr'
 · rename_i hn
   split at h
   · rename_i c hc; exact AP hc (hn c)
   · exact aAC ρ hw h

structure Ct (C:Cx) (R:Type) where
 p:List Nat
 l:List IT
 nm:BN C.τ l→BN C.τ l
 nid:Nat
 f:BN C.τ l→Ad R
abbrev Ct.hd {C:Cx} {R:Type} (c:Ct C R) (h:BN C.τ c.l→Ad R):List Nat×(VS C.τ→Ad R):=(c.p,fun S=>match ITL.arr C.κ c.l S with
 | some z=>h z
 | none=>none)
abbrev hdF {C:Cx} {R:Type}:List (Ct C R)→Hd C.τ R
 | []=>[]
 | c::r=>c.hd (fun z=>c.f (c.nm z))::hdF r
abbrev hdL {C:Cx} {R:Type} (h:(c:Ct C R)→BN C.τ c.l→Ad R):List (Ct C R)→Hd C.τ R
 | []=>[]
 | c::r=>c.hd (h c)::hdL h r
abbrev hdR {C:Cx} {R:Type} (h:(c:Ct C R)→BN C.τ c.l→Ad R):List (Ct C R)→Hd C.τ R
 | []=>[]
 | c::r=>c.hd (fun z=>h c (c.nm z))::hdR h r
abbrev Ct.st {C:Cx} {R:Type} (c:Ct C R) (z:BN C.τ c.l):VS C.τ:=DB C.κ c.l c.nid (c.nm z)
def Snd (O:aR) (N:Nat) (root:Code) (Q:Exit→St→Prop) (r:R) (c:Ct C R):Prop :=
 ∀ z,c.f (c.nm z)=some r→∀ Sd,Mt (c.st z) Sd→Atp C.P O N root Q c.p Sd
def AllS (O:aR) (N:Nat) (root:Code) (Q:Exit→St→Prop) (r:R):List (Ct C R)→Prop
 | []=>True
 | c::l=>Snd O N root Q r c∧AllS O N root Q r l
theorem AllS.mem {root:Code} {Q:Exit→St→Prop}:∀ {l:List (Ct C R)},AllS O N root Q r l→∀ c∈l,Snd O N root Q r c
 | [],_,x,hx=>by cases hx
 | y::l,h,x,hx=>by
   cases hx with
   | head=>exact h.1
   | tail _ hx=>exact h.2.mem x hx
theorem aGX (cs:List (Ct C R)) (h:(c:Ct C R)→BN C.τ c.l→Ad R) (hh:∀ c z,h c (c.nm z)=c.f (c.nm z)):hdF cs=hdR h cs:=by
 induction cs with
 | nil=>rfl
 | cons c r ih =>
   have:(fun (z:BN C.τ c.l)=>c.f (c.nm z))=fun z=>h c (c.nm z):=by funext z; exact (hh c z).symm
   simp only [hdF,hdR] at ih ⊢
   rw [this,ih]
open Classical in
theorem hd_swap {A:Type} (cs:List (Ct C R)) (D:Hd C.τ R→A) (h2:∀ h,D (hdL h cs)=D (hdR h cs)) :
 ∃ h:(c:Ct C R)→BN C.τ c.l→Ad R,(∀ c z r,h c z=some r→∃ w,z=c.nm w∧c.f z=some r)∧D (hdL h cs)=D (hdF cs):=by
 refine ⟨fun c z=>if ∃ w,z=c.nm w then c.f z else none,fun c z r hh=>?_,?_⟩
 · by_cases hv:∃ w,z=c.nm w
   · simp only [Az hv] at hh; exact ⟨hv.choose,hv.choose_spec,hh⟩
   · simp only [Aq hv] at hh; cases hh
 · rw [h2,←aGX cs _ fun c z=>Az ⟨z,rfl⟩]
theorem aJk {h:(c:Ct C R)→BN C.τ c.l→Ad R}:∀ {cs:List (Ct C R)} {x:List Nat×(VS C.τ→Ad R)},x∈hdL h cs→∃ c∈cs,x=c.hd (h c)
 | [],x,hx=>by cases hx
 | c::r,x,hx=>by
   cases hx with
   | head=>exact ⟨c,by simp,rfl⟩
   | tail _ hx=>obtain ⟨c',h1,h2⟩:=aJk hx; exact ⟨c',BB _ h1,h2⟩
theorem aMh {root:Code} {Q:Exit→St→Prop} {h:(c:Ct C R)→BN C.τ c.l→Ad R} (hh:∀ c z r,h c z=some r→∃ w,z=c.nm w∧c.f z=some r) {cs:List (Ct C R)} (hs:AllS O N root Q r cs) :
 ∀ x∈hdL h cs,∀ S Sd,Mt S Sd→x.2 S=some r→Atp C.P O N root Q x.1 Sd:=by
 intro x hx S Sd hm hc
 obtain ⟨c,hcm,rfl⟩:=aJk hx
 simp only at hc
 split at hc
 · rename_i z hz
   obtain ⟨w,rfl,hf⟩:=hh _ _ _ hc
   obtain ⟨ρ,S',hw,hm'⟩:=arr_ok c.nid hm hz
   exact aMQ hw (hs.mem c hcm w hf S' hm')
 · cases hc

structure Fw (C:Cx) where
 fn:Func
 acx:List AK
 rs:List AK
abbrev Fw.root {C:Cx} (W:Fw C):Code:=W.fn.body.getD .skip
abbrev Fw.T {C:Cx} (W:Fw C):Type:=Bb C.τ W.rs
abbrev Fw.fin {C:Cx} (W:Fw C) (S:VS C.τ):Ad W.T:=match resE C S W.fn.results.toList with
 | some vs=>Hr C.κ S.Θ S.ent W.rs vs
 | none=>none
abbrev Fw.X {C:Cx} (W:Fw C) (hd:Hd C.τ W.T):Fx C W.T:=⟨W.root,W.fn.ntmps,hd,W.fin⟩
abbrev Fw.ini {C:Cx} (W:Fw C) (z:FF C.τ W.acx):VS C.τ:=⟨zipF 0 (Du C.κ W.acx z),[],[],[],0,false,[]⟩
@[irreducible] def pX:Nat:=100000

def Fw.Q {C:Cx} (W:Fw C) (r:W.T):Exit→St→Prop:=fun e S=>(e = .normal∨e = .ret)∧∃ rs0,aAc C.P S W.fn.results.toList rs0∧FDL S rs0 (Ck [] (DS C.κ W.rs r))

abbrev SndW {C:Cx} (W:Fw C) (O:aR) (r:W.T) (c:Ct C W.T):Prop:=Snd O W.fn.ntmps W.root (W.Q r) r c
abbrev aKm {C:Cx} (W:Fw C) (O:aR) (r:W.T) (cs:List (Ct C W.T)):Prop:=AllS O W.fn.ntmps W.root (W.Q r) r cs

theorem resV_ok {S:VS C.τ} {Sd:St} (hm:Mt S Sd) {x:ResultVar} {v:V C.τ} (h:resV C S x=some v):ResV C.P Sd x (v.d S.Θ):=by
 cases x with
 | tmp t =>
   simp only [resV] at h
   have hs:=hm.sl t
   split at h
   · rename_i w hw; cases h; rw [hw] at hs; rw [unl_d]; exact sv (x:=.tmp t) hs
   · rename_i i hi; cases h; rw [hi] at hs; exact sv (x:=.tmp t) hs
   · cases h
 | cell a T =>
   simp only [resV] at h
   have hs:=hm.sl a
   split at h
   · rename_i id off hv
     rw [hv] at hs
     split at h
     · rename_i i u t cs h1 h2 h3
       obtain ⟨hc,h⟩:=aX h
       obtain ⟨h4,h5⟩:=ble2 hc
       obtain ⟨w,h6,h7⟩:=aHx h S.Θ
       cases h6
       exact ⟨id,off,t,Ck S.Θ cs,u,_,i.size,_,sv (x:=.tmp a) hs,(hm.ent id).trans (by rw [h3]; try rfl),h2,yV h1,by rw [yP]; exact AR h5,h4,by rw [h7,zI]⟩
     · cases h
   · cases h
theorem aFT {S:VS C.τ} {Sd:St} (hm:Mt S Sd):∀ {l:List ResultVar} {vs:List (V C.τ)},resE C S l=some vs→aAc C.P Sd l (Ck S.Θ vs)
 | [],vs,h=>by simp only [resE,Option.some.injEq] at h; subst h; exact .nil
 | x :: l,vs,h=>by
   simp only [resE] at h
   split at h
   · rename_i v hv
     split at h
     · rename_i ws hw
       cases h
       exact .cons (resV_ok hm hv) (aFT hm hw)
     · cases h
   · cases h
theorem fin_ok (W:Fw C) {r:W.T} (hd:Hd C.τ W.T):FinOk (W.X hd) (W.Q r) r:=by
 intro S Sd hm h
 simp only [Fw.X,Fw.fin] at h
 split at h
 · rename_i vs hvs
   have:=aFT hm hvs
   have h2:=RK.get_fd (Θ':=[]) hm.mo h
   exact ⟨⟨.inl rfl,_,this,h2⟩,⟨.inr rfl,_,this,h2⟩⟩
 · cases h

theorem aFr {W:Fw C} {r:W.T} (hC:FsOk C) {cs:List (Ct C W.T)} (hX:aKm W O r cs) {q:List Nat} {S:VS C.τ} {F:Ad W.T} {Sd:St} {m:Nat} (hm:Mt S Sd)
 (h1:den (W.X (hdF cs)) m none q S=F) (h2:∀ h,den (W.X (hdL h cs)) m none q S=den (W.X (hdR h cs)) m none q S) (hF:F=some r) :
 IWP C.P O W.fn.ntmps (sub W.root q) Sd (post C.P O W.fn.ntmps W.root (W.Q r) q):=by
 obtain ⟨h,hh,he⟩:=hd_swap cs (fun hd=>den (W.X hd) m none q S) h2
 replace he:den (W.X (hdL h cs)) m none q S=some r:=he.trans (h1.trans hF)
 exact (aND (X:=W.X (hdL h cs)) hC (aMh hh hX) (fin_ok W (hdL h cs)) m).1 _ _ _ he hm
theorem bH {W:Fw C} {r:W.T} (hC:FsOk C) (c:Nat→Ct C W.T) (cs:Nat→List (Ct C W.T)) (hX:∀ n,SndW W O r (c n)→aKm W O r (cs n))
 (hp:∀ n,(match sub W.root (c n).p with | .loop _=>true | _=>false)=true:=by exact fun _=>rfl) (h0:∀ z,(c 0).f z=none:=by exact fun _=>rfl)
 (heq:∀ n z,den (W.X (hdF (cs n))) pX none (0::(c (n+1)).p) ((c (n+1)).st z)=(c (n+1)).f ((c (n+1)).nm z):=by intros; kernel_rfl)
 (hx:∀ n h z,den (W.X (hdL h (cs n))) pX none (0::(c (n+1)).p) ((c (n+1)).st z)=den (W.X (hdR h (cs n))) pX none (0::(c (n+1)).p) ((c (n+1)).st z):=by intros; kernel_rfl):∀ n,SndW W O r (c n):=by
 intro n
 induction n with
 | zero=>intro z h; rw [h0] at h; cases h
 | succ n ih =>
   intro z h Sd hm
   have h2:=aFr (cs:=cs n) (q:=0::(c (n+1)).p) (S:=(c (n+1)).st z) (F:=(c (n+1)).f ((c (n+1)).nm z)) (m:=pX) hC (hX n ih) hm (heq n z) (fun h=>hx n h z) h; clear heq hx
   have hp:=hp (n+1)
   unfold Atp
   split
   · rename_i b hc
     simp only [sub,post,hc,kid] at h2
     exact aGP h2
   · rename_i hn
     revert hp
     split
     · rename_i b hc; exact AP hc (hn b)
     · intro hp; cases hp
theorem fF {W:Fw C} {r:W.T} (hC:FsOk C) (c:Ct C W.T) (cs:List (Ct C W.T)) (hX:aKm W O r cs)
 (hp:(match sub W.root c.p with | .loop _=>false | _=>true)=true:=by exact rfl) (heq:∀ z,den (W.X (hdF cs)) pX none c.p (c.st z)=c.f (c.nm z):=by intros; kernel_rfl)
 (hx:∀ h z,den (W.X (hdL h cs)) pX none c.p (c.st z)=den (W.X (hdR h cs)) pX none c.p (c.st z):=by intros; kernel_rfl):SndW W O r c:=by
 intro z h Sd hm
 have h2:=aFr (cs:=cs) (q:=c.p) (S:=c.st z) (F:=c.f (c.nm z)) (m:=pX) hC hX hm (heq z) (fun h=>hx h z) h
 unfold Atp
 split
 · rename_i b hc; rw [hc] at hp; cases hp
 · exact h2

def CsOk (P:An) {τ:Nat→El} (κ:∀ e,Cod τ e) (f:BP) (c:CS τ):Prop:=bP P f∧∀ z r,c.F z=some r→eL P f (Ck [] (Du κ c.acx z)) (retD (Ck [] (DS κ c.rs r)))
def aKk (P:An) {τ:Nat→El} (κ:∀ e,Cod τ e):List (BP×CS τ)→Prop
 | []=>True
 | x::l=>CsOk P κ x.1 x.2∧aKk P κ l
theorem aKk.ok:∀ {l:List (BP×CS C.τ)},aKk C.P C.κ l→∀ x∈l,CsOk C.P C.κ x.1 x.2
 | [],_,x,hx=>by cases hx
 | y::l,h,x,hx=>by
   cases hx with
   | head=>exact h.1
   | tail _ hx=>exact h.2.ok x hx

theorem aMT (Θ:Th C.τ) (Γ:Ga):∀ (n:Nat) (vs:List (V C.τ)),dS Θ Γ (zipF n vs)=(Db n (Ck Θ vs).length).zip (Ck Θ vs)
 | _,[]=>rfl
 | n,v::r=>by
   have:=aMT Θ Γ (n+1) r
   simp only [dS,zipF,AB,Ck,Ao,CM,Dq] at this ⊢
   rw [this]; try rfl
theorem aM7 {W : Fw C} (hC : FsOk C) {f : BP} (hf : C.P.funcs[f]? = some W.fn) (hcl : (W.fn.name == "runtime.NumGoroutine") = false) (hb : W.fn.body.isSome = true) (hlen : AT W.acx.length W.fn.ntmps = true)
 {F:FF C.τ W.acx→Ad W.T} (cs:List (Ct C W.T)) (heq:∀ z,den (W.X (hdF cs)) pX none [] (W.ini z)=F z)
 (hx:∀ h z,den (W.X (hdL h cs)) pX none [] (W.ini z)=den (W.X (hdR h cs)) pX none [] (W.ini z))
 (hX:∀ O r,O.Plain→aKm W O r cs):CsOk C.P C.κ f ⟨W.acx,W.rs,F⟩:=by
 obtain ⟨c,hc⟩:=EG.1 hb
 have hroot:W.root=c:=by simp [Fw.root,hc]
 refine ⟨⟨W.fn,hf,hcl,by rw [hc]; rfl⟩,fun (z:FF C.τ W.acx) (r:W.T) (h:F z=some r)=>?_⟩
 have hl:∀ (acx:List AK) (z:FF C.τ acx),(Ck [] (Du C.κ acx z)).length=acx.length:=by
  intro acx
  induction acx with
  | nil=>intro z; rfl
  | cons a acx ih=>intro z; simp only [Du,Ck,Ao,ih]
 refine pP hf hc rfl (by rw [hl]; exact AR hlen) (RK.put_nr _ _ _) fun O hO=>?_
 have hm:Mt (W.ini z) ⟨(Bx (Ck [] (Du C.κ W.acx z)).length).zip (Ck [] (Du C.κ W.acx z)),[]⟩:=by
  have:=aIM (S:=W.ini z) rfl (fun p hp=>by cases hp) (fun i t e c l he=>by
   have:(W.ini z).ent i=defV i:=rfl
   rw [this] at he
   unfold defV at he
   cases hb:AT 1000 i <;> rw [hb] at he <;> cases he)
  have he:(W.ini z).toSt=⟨(Bx (Ck [] (Du C.κ W.acx z)).length).zip (Ck [] (Du C.κ W.acx z)),[]⟩:=by
   simp only [VS.toSt,Fw.ini,aMT,Cz]
   rfl
  rwa [he] at this
 have h2:=aFr (cs:=cs) (q:=[]) (S:=W.ini z) (F:=F z) (m:=pX) hC (hX O r hO) hm (heq z) (fun h=>hx h z) h
 have h3:IWP C.P O W.fn.ntmps W.root _ (W.Q r):=h2
 rw [hroot] at h3
 exact h3
abbrev kI:AK:=.one (.int .i64)
abbrev kB:AK:=.one .bool
abbrev kS:AK:=.one .str
abbrev fits (fn : Func) (acx : List AK) : Bool := !(fn.name == "runtime.NumGoroutine") && (fn.body.isSome && AT acx.length fn.ntmps)
theorem aJy {fn : Func} {acx : List AK} (h : fits fn acx = true) : (fn.name == "runtime.NumGoroutine") = false ∧ fn.body.isSome = true ∧ AT acx.length fn.ntmps = true := by
 unfold fits at h
 rw [Af,Af,CO] at h
 exact h
theorem bR {W:Fw C} (hC:FsOk C) {f:BP} (hf:C.P.funcs[f]? = some W.fn) (hb:fits W.fn W.acx=true)
 {F:FF C.τ W.acx→Ad W.T} (cs:List (Ct C W.T)) (hX:∀ O r,O.Plain→aKm W O r cs) (heq:∀ z,den (W.X (hdF cs)) pX none [] (W.ini z)=F z:=by intros; kernel_rfl)
 (hx:∀ h z,den (W.X (hdL h cs)) pX none [] (W.ini z)=den (W.X (hdR h cs)) pX none [] (W.ini z):=by intros; kernel_rfl):CsOk C.P C.κ f ⟨W.acx,W.rs,F⟩:=by
 obtain ⟨a,b,c⟩:=aJy hb
 exact aM7 hC hf a b c cs heq hx hX
structure Fh (C:Cx) where
 fn:Func
 h:HS C.τ
abbrev Fh.root {C:Cx} (W:Fh C):Code:=W.fn.body.getD .skip
abbrev Fh.T {C:Cx} (W:Fh C):Type:=W.h.R
abbrev Fh.fin {C:Cx} (W:Fh C) (hf:BN C.τ W.h.o→Ad W.T) (S:VS C.τ):Ad W.T:=match resE C S W.fn.results.toList with
 | some vs=>match ITL.arr C.κ W.h.o (S.arg vs) with
   | some y=>hf y
   | none=>none
 | none=>none
abbrev Fh.X {C:Cx} (W:Fh C) (hd:Hd C.τ W.T) (hf:BN C.τ W.h.o→Ad W.T):Fx C W.T:=⟨W.root,W.fn.ntmps,hd,W.fin hf⟩
abbrev Fh.F {C:Cx} (W:Fh C) (y:BN C.τ W.h.o):Ad W.T:=some (W.h.mak y)
abbrev Fh.Nm {C:Cx} (W:Fh C) (z:BN C.τ W.h.l) (hf:BN C.τ W.h.o→Ad W.T) (y:BN C.τ W.h.o):Ad W.T:=hf (W.h.un z (W.h.mak y))
def Fh.Q {C:Cx} (W:Fh C) (z:BN C.τ W.h.l) (r:W.T):Exit→St→Prop:=fun e S=>(e = .normal∨e = .ret)∧∃ ρ,Weak S ⟨[],W.h.H1 C.κ (W.h.un z r)⟩ ρ∧(∃ ds0,aAc C.P S W.fn.results.toList ds0∧WkL ds0 (BV ρ (W.h.ret C.κ (W.h.un z r))))∧AG (St.okn ⟨[],W.h.H1 C.κ (W.h.un z r)⟩) (W.h.ret C.κ (W.h.un z r))=true
abbrev SndH {C:Cx} (W:Fh C) (z:BN C.τ W.h.l) (O:aR) (r:W.T) (c:Ct C W.T):Prop:=Snd O W.fn.ntmps W.root (W.Q z r) r c
abbrev AllH {C:Cx} (W:Fh C) (z:BN C.τ W.h.l) (O:aR) (r:W.T) (cs:List (Ct C W.T)):Prop:=AllS O W.fn.ntmps W.root (W.Q z r) r cs
theorem EntW.cong {S1 S2 T1 T2:St} {ρ:Nat→Nat} {i:Nat} {e:Ent} (h:EntW S1 S2 ρ i e) (h1:T1.ent=S1.ent) (h2:T2.okn=S2.okn):EntW T1 T2 ρ i e:=by
 cases h with
 | blk h hd hr=>exact .blk (h1 ▸ h) hd (h2 ▸ hr)
 | cw h hd hr=>exact .cw (h1 ▸ h) hd (h2 ▸ hr)
 | sub h hd hr=>exact .sub (h1 ▸ h) hd (h2 ▸ hr)
 | tail h=>exact .tail (h1 ▸ h)
 | nils h=>exact .nils (h1 ▸ h)
 | nilb h=>exact .nilb (h1 ▸ h)
 | loop h hd hr=>exact .loop (h1 ▸ h) hd (h2 ▸ hr)
 | kept h hd hr=>exact .kept (h1 ▸ h) hd (h2 ▸ hr)
theorem finH_ok (W:Fh C) (z:BN C.τ W.h.l) {r:W.T} (hd:Hd C.τ W.T) {hf:BN C.τ W.h.o→Ad W.T} (hh:∀ y r,hf y=some r→y=W.h.un z r) (hw8:W.h.o.flatMap Ig=Bx W.h.rs) (hrs:W.fn.results.toList.length=W.h.rs):FinOk (W.X hd hf) (W.Q z r) r:=by
 intro S Sd hm h
 simp only [Fh.X,Fh.fin] at h
 split at h
 · rename_i vs hvs
   split at h
   · rename_i y hy
     have:=hh _ _ h
     subst this
     have hres:=aFT hm hvs
     have hma:Mo (S.arg vs) ⟨dS S.Θ S.Γ (zipF 0 vs),Sd.H⟩:=⟨fun t=>.inl (sR (fun s:Sv C.τ=>s.d S.Θ S.Γ) (.v .dead) t (zipF 0 vs)),hm.mo.ent,hm.mo.len⟩
     obtain ⟨ρ,hw,hno,hsl⟩:=aHV 0 hma hy
     have hlen:vs.length=W.h.rs:=by
      have : ∀ (l:List ResultVar) (vs:List (V C.τ)),resE C S l=some vs→vs.length=l.length:=by
       intro l
       induction l with
       | nil=>intro vs h; simp only [resE,Option.some.injEq] at h; subst h; rfl
       | cons x l ih =>
         intro vs h
         simp only [resE] at h
         split at h
         · split at h
           · rename_i hq; cases h; simp only [Ao,ih _ hq]
           · cases h
         · cases h
      rw [this _ _ hvs,hrs]
     have hk:(Dd C.κ idn idn W.h.o (W.h.un z r)).map (·.1)=Db 0 vs.length:=by rw [EL,hw8,hlen,Cz]
     have hwk:=aIF (Θ:=S.Θ) (Γ:=S.Γ) 0 vs ((Dd C.κ idn idn W.h.o (W.h.un z r)).map fun x=>(x.1,(x.2.d (BS idn W.h.o (W.h.un z r)) []).ren ρ)) (by rw [Bz]; exact hk) (fun y hy=>by
      obtain ⟨x,hx,rfl⟩:=AL.1 hy
      have g6:=(hsl x hx).1
      have g8:(⟨dS S.Θ S.Γ (zipF 0 vs),Sd.H⟩:St).get x.1=(look (Sv.v V.dead:Sv C.τ) x.1 (zipF 0 vs)).d S.Θ S.Γ:=sR (fun s:Sv C.τ=>s.d S.Θ S.Γ) (.v .dead) x.1 (zipF 0 vs)
      rw [g8] at g6
      exact g6)
     have fin:∃ ρ,Weak Sd ⟨[],W.h.H1 C.κ (W.h.un z r)⟩ ρ∧(∃ ds0,aAc C.P Sd W.fn.results.toList ds0∧WkL ds0 (BV ρ (W.h.ret C.κ (W.h.un z r))))∧AG (St.okn ⟨[],W.h.H1 C.κ (W.h.un z r)⟩) (W.h.ret C.κ (W.h.un z r))=true:=by
      refine ⟨ρ,⟨.nil,AllW.of fun i e hi=>(hw.ent.mem i e hi).cong rfl rfl,hw.inj,hw.fixed⟩,⟨_,hres,?_⟩,?_⟩
      · rw [HS.ret,aC6,Bz,dS,Bz]
        rw [Bz] at hwk
        exact hwk
      · refine vS _ fun d hd=>?_
        obtain ⟨x1,hx1,rfl⟩:=AL.1 hd
        obtain ⟨x,hx,rfl⟩:=AL.1 hx1
        exact (hsl x hx).2
     exact ⟨⟨.inl rfl,fin⟩,⟨.inr rfl,fin⟩⟩
   · cases h
 · cases h
abbrev Fh.wf {C:Cx} (W:Fh C):Bool:=W.h.wf&&Aj W.fn.results.toList.length W.h.rs
open Classical in
theorem aDm {W:Fh C} (hW:W.wf=true) {z:BN C.τ W.h.l} (hmk:∀ r,W.h.mak (W.h.un z r)=r) {r:W.T} (hC:FsOk C) {cs:List (Ct C W.T)} (hX:AllH W z O r cs) {q:List Nat} {S:VS C.τ} {F:Ad W.T} {Sd:St} {m:Nat} (hm:Mt S Sd)
 (h1:den (W.X (hdF cs) W.F) m none q S=F) (h2:∀ h hf,den (W.X (hdL h cs) hf) m none q S=den (W.X (hdR h cs) (W.Nm z hf)) m none q S) (hF:F=some r) :
 IWP C.P O W.fn.ntmps (sub W.root q) Sd (post C.P O W.fn.ntmps W.root (W.Q z r) q):=by
 simp only [Fh.wf,Af,Br] at hW
 obtain ⟨hwf,hrs⟩:=hW
 simp only [HS.wf,Af,decide_eq_true_eq] at hwf
 let hf0:BN C.τ W.h.o→Ad W.T:=fun y=>if y=W.h.un z (W.h.mak y) then some (W.h.mak y) else none
 have e1:W.Nm z hf0=W.F:=by
  funext y
  show (if _=_ then _ else _)=_
  rw [Az (by rw [hmk]),hmk]
 have h3:∀ h,den (W.X (hdL h cs) hf0) m none q S=den (W.X (hdR h cs) W.F) m none q S:=fun h=>by rw [h2 h hf0,e1]
 let h0:(c:Ct C W.T)→BN C.τ c.l→Ad W.T:=fun c z=>if ∃ w,z=c.nm w then c.f z else none
 have hh:∀ c z r,h0 c z=some r→∃ w,z=c.nm w∧c.f z=some r:=fun c z r hh=>by
  by_cases hv:∃ w,z=c.nm w
  · simp only [h0,Az hv] at hh; exact ⟨hv.choose,hv.choose_spec,hh⟩
  · simp only [h0,Aq hv] at hh; cases hh
 have he:den (W.X (hdL h0 cs) hf0) m none q S=some r:=by
  rw [h3,←aGX cs h0 fun c z=>Az ⟨z,rfl⟩]; exact h1.trans hF
 have hff:∀ y r,hf0 y=some r→y=W.h.un z r:=fun y r hy=>by
  by_cases hv:y=W.h.un z (W.h.mak y)
  · simp only [hf0,Az hv,Option.some.injEq] at hy
    rw [←hy]; exact hv
  · simp only [hf0,Aq hv] at hy; cases hy
 exact (aND (X:=W.X (hdL h0 cs) hf0) hC (aMh hh hX) (finH_ok W z (hdL h0 cs) hff hwf.2.2.1.2 hrs) m).1 _ _ _ he hm
theorem aE6 {W:Fh C} (hW:W.wf=true) {z0:BN C.τ W.h.l} (hmk:∀ r,W.h.mak (W.h.un z0 r)=r) {r:W.T} (hC:FsOk C) (c:Nat→Ct C W.T) (cs:Nat→List (Ct C W.T))
 (hp:∀ n,(match sub W.root (c n).p with | .loop _=>true | _=>false)=true) (h0:∀ z,(c 0).f z=none) (heq:∀ n z,den (W.X (hdF (cs n)) W.F) pX none (0::(c (n+1)).p) ((c (n+1)).st z)=(c (n+1)).f ((c (n+1)).nm z))
 (hx:∀ n h hf z,den (W.X (hdL h (cs n)) hf) pX none (0::(c (n+1)).p) ((c (n+1)).st z)=den (W.X (hdR h (cs n)) (W.Nm z0 hf)) pX none (0::(c (n+1)).p) ((c (n+1)).st z))
 (hX:∀ n,SndH W z0 O r (c n)→AllH W z0 O r (cs n)):∀ n,SndH W z0 O r (c n):=by
 intro n
 induction n with
 | zero=>intro z h; rw [h0] at h; cases h
 | succ n ih =>
   intro z h Sd hm
   have h2:=aDm (cs:=cs n) (q:=0::(c (n+1)).p) (S:=(c (n+1)).st z) (F:=(c (n+1)).f ((c (n+1)).nm z)) (m:=pX) hW hmk hC (hX n ih) hm (heq n z) (fun h hf=>hx n h hf z) h; clear heq hx
   have hp:=hp (n+1)
   unfold Atp
   split
   · rename_i b hc
     simp only [sub,post,hc,kid] at h2
     exact aGP h2
   · rename_i hn
     revert hp
     split
     · rename_i b hc; exact AP hc (hn b)
     · intro hp; cases hp
theorem aKE {W:Fh C} (hW:W.wf=true) {z0:BN C.τ W.h.l} (hmk:∀ r,W.h.mak (W.h.un z0 r)=r) {r:W.T} (hC:FsOk C) (c:Ct C W.T) (cs:List (Ct C W.T))
 (hp:(match sub W.root c.p with | .loop _=>false | _=>true)=true) (heq:∀ z,den (W.X (hdF cs) W.F) pX none c.p (c.st z)=c.f (c.nm z))
 (hx:∀ h hf z,den (W.X (hdL h cs) hf) pX none c.p (c.st z)=den (W.X (hdR h cs) (W.Nm z0 hf)) pX none c.p (c.st z))
 (hX:AllH W z0 O r cs):SndH W z0 O r c:=by
 intro z h Sd hm
 have h2:=aDm (cs:=cs) (q:=c.p) (S:=c.st z) (F:=c.f (c.nm z)) (m:=pX) hW hmk hC hX hm (heq z) (fun h hf=>hx h hf z) h
 unfold Atp
 split
 · rename_i b hc; rw [hc] at hp; cases hp
 · exact h2
def aKj (P:An) {τ:Nat→El} (κ:∀ e,Cod τ e):List (BP×HS τ)→Prop
 | []=>True
 | x::l=>HsOk κ P x.1 x.2∧aKj P κ l
theorem aKj.ok {P:An} {τ:Nat→El} {κ:∀ e,Cod τ e}:∀ {l:List (BP×HS τ)},aKj P κ l→∀ x∈l,HsOk κ P x.1 x.2
 | [],_,x,hx=>by cases hx
 | y::l,h,x,hx=>by
   cases hx with
   | head=>exact h.1
   | tail _ hx=>exact h.2.ok x hx
theorem FsOk.of (h1:aKk C.P C.κ C.fs) (h2:aKj C.P C.κ C.hs):FsOk C:=⟨h1.ok,h2.ok⟩
theorem aV (C:Cx) {fn:Func} {f:BP} {s:CS C.τ} (h1:aKk C.P C.κ C.fs) (h2:aKj C.P C.κ C.hs) (hf:C.P.funcs[f]? = some fn) (hb:fits fn s.acx=true)
 (heq:∀ z,den (Fw.X (C:=C) ⟨fn,s.acx,s.rs⟩ (hdF [])) pX none [] (Fw.ini (C:=C) ⟨fn,s.acx,s.rs⟩ z)=s.F z:=by intros; kernel_rfl):CsOk C.P C.κ f s:=by
 obtain ⟨a,b,c⟩:=aJy hb
 exact aM7 (C:=C) (W:=⟨fn,s.acx,s.rs⟩) (FsOk.of h1 h2) hf a b c [] heq (fun h z=>Bv (fun H=>den (Fw.X (C:=C) ⟨fn,s.acx,s.rs⟩ H) pX none [] (Fw.ini (C:=C) ⟨fn,s.acx,s.rs⟩ z)) (show hdL h []=hdR h [] from rfl)) (fun _ _ _=>trivial)
theorem aF1 {α β:Type}:∀ (l:List (α×β)),(l.map (·.1)).zip (l.map (·.2))=l
 | []=>rfl
 | a::l=>by simp only [AB,Dq,aF1 l]
theorem uP {W : Fh C} (hW : W.wf = true) (hmk : ∀ z r, W.h.mak (W.h.un z r) = r) (hC : FsOk C) {f : BP} (hf : C.P.funcs[f]? = some W.fn) (hcl : (W.fn.name == "runtime.NumGoroutine") = false) (hb : W.fn.body.isSome = true) (hlen : AT W.h.acx W.fn.ntmps = true)
 (cs:BN C.τ W.h.l→List (Ct C W.T)) (heq:∀ z,den (W.X (hdF (cs z)) W.F) pX none [] (DB C.κ W.h.l 0 z)=W.h.F z)
 (hx:∀ h hf z,den (W.X (hdL h (cs z)) hf) pX none [] (DB C.κ W.h.l 0 z)=den (W.X (hdR h (cs z)) (W.Nm z hf)) pX none [] (DB C.κ W.h.l 0 z))
 (hX:∀ z O r,O.Plain→AllH W z O r (cs z)):HsOk C.κ C.P f W.h:=by
 obtain ⟨c,hc⟩:=EG.1 hb
 have hroot:W.root=c:=by simp [Fh.root,hc]
 obtain ⟨hwf,hrs⟩:=Bool.and_eq_true_iff.1 hW
 refine ⟨⟨W.fn,hf,hcl,by rw [hc]; rfl⟩,hwf,fun z r h=>?_⟩
 simp only [HS.wf,Af,decide_eq_true_eq,aFv] at hwf
 obtain ⟨⟨⟨w1,_⟩,_⟩,_,⟨w9,_⟩,_⟩:=hwf
 have hl:(W.h.ds C.κ z).length=W.h.acx:=by
  have:=Bv DH (EL (κ:=C.κ) idn idn W.h.l z)
  rw [w9] at this
  simp only [Bf,List.length_range] at this
  simp [HS.ds,dS,this]
 refine aB3 hf hc rfl (by rw [hl]; exact AR hlen) fun O hO=>?_
 have hm:=ITL.st_mt C.κ W.h.l 0 z (rE w1)
 have he:(DB C.κ W.h.l 0 z).toSt=⟨(Bx (W.h.ds C.κ z).length).zip (W.h.ds C.κ z),W.h.H0 C.κ z⟩:=by
  have h1:(dS (BS idn W.h.l z) [] (Dd C.κ idn idn W.h.l z)).map (·.1)=Bx (W.h.ds C.κ z).length:=by
   rw [hl,←w9,←EL (κ:=C.κ) idn idn W.h.l z]; simp [dS,Bz,Function.comp_def]
  rw [←h1]
  show (⟨_,_⟩:St)=⟨_,_⟩
  congr 1
  exact (aF1 _).symm
 rw [he] at hm
 have h2:=aDm (cs:=cs z) (q:=[]) (S:=DB C.κ W.h.l 0 z) (F:=W.h.F z) (m:=pX) hW (hmk z) hC (hX z O r hO) hm (heq z) (fun h hf=>hx h hf z) h
 have h3:IWP C.P O W.fn.ntmps W.root _ (W.Q z r):=h2
 rw [hroot] at h3
 exact h3
theorem CsOk.of {P:An} {τ:Nat→El} {κ:∀ e,Cod τ e} {f:BP} {c:CS τ} (h0:bP P f) (h:∀ z r,c.F z=some r→∃ ds d,eL P f ds d∧ds=Ck [] (Du κ c.acx z)∧d=retD (Ck [] (DS κ c.rs r))):CsOk P κ f c :=
 ⟨h0,fun z r hF=>let ⟨_,_,h1,h2,h3⟩:=h z r hF; h2 ▸ h3 ▸ h1⟩
theorem CsOk.to {P:An} {τ:Nat→El} {κ:∀ e,Cod τ e} {f:BP} {c:CS τ} (h:CsOk P κ f c) (z:FF τ c.acx) (r:Bb τ c.rs) (hF:c.F z=some r) {ds:List D} {d:D} (h1:Ck [] (Du κ c.acx z)=ds) (h2:retD (Ck [] (DS κ c.rs r))=d):eL P f ds d :=
 h1 ▸ h2 ▸ h.2 z r hF
theorem HsOk.of {P:An} {τ:Nat→El} {κ:∀ e,Cod τ e} {f:BP} {h:HS τ} (h0:bP P f) (hw:h.wf=true) (hh:∀ z y,h.F z=some y→∃ ds H0 d H1,FnH P f ds H0 d H1∧ds=h.ds κ z∧H0=h.H0 κ z∧d=retD (h.ret κ (h.un z y))∧H1=h.H1 κ (h.un z y)):HsOk κ P f h :=
 ⟨h0,hw,fun z y hF=>let ⟨_,_,_,_,h1,h2,h3,h4,h5⟩:=hh z y hF; h2 ▸ h3 ▸ h4 ▸ h5 ▸ h1⟩
theorem HsOk.to {P:An} {τ:Nat→El} {κ:∀ e,Cod τ e} {f:BP} {h:HS τ} (hh:HsOk κ P f h) (z:BN τ h.l) (y:h.R) (hF:h.F z=some y) {ds:List D} {H0 H1:List (Nat×Ent)} {d:D} (h1:h.ds κ z=ds) (h2:h.H0 κ z=H0) (h3:retD (h.ret κ (h.un z y))=d) (h4:h.H1 κ (h.un z y)=H1):FnH P f ds H0 d H1 :=
 h1 ▸ h2 ▸ h3 ▸ h4 ▸ hh.2.2 z y hF
end
end Go.IL
open Go.IntKind renaming wrap → Ab
open Go Go.IL
namespace Go.Fn
structure aW where
 ID:Int
 ce:Int
 deriving DecidableEq,Inhabited
def cP:Enc aW:=⟨⟨fun x=>.agg [.int .i64 x.ID,.int .i64 x.ce],2,by decide,fun _=>⟨rfl,rfl⟩⟩,fun _=>rfl⟩
structure aA where
 aq:Int
 bp:Bool
 bg:Int
 bj:Int
 cb:Int
 bo:Int
 N:Int
 Code:Int
 au:(List aW)
 aj:(List Ai)
 deriving DecidableEq,Inhabited
def bB:Enc aA:=⟨⟨fun x=>.agg [.int .u8 x.aq,.bool x.bp,.int .i64 x.bg,.int .i64 x.bj,.int .i64 x.cb,.int .i64 x.bo,.int .i64 x.N,.int .i64 x.Code,.slice false (x.au.map cP.d),.str x.aj],10,by decide,fun _=>⟨rfl,rfl⟩⟩,fun _=>rfl⟩

variable [Fu]
def oB (a0:aA):Ad Bool :=
 bnd (decide ((a0.au.length:Int)≤10)) fun x1 =>
 bnd (decide ((a0.aj.length:Int)≤100)) fun x2 =>
 bnd (x1&&x2) fun x3 =>
 some x3

def wE (a0:Int):Ad Bool :=
 bnd (decide (a0≤10)) fun x1 =>
 bnd (!decide (a0=5)) fun x2 =>
 bnd (x1&&x2) fun x3 =>
 some x3

def rH (a0:Int) (a1:Int) (a2:Int):Ad Bool :=
 bnd (decide (a1≤a0)) fun x1 =>
 bnd (decide (a0≤a2)) fun x2 =>
 bnd (x1&&x2) fun x3 =>
 some x3

def lO (a0:aW):Ad Bool :=
 bno (rH a0.ID 0 1099511627776) fun x1 =>
 bno (gd ((!x1) == false) (rH a0.ce 0 1099511627776) default) fun x2 =>
 bnd ((!x1)||(!x2)) fun x3 =>
 some x3

def bV (a0:(List aW)):Nat→Int→Ad Int
 | 0,_=>none
 | n0 + 1,v7 =>
   bnd (decide (v7<(a0.length:Int))) fun x14 =>
   bif x14 then (
    bno (gix a0 v7) fun x16 =>
    bno (lO x16) fun x17 =>
    bif x17 then (
     some v7
    ) else (
      bnd (Ab .i64 (v7+1)) fun x19 =>
      (bV a0 n0) x19
    )
   ) else (
     some (-1)
   )
def dV (a0:(List aW)):Ad Int :=
 bV a0 fuel 0

def cM (a0:(List aW)):Ad Bool :=
 bno (dV a0) fun x1 =>
 bnd (decide (0≤x1)) fun x2 =>
 some x2

def eT (a0:aA) (v15:Int) (v16:Int) (v17:Int):Ad Bool :=
 bno (cM a0.au) fun x18 =>
 bno (gd (x18 == false) (rH a0.N v15 v16) default) fun x19 =>
 bnd (x18||(!x19)) fun x20 =>
 bno (gd (x20 == false) (rH a0.Code 0 v17) default) fun x21 =>
 bnd (x20||(!x21)) fun x22 =>
 bif x22 then (
  some false
 ) else (
   bno (rH a0.bg 0 1048576) fun x24 =>
   bno (gd (x24 == true) (rH a0.cb 0 1048576) default) fun x25 =>
   bnd (x24&&x25) fun x26 =>
   bno (gd (x26 == true) (rH a0.bj 0 1099511627776) default) fun x27 =>
   bnd (x26&&x27) fun x28 =>
   some x28
 )
def lH (a0:aA) (v36:Bool):Ad Bool :=
 bif v36 then (
  bno (rH a0.bo 1 256) fun x38 =>
  bif (!x38) then (
   some false
  ) else (
    eT a0 0 1099511627776 255
  )
 ) else (
   eT a0 0 1099511627776 255
 )
def nC (a0:aA):Ad Bool :=
 bnd (decide (a0.aq=8)) fun x29 =>
 bif x29 then (
  eT a0 1 1099511627776 255
 ) else (
   bnd (decide (a0.aq=10)) fun x31 =>
   bif x31 then (
    eT a0 0 3 1
   ) else (
     bnd (decide (a0.aq=1)) fun x40 =>
     bif x40 then (
      lH a0 x40
     ) else (
       bnd (decide (a0.aq=2)) fun x42 =>
       lH a0 x42
     )
   )
 )

def fS (v26:(List Nat)):Ad (List Nat) :=
 bno (app 8 v26 ([6]:(List Nat))) fun x27 =>
 some x27
def eU (a0 : aA) : Ad (List Nat) :=
 bnd (decide (a0.aq=0)) fun x28 =>
 bif x28 then (
  bno (app 8 ([]:(List Nat)) ([2,3]:(List Nat))) fun x30 =>
  some x30
 ) else (
   bnd (decide (a0.aq=9)) fun x31 =>
   bif x31 then (
    bno (app 8 ([]:(List Nat)) ([2,3]:(List Nat))) fun x33 =>
    some x33
   ) else (
     bnd (decide (a0.aq=1)) fun x34 =>
     bif x34 then (
      bno (app 8 ([]:(List Nat)) ([2,4,5]:(List Nat))) fun x36 =>
      some x36
     ) else (
       bnd (decide (a0.aq=2)) fun x37 =>
       bif x37 then (
        bno (app 8 ([]:(List Nat)) ([2,4,5]:(List Nat))) fun x39 =>
        some x39
       ) else (
         bnd (decide (a0.aq=3)) fun x40 =>
         bif x40 then (
          bno (app 8 ([]:(List Nat)) ([2,6,7]:(List Nat))) fun x42 =>
          some x42
         ) else (
           bnd (decide (a0.aq=7)) fun x43 =>
           bif x43 then (
            bno (app 8 ([]:(List Nat)) ([2,7]:(List Nat))) fun x45 =>
            some x45
           ) else (
             bnd (decide (a0.aq=8)) fun x46 =>
             bif x46 then (
              bno (app 8 ([]:(List Nat)) ([2]:(List Nat))) fun x48 =>
              fS x48
             ) else (
               bnd (decide (a0.aq=6)) fun x49 =>
               bif x49 then (
                fS ([]:(List Nat))
               ) else (
                 bnd (decide (a0.aq=10)) fun x51 =>
                 bif x51 then (
                  bno (app 8 ([]:(List Nat)) ([6,7]:(List Nat))) fun x53 =>
                  some x53
                 ) else (
                   some ([]:(List Nat))
                 )
               )
             )
           )
         )
       )
     )
   )
 )

def qP (a0 : Int):Ad Bool :=
 bnd (decide (a0=0)) fun x1 =>
 bif x1 then (
  some true
 ) else (
   bnd (decide (a0=1)) fun x3 =>
   bif x3 then (
    some true
   ) else (
     bnd (decide (a0=2)) fun x5 =>
     bif x5 then (
      some true
     ) else (
       bnd (decide (a0=4)) fun x7 =>
       bif x7 then (
        some true
       ) else (
         bnd (decide (a0=6)) fun x9 =>
         bif x9 then (
          some true
         ) else (
           bnd (decide (a0=9)) fun x11 =>
           bif x11 then (
            some true
           ) else (
             some false
           )
         )
       )
     )
   )
 )

def eV (a0:aA) (v9:Int) (v10:Int) (v11:Int) (v12:Int) (v13:Int) (v14:Int) (v32:(List aW)) (v33:(List Ai)):Ad aA :=
 bno (qP a0.aq) fun x34 =>
 bif x34 then (
  some (⟨a0.aq,false,v9,v10,v11,v12,v13,v14,v32,v33⟩:aA)
 ) else (
   some (⟨a0.aq,a0.bp,v9,v10,v11,v12,v13,v14,v32,v33⟩:aA)
 )
def dY (a0:aA) (x1:(List Nat)):Nat→Int→Int→Int→Int→Int→Int→Int→Ad aA
 | 0,_,_,_,_,_,_,_=>none
 | n0 + 1,v8,v9,v10,v11,v12,v13,v14 =>
   bnd (decide (v8<(x1.length:Int))) fun x21 =>
   bif x21 then (
    bno (gix x1 v8) fun x23 =>
    bno (x1[(v8:Int).toNat]?) fun x24 =>
    bno (aDj [none,none,some v9,some v10,some v11,some v12,some v13,some v14,none,none] x24) fun x25 =>
    bnd (Ab .i64 (v8+1)) fun x26 =>
    (dY a0 x1 n0) x26 (bif Aj x24 2 then 0 else v9) (bif Aj x24 3 then 0 else v10) (bif Aj x24 4 then 0 else v11) (bif Aj x24 5 then 0 else v12) (bif Aj x24 6 then 0 else v13) (bif Aj x24 7 then 0 else v14)
   ) else (
     bnd (decide (a0.aq=0)) fun x36 =>
     bif x36 then (
      eV a0 v9 v10 v11 v12 v13 v14 a0.au ([]:(List Ai))
     ) else (
       bnd (decide (a0.aq=4)) fun x38 =>
       bif x38 then (
        bif (!a0.bp) then (
         eV a0 v9 v10 v11 v12 v13 v14 ([]:(List aW)) a0.aj
        ) else (
          eV a0 v9 v10 v11 v12 v13 v14 a0.au a0.aj
        )
       ) else (
         eV a0 v9 v10 v11 v12 v13 v14 a0.au a0.aj
       )
     )
   )
def kK (a0:aA):Ad aA :=
 bno (eU a0) fun x1 =>
 dY a0 x1 fuel 0 a0.bg a0.bj a0.cb a0.bo a0.N a0.Code

def dC (a0:(List aW)) (a1:(List aW)):Nat→Int→Ad Bool
 | 0,_=>none
 | n0 + 1,v10 =>
   bnd (decide (v10<(a0.length:Int))) fun x18 =>
   bif x18 then (
    bno (gix a0 v10) fun x20 =>
    bno (gix a1 v10) fun x21 =>
    bnd ((decide (x20.ID=x21.ID)&&(decide (x20.ce=x21.ce)&&true))) fun x22 =>
    bif (!x22) then (
     some false
    ) else (
      bnd (Ab .i64 (v10+1)) fun x24 =>
      (dC a0 a1 n0) x24
    )
   ) else (
     some true
   )
def fE (a0:(List aW)) (a1:(List aW)):Ad Bool :=
 bnd (!decide ((a0.length:Int)=(a1.length:Int))) fun x1 =>
 bif x1 then (
  some false
 ) else (
   dC a0 a1 fuel 0
 )

def xX (a0:aA) (a1:aA):Ad Bool :=
 bnd (!decide (a0.aq=a1.aq)) fun x1 =>
 bnd (!(a0.bp == a1.bp)) fun x2 =>
 bnd (x1||x2) fun x3 =>
 bno (gd (x3 == false) (fE a0.au a1.au) default) fun x4 =>
 bnd (x3||(!x4)) fun x5 =>
 bif x5 then (
  some false
 ) else (
   bnd (decide (a0.bg=a1.bg)) fun x7 =>
   bnd (decide (a0.bj=a1.bj)) fun x8 =>
   bnd (x7&&x8) fun x9 =>
   bnd (decide (a0.cb=a1.cb)) fun x10 =>
   bnd (x9&&x10) fun x11 =>
   bnd (decide (a0.bo=a1.bo)) fun x12 =>
   bnd (x11&&x12) fun x13 =>
   bnd (decide (a0.N=a1.N)) fun x14 =>
   bnd (x13&&x14) fun x15 =>
   bnd (decide (a0.Code=a1.Code)) fun x16 =>
   bnd (x15&&x16) fun x17 =>
   bnd (decide (a0.aj=a1.aj)) fun x18 =>
   bnd (x17&&x18) fun x19 =>
   some x19
 )

def oS (a0:aA) (v8:Bool):Ad Int :=
 bif v8 then (
  some 5
 ) else (
   bno (kK a0) fun x10 =>
   bno (xX x10 (⟨a0.aq,false,0,0,0,0,0,0,[],[]⟩:aA)) fun x11 =>
   bif (!x11) then (
    some 4
   ) else (
     some 0
   )
 )
def tV (a0:aA):Ad Int :=
 bno (wE a0.aq) fun x1 =>
 bif (!x1) then (
  some 12
 ) else (
   bno (nC a0) fun x3 =>
   bif (!x3) then (
    some 8
   ) else (
     bnd (decide (32<(a0.aj.length:Int))) fun x13 =>
     bif x13 then (
      oS a0 x13
     ) else (
       bnd (decide (4<(a0.au.length:Int))) fun x15 =>
       oS a0 x15
     )
   )
 )

def lB (v16:Int) (v17:Int):Ad Int :=
 bnd (Ab .u8 v16) fun x18 =>
 bno (gix ([0,1,2,2,3,3,3,3,4,4,4,4,4,4,4,4,5,5,5,5,5,5,5,5,5,5,5,5,5,5,5,5,6,6,6,6,6,6,6,6,6,6,6,6,6,6,6,6,6,6,6,6,6,6,6,6,6,6,6,6,6,6,6,6,7,7,7,7,7,7,7,7,7,7,7,7,7,7,7,7,7,7,7,7,7,7,7,7,7,7,7,7,7,7,7,7,7,7,7,7,7,7,7,7,7,7,7,7,7,7,7,7,7,7,7,7,7,7,7,7,7,7,7,7,7,7,7,7,8,8,8,8,8,8,8,8,8,8,8,8,8,8,8,8,8,8,8,8,8,8,8,8,8,8,8,8,8,8,8,8,8,8,8,8,8,8,8,8,8,8,8,8,8,8,8,8,8,8,8,8,8,8,8,8,8,8,8,8,8,8,8,8,8,8,8,8,8,8,8,8,8,8,8,8,8,8,8,8,8,8,8,8,8,8,8,8,8,8,8,8,8,8,8,8,8,8,8,8,8,8,8,8,8,8,8,8,8,8,8,8,8,8,8,8,8,8,8,8,8,8,8,8,8,8,8,8]:List Ai) x18) fun x19 =>
 bnd (Ab .i64 (x19.toNat:Int)) fun x20 =>
 bnd (Ab .i64 (v17+x20)) fun x21 =>
 some x21
def lC (v10:Int) (v11:Int):Ad Int :=
 bnd (decide (256≤v10)) fun x22 =>
 bif x22 then (
  bno (shrI .u64 v10 8) fun x24 =>
  bnd (Ab .i64 (v11+8)) fun x25 =>
  lB x24 x25
 ) else (
   lB v10 v11
 )
def lD (v4:Int) (v5:Int):Ad Int :=
 bnd (decide (65536≤v4)) fun x26 =>
 bif x26 then (
  bno (shrI .u64 v4 16) fun x28 =>
  bnd (Ab .i64 (v5+16)) fun x29 =>
  lC x28 x29
 ) else (
   lC v4 v5
 )
def qI (a0:Int):Ad Int :=
 bnd (decide (4294967296≤a0)) fun x30 =>
 bif x30 then (
  bno (shrI .u64 a0 32) fun x32 =>
  lD x32 32
 ) else (
   lD a0 0
 )

def sQ (a0:Int):Ad Int :=
 bno (qI a0) fun x1 =>
 some x1

def oN (a0:Int):Nat→Int→Ad Int
 | 0,_=>none
 | n0 + 1,v14 =>
   bnd (decide (v14<4)) fun x24 =>
   bif x24 then (
    bnd (Ab .u64 a0) fun x26 =>
    bno (sQ x26) fun x27 =>
    bno (shlI .i64 8 v14) fun x28 =>
    bnd (Ab .i64 (x28-2)) fun x29 =>
    bnd (decide (x27≤x29)) fun x30 =>
    bif x30 then (
     some v14
    ) else (
      bnd (Ab .i64 (v14+1)) fun x32 =>
      (oN a0 n0) x32
    )
   ) else (
     some (-1)
   )
def tE (a0:Int):Ad Int :=
 bnd (decide (a0<0)) fun x1 =>
 bnd (decide (4611686018427387903<a0)) fun x2 =>
 bnd (x1||x2) fun x3 =>
 bif x3 then (
  some (-1)
 ) else (
   oN a0 fuel 0
 )

def pU (x1:Int):Nat→Int→(List Ai)→Int→Ad ((List Ai)×Int)
 | 0,_,_,_=>none
 | n0+1,v16,v17,v18 =>
   bnd (decide (0≤v18)) fun x28 =>
   bif x28 then (
    bnd (Ab .u8 v16) fun x30 =>
    bno (gix v17 v18) fun x31 =>
    bno (v17[(v18:Int).toNat]?) fun x32 =>
    bno (toU8 x30) fun x33 =>
    bnd (v17.set ((v18:Int).toNat) x33) fun x34 =>
    bno (shrI .i64 v16 8) fun x35 =>
    bnd (Ab .i64 (v18-1)) fun x36 =>
    (pU x1 n0) x35 x34 x36
   ) else (
     bno (gix v17 0) fun x37 =>
     bno (v17[(0:Int).toNat]?) fun x38 =>
     bno (shlI .i64 x1 6) fun x39 =>
     bnd (Ab .u8 x39) fun x40 =>
     bnd (orI .u8 (x38.toNat:Int) x40) fun x41 =>
     bno (gix v17 0) fun x42 =>
     bno (v17[(0:Int).toNat]?) fun x43 =>
     bno (toU8 x41) fun x44 =>
     bnd (v17.set ((0:Int).toNat) x44) fun x45 =>
     some (x45,0)
   )
def uU (a0:Int):Ad ((List Ai)×Int) :=
 bno (tE a0) fun x1 =>
 bnd (decide (x1<0)) fun x2 =>
 bif x2 then (
  some ([],8)
 ) else (
   bno (shlI .i64 1 x1) fun x4 =>
   bno (made 1 x4 (0:Ai)) fun x5 =>
   bnd (Ab .i64 ((x5.length:Int)-1)) fun x6 =>
   pU x1 fuel a0 x5 x6
 )

def oO (a0:(List Int)):Nat→(List Ai)→Int→Ad ((List Ai)×Int)
 | 0,_,_=>none
 | n0 + 1,v9,v10 =>
   bnd (decide (v10<(a0.length:Int))) fun x19 =>
   bif x19 then (
    bno (gix a0 v10) fun x21 =>
    bno (uU x21) fun x22 =>
    bnd (!decide (x22.2=0)) fun x23 =>
    bif x23 then (
     some ([],x22.2)
    ) else (
      bno (app 1 v9 x22.1) fun x25 =>
      bnd (Ab .i64 (v10+1)) fun x26 =>
      (oO a0 n0) x25 x26
    )
   ) else (
     some (v9,0)
   )
def yT (a0:(List Int)):Ad ((List Ai)×Int) :=
 oO a0 fuel ([]:(List Ai)) 0

def qR (a0:(List Int)):Ad ((List Ai)×Int) :=
 bno (yT a0) fun x1 =>
 some (x1.1,x1.2)

def eF (a0:aA):Nat→(List Int)→Int→Ad (List Ai)
 | 0,_,_=>none
 | n1+1,v30,v31 =>
   bnd (decide (v31<(a0.au.length:Int))) fun x37 =>
   bif x37 then (
    bno (gix a0.au v31) fun x39 =>
    bno (app 8 v30 ([x39.ID,x39.ce]:(List Int))) fun x40 =>
    bnd (Ab .i64 (v31+1)) fun x41 =>
    (eF a0 n1) x40 x41
   ) else (
     bno (qR v30) fun x42 =>
     bno (cat x42.1 a0.aj) fun x43 =>
     some x43
   )
def eG (a0:aA) (x1:(List Nat)):Nat→(List Int)→Int→Ad (List Ai)
 | 0,_,_=>none
 | n0+1,v9,v10 =>
   bnd (decide (v10<(x1.length:Int))) fun x18 =>
   bif x18 then (
    bno (gix x1 v10) fun x20 =>
    bno (x1[(v10:Int).toNat]?) fun x21 =>
    bno (aDj [none,none,some a0.bg,some a0.bj,some a0.cb,some a0.bo,some a0.N,some a0.Code,none,none] x21) fun x22 =>
    bno (app 8 v9 ([x22]:(List Int))) fun x23 =>
    bnd (Ab .i64 (v10+1)) fun x24 =>
    (eG a0 x1 n0) x23 x24
   ) else (
     eF a0 fuel v9 0
   )
def iE (a0:aA):Ad (List Ai) :=
 bno (eU a0) fun x1 =>
 eG a0 x1 fuel ([]:(List Int)) 0

def eN (a0:(List Ai)):Ad (List Ai) :=
 aCO a0 (
  some ([]:(List Ai))
 ) (
   bno (app 1 ([]:(List Ai)) a0) fun x3 =>
   some x3
 )

def wH (a0:Int) (a1:Int):Ad Bool :=
 bnd (decide (0≤a0)) fun x1 =>
 bnd (decide (1≤a1)) fun x2 =>
 bnd (x1&&x2) fun x3 =>
 bnd (decide (a1≤7)) fun x4 =>
 bnd (x3&&x4) fun x5 =>
 bnd (Ab .i64 (8*a1)) fun x6 =>
 bno (gd (x5 == true) (shrI .i64 a0 x6) 0) fun x7 =>
 bnd (decide (x7=0)) fun x8 =>
 bnd (x5&&x8) fun x9 =>
 some x9

def sU (a1:Int) (a2:Int):Nat→(List Ai)→Int→Ad (List Ai)
 | 0,_,_=>none
 | n0+1,v14,v15 =>
   bnd (decide (v15<a2)) fun x26 =>
   bif x26 then (
    bnd (Ab .i64 (a2-1)) fun x28 =>
    bnd (Ab .i64 (x28-v15)) fun x29 =>
    bnd (Ab .i64 (8*x29)) fun x30 =>
    bno (shrI .i64 a1 x30) fun x31 =>
    bnd (Ab .u8 x31) fun x32 =>
    bno (toU8 x32) fun x33 =>
    bno (app 1 v14 ([x33]:(List Ai))) fun x34 =>
    bnd (Ab .i64 (v15+1)) fun x35 =>
    (sU a1 a2 n0) x34 x35
   ) else (
     some v14
   )
def vI (a0:(List Ai)) (a1:Int) (a2:Int):Ad (List Ai) :=
 bno (eN a0) fun x1 =>
 bno (wH a1 a2) fun x2 =>
 bif (!x2) then (
  some x1
 ) else (
   sU a1 a2 fuel x1 0
 )

def rT (a0:aA) (v5:Int):Ad ((List Ai)×Int) :=
 bno (iE a0) fun x6 =>
 bno (uU (x6.length:Int)) fun x7 =>
 bnd (!decide (x7.2=0)) fun x8 =>
 bif x8 then (
  some ([],x7.2)
 ) else (
   bnd (Ab .i64 a0.aq) fun x10 =>
   bno (vI ([]:(List Ai)) x10 1) fun x11 =>
   bno (vI x11 v5 1) fun x12 =>
   bno (cat x12 x7.1) fun x13 =>
   bno (cat x13 x6) fun x14 =>
   some (x14,0)
 )
def aAS (a0:aA):Ad ((List Ai)×Int) :=
 bno (tV a0) fun x1 =>
 bnd (!decide (x1=0)) fun x2 =>
 bif x2 then (
  some ([],x1)
 ) else (
   bif a0.bp then (
    rT a0 1
   ) else (
     rT a0 0
   )
 )

def pV (x5:Int) (x6:Int) (x12:(List Ai)):Nat→Int→Int→Ad (Int×Int×Int)
 | 0,_,_=>none
 | n0 + 1,v20,v21 =>
   bnd (decide (v21<(x12.length:Int))) fun x29 =>
   bif x29 then (
    bno (gix x12 v21) fun x31 =>
    bno (shlI .i64 v20 8) fun x32 =>
    bnd (Ab .i64 (x31.toNat:Int)) fun x33 =>
    bnd (orI .i64 x32 x33) fun x34 =>
    bnd (Ab .i64 (v21+1)) fun x35 =>
    (pV x5 x6 x12 n0) x34 x35
   ) else (
     bno (tE v20) fun x36 =>
     bnd (!decide (x36=x5)) fun x37 =>
     bif x37 then (
      some (0,0,4)
     ) else (
       some (v20,x6,0)
     )
   )
def qS (a0:(List Ai)):Ad (Int×Int×Int) :=
 bnd (decide (a0=([]:List Ai))) fun x1 =>
 bif x1 then (
  some (0,0,3)
 ) else (
   bno (gix a0 0) fun x3 =>
   bno (shrI .u8 (x3.toNat:Int) 6) fun x4 =>
   bnd (Ab .i64 x4) fun x5 =>
   bno (shlI .i64 1 x5) fun x6 =>
   bnd (decide ((a0.length:Int)<x6)) fun x7 =>
   bif x7 then (
    some (0,0,3)
   ) else (
     bno (gix a0 0) fun x9 =>
     bnd (andI .u8 (x9.toNat:Int) 63) fun x10 =>
     bnd (Ab .i64 x10) fun x11 =>
     bno (cut a0 1 x6) fun x12 =>
     pV x5 x6 x12 fuel x11 0
   )
 )

def aAt (a0 : (List Ai)):Ad (aA×Int×Int×Int) :=
 bnd (decide (a0=([]:List Ai))) fun x1 =>
 bif x1 then (
  some ((⟨0,false,0,0,0,0,0,0,[],[]⟩:aA),0,0,3)
 ) else (
   bno (gix a0 0) fun x3 =>
   bno (wE (x3.toNat:Int)) fun x4 =>
   bif (!x4) then (
    some ((⟨0,false,0,0,0,0,0,0,[],[]⟩:aA),0,0,12)
   ) else (
     bnd (decide ((a0.length:Int)<2)) fun x6 =>
     bif x6 then (
      some ((⟨0,false,0,0,0,0,0,0,[],[]⟩:aA),0,0,3)
     ) else (
       bno (gix a0 1) fun x8 =>
       bnd (decide (1<(x8.toNat:Int))) fun x9 =>
       bif x9 then (
        some ((⟨0,false,0,0,0,0,0,0,[],[]⟩:aA),0,0,4)
       ) else (
         bno (cut a0 2 (a0.length:Int)) fun x11 =>
         bno (qS x11) fun x12 =>
         bnd (!decide (x12.2.2=0)) fun x13 =>
         bif x13 then (
          some ((⟨0,false,0,0,0,0,0,0,[],[]⟩:aA),0,0,x12.2.2)
         ) else (
           bnd (decide (64<x12.1)) fun x15 =>
           bif x15 then (
            some ((⟨0,false,0,0,0,0,0,0,[],[]⟩:aA),0,0,5)
           ) else (
             bnd (Ab .i64 ((a0.length:Int)-2)) fun x17 =>
             bnd (Ab .i64 (x17-x12.2.1)) fun x18 =>
             bnd (decide (x18<x12.1)) fun x19 =>
             bif x19 then (
              some ((⟨0,false,0,0,0,0,0,0,[],[]⟩:aA),0,0,3)
             ) else (
               bno (gix a0 0) fun x21 =>
               bno (gix a0 1) fun x22 =>
               bnd (decide ((x22.toNat:Int)=1)) fun x23 =>
               bnd (Ab .i64 (2+x12.2.1)) fun x24 =>
               bnd (Ab .i64 (2+x12.2.1)) fun x25 =>
               bnd (Ab .i64 (x25+x12.1)) fun x26 =>
               some ((⟨(x21.toNat:Int),x23,0,0,0,0,0,0,[],[]⟩:aA),x24,x26,0)
             )
           )
         )
       )
     )
   )
 )

def pW  : Nat→(List Ai)→(List Int)→Ad ((List Int)×Int)
 | 0,_,_=>none
 | n0 + 1,v8,v9 =>
   bnd (!decide (v8=([]:List Ai))) fun x17 =>
   bif x17 then (
    bno (qS v8) fun x19 =>
    bnd (!decide (x19.2.2=0)) fun x20 =>
    bif x20 then (
     some ([],x19.2.2)
    ) else (
      bno (app 8 v9 ([x19.1]:(List Int))) fun x22 =>
      bno (cut v8 x19.2.1 (v8.length:Int)) fun x23 =>
      (pW n0) x23 x22
    )
   ) else (
     some (v9,0)
   )
def xL (a0:(List Ai)):Ad ((List Int)×Int) :=
 pW fuel a0 ([]:(List Int))

def mB  : Nat→(List Int)→(List aW)→Ad ((List aW)×Bool)
 | 0,_,_=>none
 | n0+1,v13,v14 =>
   bnd (decide (0<(v13.length:Int))) fun x21 =>
   bif x21 then (
    bno (gix v13 0) fun x23 =>
    bno (gix v13 1) fun x24 =>
    bno (app 16 v14 (([(⟨x23,x24⟩:aW)]:(List aW)))) fun x25 =>
    bno (cut v13 2 (v13.length:Int)) fun x26 =>
    (mB n0) x26 x25
   ) else (
     some (v14,true)
   )
def mY (a0:(List Ai)):Ad ((List aW)×Bool) :=
 bno (xL a0) fun x1 =>
 bnd (!decide (x1.2=0)) fun x2 =>
 bno (gd (x2 == false) (remI (x1.1.length:Int) 2) 0) fun x3 =>
 bnd (decide (x3=1)) fun x4 =>
 bnd (x2||x4) fun x5 =>
 bif x5 then (
  some ([],false)
 ) else (
   mB fuel x1.1 ([]:(List aW))
 )

def eS (a1:aA) (x1:(List Nat)):Nat→(List Ai)→Int→Int→Int→Int→Int→Int→Int→Ad (Bool×aA)
 | 0,_,_,_,_,_,_,_,_=>none
 | n0 + 1,v12,v13,v14,v15,v16,v17,v18,v19 =>
   bnd (decide (v13<(x1.length:Int))) fun x30 =>
   bif x30 then (
    bno (gix x1 v13) fun x32 =>
    bno (x1[(v13:Int).toNat]?) fun x33 =>
    bno (qS v12) fun x34 =>
    bnd (!decide (x34.2.2=0)) fun x35 =>
    bif x35 then (
     some (false,(⟨a1.aq,a1.bp,v14,v15,v16,v17,v18,v19,a1.au,a1.aj⟩:aA))
    ) else (
      bno (aDj [none,none,some v14,some v15,some v16,some v17,some v18,some v19,none,none] x33) fun x37 =>
      bno (cut v12 x34.2.1 (v12.length:Int)) fun x38 =>
      bnd (Ab .i64 (v13+1)) fun x39 =>
      (eS a1 x1 n0) x38 x39 (bif Aj x33 2 then x34.1 else v14) (bif Aj x33 3 then x34.1 else v15) (bif Aj x33 4 then x34.1 else v16) (bif Aj x33 5 then x34.1 else v17) (bif Aj x33 6 then x34.1 else v18) (bif Aj x33 7 then x34.1 else v19)
    )
   ) else (
     bnd (decide (a1.aq=0)) fun x40 =>
     bif x40 then (
      some (true,(⟨a1.aq,a1.bp,v14,v15,v16,v17,v18,v19,a1.au,v12⟩:aA))
     ) else (
       bnd (decide (a1.aq=4)) fun x42 =>
       bif x42 then (
        bno (mY v12) fun x44 =>
        some (x44.2,(⟨a1.aq,a1.bp,v14,v15,v16,v17,v18,v19,x44.1,a1.aj⟩:aA))
       ) else (
         bnd (decide (v12=([]:List Ai))) fun x45 =>
         some (x45,(⟨a1.aq,a1.bp,v14,v15,v16,v17,v18,v19,a1.au,a1.aj⟩:aA))
       )
     )
   )
def iQ (a0:(List Ai)) (a1:aA):Ad (Bool×aA) :=
 bno (eU a1) fun x1 =>
 eS a1 x1 fuel a0 0 a1.bg a1.bj a1.cb a1.bo a1.N a1.Code

def vE (a0:(List Ai)):Ad (aA×Int×Int) :=
 bno (aAt a0) fun x1 =>
 bnd (!decide (x1.2.2.2=0)) fun x2 =>
 bif x2 then (
  some ((⟨0,false,0,0,0,0,0,0,[],[]⟩:aA),0,x1.2.2.2)
 ) else (
   bno (cut a0 x1.2.1 x1.2.2.1) fun x4 =>
   bno (iQ x4 x1.1) fun x5 =>
   bif (!x5.1) then (
    some ((⟨0,false,0,0,0,0,0,0,[],[]⟩:aA),0,4)
   ) else (
     bno (tV x5.2) fun x7 =>
     bnd (!decide (x7=0)) fun x8 =>
     bif x8 then (
      some ((⟨0,false,0,0,0,0,0,0,[],[]⟩:aA),0,x7)
     ) else (
       some (x5.2,x1.2.2.1,0)
     )
   )
 )

def kU (a0 : Int) (v9:Bool):Ad (List Ai) :=
 bif v9 then (
  some [115,100,119]
 ) else (
   bnd (decide (a0=3)) fun x11 =>
   bif x11 then (
    some [115,110,99]
   ) else (
     bnd (decide (a0=7)) fun x13 =>
     bif x13 then (
      some [115,99]
     ) else (
       bnd (decide (a0=4)) fun x15 =>
       bif x15 then (
        some []
       ) else (
         bnd (decide (a0=6)) fun x17 =>
         bif x17 then (
          some [110]
         ) else (
           bnd (decide (a0=8)) fun x19 =>
           bif x19 then (
            some [115,110]
           ) else (
             bnd (decide (a0=10)) fun x21 =>
             bif x21 then (
              some [110,99]
             ) else (
               some [45]
             )
           )
         )
       )
     )
   )
 )
def kV (a0:Int) (v4:Bool):Ad (List Ai) :=
 bif v4 then (
  some [115,111]
 ) else (
   bnd (decide (a0=1)) fun x23 =>
   bif x23 then (
    kU a0 x23
   ) else (
     bnd (decide (a0=2)) fun x25 =>
     kU a0 x25
   )
 )
def eI (a0:Int):Ad (List Ai) :=
 bnd (decide (a0=0)) fun x26 =>
 bif x26 then (
  kV a0 x26
 ) else (
   bnd (decide (a0=9)) fun x28 =>
   kV a0 x28
 )

def fX (a0:Int) (a1:Int) (a2:Int):Ad Bool :=
 bnd (decide (a1≤a0)) fun x1 =>
 bnd (decide (a0≤a2)) fun x2 =>
 bnd (x1&&x2) fun x3 =>
 some x3

def iG (a0:aA) (v3:Int) (v6:Int) (v7:Int) (v13:Bool):Nat→Int→Ad Bool
 | 0,_=>none
 | n3 + 1,v23 =>
   bnd (decide (v23<(a0.au.length:Int))) fun x33 =>
   bif x33 then (
    bno (gix a0.au v23) fun x35 =>
    bno (fX x35.ID 0 1099511627776) fun x36 =>
    bno (gd ((!x36) == false) (gix a0.au v23) default) fun x37 =>
    bno (gd ((!x36) == false) (fX x37.ce 0 1099511627776) default) fun x38 =>
    bnd ((!x36)||(!x38)) fun x39 =>
    bif x39 then (
     some false
    ) else (
      bnd (Ab .i64 (v23+1)) fun x41 =>
      (iG a0 v3 v6 v7 v13 n3) x41
    )
   ) else (
     bno (fX a0.bg 0 1048576) fun x42 =>
     bno (gd (x42 == true) (fX a0.bj 0 1099511627776) default) fun x43 =>
     bnd (x42&&x43) fun x44 =>
     bno (gd (x44 == true) (fX a0.cb 0 1048576) default) fun x45 =>
     bnd (x44&&x45) fun x46 =>
     bnd (x46&&v13) fun x47 =>
     bno (gd (x47 == true) (fX a0.N v3 v6) default) fun x48 =>
     bnd (x47&&x48) fun x49 =>
     bno (gd (x49 == true) (fX a0.Code 0 v7) default) fun x50 =>
     bnd (x49&&x50) fun x51 =>
     some x51
   )
def kP (a0:aA) (v3:Int) (v6:Int) (v7:Int) (v13:Bool):Ad Bool :=
 iG a0 v3 v6 v7 v13 fuel 0
def kQ (a0:aA) (v3:Int) (v6:Int) (v7:Int):Ad Bool :=
 bno (fX a0.bo 1 256) fun x8 =>
 bnd (!decide (a0.aq=1)) fun x52 =>
 bnd (!decide (a0.aq=2)) fun x53 =>
 bnd (x52&&x53) fun x54 =>
 bif x54 then (
  kP a0 v3 v6 v7 true
 ) else (
   kP a0 v3 v6 v7 x8
 )
def kR (a0:aA) (v3:Int):Ad Bool :=
 bnd (decide (a0.aq=10)) fun x56 =>
 bif x56 then (
  kQ a0 v3 3 1
 ) else (
   kQ a0 v3 1099511627776 255
 )
def nA (a0:aA):Ad Bool :=
 bnd (decide (a0.aq=8)) fun x58 =>
 bif x58 then (
  kR a0 1
 ) else (
   kR a0 0
 )

def kT (a0:(List Ai)) (a1:Int):Nat→Int→Ad Bool
 | 0,_=>none
 | n0 + 1,v7 =>
   bnd (decide (v7<(a0.length:Int))) fun x14 =>
   bif x14 then (
    bno (gix a0 v7) fun x16 =>
    bnd (decide ((x16.toNat:Int)=a1)) fun x17 =>
    bif x17 then (
     some true
    ) else (
      bnd (Ab .i64 (v7+1)) fun x19 =>
      (kT a0 a1 n0) x19
    )
   ) else (
     some false
   )
def pZ (a0:(List Ai)) (a1:Int):Ad Bool :=
 kT a0 a1 fuel 0

def nY (a0 : aA) (a1:Int):Ad Int :=
 bnd (decide (a1=115)) fun x1 =>
 bif x1 then (
  some a0.bg
 ) else (
   bnd (decide (a1=111)) fun x3 =>
   bif x3 then (
    some a0.bj
   ) else (
     bnd (decide (a1=100)) fun x5 =>
     bif x5 then (
      some a0.cb
     ) else (
       bnd (decide (a1=119)) fun x7 =>
       bif x7 then (
        some a0.bo
       ) else (
         bnd (decide (a1=110)) fun x9 =>
         bif x9 then (
          some a0.N
         ) else (
           some a0.Code
         )
       )
     )
   )
 )

def mJ (a0:Int):Ad Bool :=
 bnd (decide (a0≤2)) fun x1 =>
 bnd (decide (a0=4)) fun x2 =>
 bnd (x1||x2) fun x3 =>
 bnd (decide (a0=6)) fun x4 =>
 bnd (x3||x4) fun x5 =>
 bnd (decide (a0=9)) fun x6 =>
 bnd (x5||x6) fun x7 =>
 some x7

def eE (a0:aA):Nat→Int→Ad Bool
 | 0,_=>none
 | n0 + 1,v12 =>
   bnd (decide (v12<(([115,111,100,119,110,99]:List Ai).length:Int))) fun x24 =>
   bif x24 then (
    bno (eI a0.aq) fun x26 =>
    bno (gix ([115,111,100,119,110,99]:List Ai) v12) fun x27 =>
    bno (pZ x26 (x27.toNat:Int)) fun x28 =>
    bno (gd ((!x28) == true) (gix ([115,111,100,119,110,99]:List Ai) v12) 0) fun x29 =>
    bno (gd ((!x28) == true) (nY a0 (x29.toNat:Int)) default) fun x30 =>
    bnd (!decide (x30=0)) fun x31 =>
    bnd ((!x28)&&x31) fun x32 =>
    bif x32 then (
     some true
    ) else (
      bnd (Ab .i64 (v12+1)) fun x34 =>
      (eE a0 n0) x34
    )
   ) else (
     bnd (!decide (a0.aq=0)) fun x35 =>
     bnd (!decide (a0.aj=([]:List Ai))) fun x36 =>
     bnd (x35&&x36) fun x37 =>
     bnd (!decide (a0.aq=4)) fun x38 =>
     bnd (decide (0<(a0.au.length:Int))) fun x39 =>
     bnd (x38&&x39) fun x40 =>
     bnd (x37||x40) fun x41 =>
     bno (gd ((x41 == false)&&(a0.bp == true)) (mJ a0.aq) default) fun x42 =>
     bnd (decide (0<(a0.au.length:Int))) fun x43 =>
     bnd ((!x42)||x43) fun x44 =>
     bnd (a0.bp&&x44) fun x45 =>
     bnd (x41||x45) fun x46 =>
     some x46
   )
def nZ (a0:aA):Ad Bool :=
 eE a0 fuel 0

def gW (a0:aA):Ad Int :=
 bno (eI a0.aq) fun x1 =>
 bnd (decide (x1=([45]:List Ai))) fun x2 =>
 bif x2 then (
  some 12
 ) else (
   bno (nA a0) fun x4 =>
   bif (!x4) then (
    some 8
   ) else (
     bnd (decide (32<(a0.aj.length:Int))) fun x6 =>
     bnd (decide (4<(a0.au.length:Int))) fun x7 =>
     bnd (x6||x7) fun x8 =>
     bif x8 then (
      some 5
     ) else (
       bno (nZ a0) fun x10 =>
       bif x10 then (
        some 4
       ) else (
         some 0
       )
     )
   )
 )

def kH (a0:Int):Ad Int :=
 bnd (decide (a0<0)) fun x1 =>
 bnd (decide (4611686018427387903<a0)) fun x2 =>
 bnd (x1||x2) fun x3 =>
 bif x3 then (
  some 0
 ) else (
   bnd (decide (a0<64)) fun x5 =>
   bif x5 then (
    some 1
   ) else (
     bnd (decide (a0<16384)) fun x7 =>
     bif x7 then (
      some 2
     ) else (
       bnd (decide (a0<1073741824)) fun x9 =>
       bif x9 then (
        some 4
       ) else (
         some 8
       )
     )
   )
 )

def mR (a0:Int):Ad Int :=
 bnd (decide (a0=1)) fun x1 =>
 bif x1 then (
  some 0
 ) else (
   bnd (decide (a0=2)) fun x3 =>
   bif x3 then (
    some 64
   ) else (
     bnd (decide (a0=4)) fun x5 =>
     bif x5 then (
      some 128
     ) else (
       some 192
     )
   )
 )

def gB (x1:Int):Nat→Int→(List Ai)→Int→Ad ((List Ai)×Int)
 | 0,_,_,_=>none
 | n0+1,v12,v13,v14 =>
   bnd (decide (v14<x1)) fun x23 =>
   bif x23 then (
    bno (remI v12 256) fun x25 =>
    bnd (Ab .u8 x25) fun x26 =>
    bno (toU8 x26) fun x27 =>
    bno (app 1 ([x27]:(List Ai)) v13) fun x28 =>
    bno (quoI .i64 v12 256) fun x29 =>
    bnd (Ab .i64 (v14+1)) fun x30 =>
    (gB x1 n0) x29 x28 x30
   ) else (
     bno (gix v13 0) fun x31 =>
     bno (v13[(0:Int).toNat]?) fun x32 =>
     bno (mR x1) fun x33 =>
     bnd (Ab .u8 x33) fun x34 =>
     bnd (Ab .u8 ((x32.toNat:Int)+x34)) fun x35 =>
     bno (gix v13 0) fun x36 =>
     bno (v13[(0:Int).toNat]?) fun x37 =>
     bno (toU8 x35) fun x38 =>
     bnd (v13.set ((0:Int).toNat) x38) fun x39 =>
     some (x39,0)
   )
def jQ (a0:Int):Ad ((List Ai)×Int) :=
 bno (kH a0) fun x1 =>
 bnd (decide (x1=0)) fun x2 =>
 bif x2 then (
  some ([],8)
 ) else (
   gB x1 fuel a0 ([]:(List Ai)) 0
 )

def jS (a0:(List Int)):Nat→(List Ai)→Int→Ad ((List Ai)×Int)
 | 0,_,_=>none
 | n0 + 1,v9,v10 =>
   bnd (decide (v10<(a0.length:Int))) fun x19 =>
   bif x19 then (
    bno (gix a0 v10) fun x21 =>
    bno (jQ x21) fun x22 =>
    bnd (!decide (x22.2=0)) fun x23 =>
    bif x23 then (
     some ([],x22.2)
    ) else (
      bno (app 1 v9 x22.1) fun x25 =>
      bnd (Ab .i64 (v10+1)) fun x26 =>
      (jS a0 n0) x25 x26
    )
   ) else (
     some (v9,0)
   )
def mT (a0:(List Int)):Ad ((List Ai)×Int) :=
 jS a0 fuel ([]:(List Ai)) 0

def gQ (a0:aA):Nat→(List Int)→Int→Ad (List Ai)
 | 0,_,_=>none
 | n1+1,v28,v29 =>
   bnd (decide (v29<(a0.au.length:Int))) fun x36 =>
   bif x36 then (
    bno (gix a0.au v29) fun x38 =>
    bno (gix a0.au v29) fun x39 =>
    bno (app 8 v28 ([x38.ID,x39.ce]:(List Int))) fun x40 =>
    bnd (Ab .i64 (v29+1)) fun x41 =>
    (gQ a0 n1) x40 x41
   ) else (
     bno (mT v28) fun x42 =>
     bno (cat x42.1 a0.aj) fun x43 =>
     some x43
   )
def gR (a0:aA) (x1:(List Ai)):Nat→(List Int)→Int→Ad (List Ai)
 | 0,_,_=>none
 | n0+1,v8,v9 =>
   bnd (decide (v9<(x1.length:Int))) fun x16 =>
   bif x16 then (
    bno (gix x1 v9) fun x18 =>
    bno (nY a0 (x18.toNat:Int)) fun x19 =>
    bno (app 8 v8 ([x19]:(List Int))) fun x20 =>
    bnd (Ab .i64 (v9+1)) fun x21 =>
    (gR a0 x1 n0) x20 x21
   ) else (
     gQ a0 fuel v8 0
   )
def mI (a0:aA):Ad (List Ai) :=
 bno (eI a0.aq) fun x1 =>
 gR a0 x1 fuel ([]:(List Int)) 0

def kW (a0:aA) (v5:Int):Ad ((List Ai)×Int) :=
 bno (mI a0) fun x6 =>
 bno (jQ (x6.length:Int)) fun x7 =>
 bno (toU8 a0.aq) fun x8 =>
 bno (toU8 v5) fun x9 =>
 bno (cat ([x8,x9]:(List Ai)) x7.1) fun x10 =>
 bno (cat x10 x6) fun x11 =>
 some (x11,0)
def qA (a0:aA):Ad ((List Ai)×Int) :=
 bno (gW a0) fun x1 =>
 bnd (!decide (x1=0)) fun x2 =>
 bif x2 then (
  some ([],x1)
 ) else (
   bif a0.bp then (
    kW a0 1
   ) else (
     kW a0 0
   )
 )

def jM (a0:aA) (a1:aA):Nat→Int→Ad Bool
 | 0,_=>none
 | n0 + 1,v10 =>
   bnd (decide (v10<(a0.au.length:Int))) fun x18 =>
   bif x18 then (
    bno (gix a0.au v10) fun x20 =>
    bno (gix a1.au v10) fun x21 =>
    bnd ((decide (x20.ID=x21.ID)&&(decide (x20.ce=x21.ce)&&true))) fun x22 =>
    bif (!x22) then (
     some false
    ) else (
      bnd (Ab .i64 (v10+1)) fun x24 =>
      (jM a0 a1 n0) x24
    )
   ) else (
     bnd (decide (a0.aq=a1.aq)) fun x25 =>
     bnd (a0.bp == a1.bp) fun x26 =>
     bnd (x25&&x26) fun x27 =>
     bnd (decide (a0.bg=a1.bg)) fun x28 =>
     bnd (x27&&x28) fun x29 =>
     bnd (decide (a0.bj=a1.bj)) fun x30 =>
     bnd (x29&&x30) fun x31 =>
     bnd (decide (a0.cb=a1.cb)) fun x32 =>
     bnd (x31&&x32) fun x33 =>
     bnd (decide (a0.bo=a1.bo)) fun x34 =>
     bnd (x33&&x34) fun x35 =>
     bnd (decide (a0.N=a1.N)) fun x36 =>
     bnd (x35&&x36) fun x37 =>
     bnd (decide (a0.Code=a1.Code)) fun x38 =>
     bnd (x37&&x38) fun x39 =>
     bnd (decide (a0.aj=a1.aj)) fun x40 =>
     bnd (x39&&x40) fun x41 =>
     some x41
   )
def oZ (a0:aA) (a1:aA):Ad Bool :=
 bnd (!decide ((a0.au.length:Int)=(a1.au.length:Int))) fun x1 =>
 bif x1 then (
  some false
 ) else (
   jM a0 a1 fuel 0
 )

def mS (a0:Int):Ad Int :=
 bno (quoI .u8 a0 64) fun x1 =>
 bnd (decide (x1=0)) fun x2 =>
 bif x2 then (
  some 1
 ) else (
   bnd (decide (x1=1)) fun x4 =>
   bif x4 then (
    some 2
   ) else (
     bnd (decide (x1=2)) fun x6 =>
     bif x6 then (
      some 4
     ) else (
       some 8
     )
   )
 )

def kX (a0:(List Ai)) (x8:Int):Nat→Int→Int→Ad (Int×Int×Int)
 | 0,_,_=>none
 | n0 + 1,v19,v20 =>
   bnd (decide (v20<x8)) fun x28 =>
   bif x28 then (
    bnd (Ab .i64 (256*v19)) fun x30 =>
    bno (gix a0 v20) fun x31 =>
    bnd (Ab .i64 (x31.toNat:Int)) fun x32 =>
    bnd (Ab .i64 (x30+x32)) fun x33 =>
    bnd (Ab .i64 (v20+1)) fun x34 =>
    (kX a0 x8 n0) x33 x34
   ) else (
     bno (kH v19) fun x35 =>
     bnd (!decide (x35=x8)) fun x36 =>
     bif x36 then (
      some (0,0,4)
     ) else (
       some (v19,x8,0)
     )
   )
def jT (a0:(List Ai)):Ad (Int×Int×Int) :=
 bnd (decide (a0=([]:List Ai))) fun x1 =>
 bno (gd (x1 == false) (gix a0 0) 0) fun x2 =>
 bno (gd (x1 == false) (mS (x2.toNat:Int)) default) fun x3 =>
 bnd (decide ((a0.length:Int)<x3)) fun x4 =>
 bnd (x1||x4) fun x5 =>
 bif x5 then (
  some (0,0,3)
 ) else (
   bno (gix a0 0) fun x7 =>
   bno (mS (x7.toNat:Int)) fun x8 =>
   bno (gix a0 0) fun x9 =>
   bno (remI (x9.toNat:Int) 64) fun x10 =>
   bnd (Ab .i64 x10) fun x11 =>
   kX a0 x8 fuel x11 1
 )

def oA (a0 : Int) (a1:Bool) (a2:Int) (a3:Int) (a4:Int) (a5:Int) (a6:Int) (a7:Int) (a8:(List Ai)) (a9:Int) (a10:Int):Ad (Int×Bool×Int×Int×Int×Int×Int×Int×(List Ai)) :=
 bnd (decide (a9=115)) fun x1 =>
 bif x1 then (
  some (a0,a1,a10,a3,a4,a5,a6,a7,a8)
 ) else (
   bnd (decide (a9=111)) fun x3 =>
   bif x3 then (
    some (a0,a1,a2,a10,a4,a5,a6,a7,a8)
   ) else (
     bnd (decide (a9=100)) fun x5 =>
     bif x5 then (
      some (a0,a1,a2,a3,a10,a5,a6,a7,a8)
     ) else (
       bnd (decide (a9=119)) fun x7 =>
       bif x7 then (
        some (a0,a1,a2,a3,a4,a10,a6,a7,a8)
       ) else (
         bnd (decide (a9=110)) fun x9 =>
         bif x9 then (
          some (a0,a1,a2,a3,a4,a5,a10,a7,a8)
         ) else (
           some (a0,a1,a2,a3,a4,a5,a6,a10,a8)
         )
       )
     )
   )
 )

def kY (a0:(List Ai)):Nat→(List Int)→Int→Ad ((List Int)×Int)
 | 0,_,_=>none
 | n0 + 1,v9,v10 =>
   bnd (decide (v10<(a0.length:Int))) fun x19 =>
   bif x19 then (
    bno (cut a0 v10 (a0.length:Int)) fun x21 =>
    bno (jT x21) fun x22 =>
    bnd (!decide (x22.2.2=0)) fun x23 =>
    bif x23 then (
     some ([],x22.2.2)
    ) else (
      bno (app 8 v9 ([x22.1]:(List Int))) fun x25 =>
      bnd (Ab .i64 (v10+x22.2.1)) fun x26 =>
      (kY a0 n0) x25 x26
    )
   ) else (
     some (v9,0)
   )
def nG (a0:(List Ai)):Ad ((List Int)×Int) :=
 kY a0 fuel ([]:(List Int)) 0

def eP (v13:Int) (v14:Bool) (v15:Int) (v16:Int) (v17:Int) (v18:Int) (v19:Int) (v20:Int) (v21:(List Ai)) (x44:((List Int)×Int)):Nat→Int→(List aW)→Ad (aA×Bool)
 | 0,_,_=>none
 | n1+1,v58,v59 =>
   bnd (Ab .i64 (v58+1)) fun x68 =>
   bnd (decide (x68<(x44.1.length:Int))) fun x69 =>
   bif x69 then (
    bno (gix x44.1 v58) fun x71 =>
    bnd (Ab .i64 (v58+1)) fun x72 =>
    bno (gix x44.1 x72) fun x73 =>
    bno (app 16 v59 (([(⟨x71,x73⟩:aW)]:(List aW)))) fun x74 =>
    bnd (Ab .i64 (v58+2)) fun x75 =>
    (eP v13 v14 v15 v16 v17 v18 v19 v20 v21 x44 n1) x75 x74
   ) else (
     some ((⟨v13,v14,v15,v16,v17,v18,v19,v20,v59,v21⟩:aA),true)
   )
def eQ (x1:(List Ai)):Nat→(List Ai)→Int→Int→Bool→Int→Int→Int→Int→Int→Int→(List Ai)→Ad (aA×Bool)
 | 0,_,_,_,_,_,_,_,_,_,_,_=>none
 | n0 + 1,v11,v12,v13,v14,v15,v16,v17,v18,v19,v20,v21 =>
   bnd (decide (v12<(x1.length:Int))) fun x31 =>
   bif x31 then (
    bno (jT v11) fun x33 =>
    bnd (!decide (x33.2.2=0)) fun x34 =>
    bif x34 then (
     some ((⟨v13,v14,v15,v16,v17,v18,v19,v20,[],v21⟩:aA),false)
    ) else (
      bno (gix x1 v12) fun x36 =>
      bno (oA v13 v14 v15 v16 v17 v18 v19 v20 v21 (x36.toNat:Int) x33.1) fun x37 =>
      bno (cut v11 x33.2.1 (v11.length:Int)) fun x38 =>
      bnd (Ab .i64 (v12+1)) fun x39 =>
      (eQ x1 n0) x38 x39 x37.1 x37.2.1 x37.2.2.1 x37.2.2.2.1 x37.2.2.2.2.1 x37.2.2.2.2.2.1 x37.2.2.2.2.2.2.1 x37.2.2.2.2.2.2.2.1 x37.2.2.2.2.2.2.2.2
    )
   ) else (
     bnd (decide (v13=0)) fun x40 =>
     bif x40 then (
      some ((⟨v13,v14,v15,v16,v17,v18,v19,v20,[],v11⟩:aA),true)
     ) else (
       bnd (decide (v13=4)) fun x42 =>
       bif x42 then (
        bno (nG v11) fun x44 =>
        bnd (!decide (x44.2=0)) fun x45 =>
        bno (gd (x45 == false) (remI (x44.1.length:Int) 2) 0) fun x46 =>
        bnd (!decide (x46=0)) fun x47 =>
        bnd (x45||x47) fun x48 =>
        bif x48 then (
         some ((⟨v13,v14,v15,v16,v17,v18,v19,v20,[],v21⟩:aA),false)
        ) else (
          eP v13 v14 v15 v16 v17 v18 v19 v20 v21 x44 fuel 0 ([]:(List aW))
        )
       ) else (
         bnd (decide (v11=([]:List Ai))) fun x76 =>
         some ((⟨v13,v14,v15,v16,v17,v18,v19,v20,[],v21⟩:aA),x76)
       )
     )
   )
def kO (a0:Int) (a1:Bool) (a2:Int) (a3:Int) (a4:Int) (a5:Int) (a6:Int) (a7:Int) (a8:(List Ai)) (a9:(List Ai)):Ad (aA×Bool) :=
 bno (eI a0) fun x1 =>
 eQ x1 fuel a9 0 a0 a1 a2 a3 a4 a5 a6 a7 a8

def jN (a0 : (List Ai)):Ad (aA×Int×Int) :=
 bnd (decide (a0=([]:List Ai))) fun x1 =>
 bif x1 then (
  some ((⟨0,false,0,0,0,0,0,0,[],[]⟩:aA),0,3)
 ) else (
   bno (gix a0 0) fun x3 =>
   bno (eI (x3.toNat:Int)) fun x4 =>
   bnd (decide (x4=([45]:List Ai))) fun x5 =>
   bif x5 then (
    some ((⟨0,false,0,0,0,0,0,0,[],[]⟩:aA),0,12)
   ) else (
     bnd (decide ((a0.length:Int)<2)) fun x7 =>
     bif x7 then (
      some ((⟨0,false,0,0,0,0,0,0,[],[]⟩:aA),0,3)
     ) else (
       bno (gix a0 1) fun x9 =>
       bnd (decide (1<(x9.toNat:Int))) fun x10 =>
       bif x10 then (
        some ((⟨0,false,0,0,0,0,0,0,[],[]⟩:aA),0,4)
       ) else (
         bno (cut a0 2 (a0.length:Int)) fun x12 =>
         bno (jT x12) fun x13 =>
         bnd (!decide (x13.2.2=0)) fun x14 =>
         bif x14 then (
          some ((⟨0,false,0,0,0,0,0,0,[],[]⟩:aA),0,x13.2.2)
         ) else (
           bnd (decide (64<x13.1)) fun x16 =>
           bif x16 then (
            some ((⟨0,false,0,0,0,0,0,0,[],[]⟩:aA),0,5)
           ) else (
             bnd (Ab .i64 ((a0.length:Int)-2)) fun x18 =>
             bnd (Ab .i64 (x18-x13.2.1)) fun x19 =>
             bnd (decide (x19<x13.1)) fun x20 =>
             bif x20 then (
              some ((⟨0,false,0,0,0,0,0,0,[],[]⟩:aA),0,3)
             ) else (
               bno (gix a0 0) fun x22 =>
               bno (gix a0 1) fun x23 =>
               bnd (decide ((x23.toNat:Int)=1)) fun x24 =>
               bnd (Ab .i64 (2+x13.2.1)) fun x25 =>
               bnd (Ab .i64 (2+x13.2.1)) fun x26 =>
               bnd (Ab .i64 (x26+x13.1)) fun x27 =>
               bno (cut a0 x25 x27) fun x28 =>
               bno (kO (x22.toNat:Int) x24 0 0 0 0 0 0 [] x28) fun x29 =>
               bif (!x29.2) then (
                some ((⟨0,false,0,0,0,0,0,0,[],[]⟩:aA),0,4)
               ) else (
                 bno (gW x29.1) fun x31 =>
                 bnd (!decide (x31=0)) fun x32 =>
                 bif x32 then (
                  bno (gW x29.1) fun x34 =>
                  some ((⟨0,false,0,0,0,0,0,0,[],[]⟩:aA),0,x34)
                 ) else (
                   bnd (Ab .i64 (2+x13.2.1)) fun x35 =>
                   bnd (Ab .i64 (x35+x13.1)) fun x36 =>
                   some (x29.1,x36,0)
                 )
               )
             )
           )
         )
       )
     )
   )
 )

end Go.Fn
open Go Go.IL
namespace Go.Fn
structure aK where
 bq:(List Ai)
 bv:Int
 bf:Int
 deriving DecidableEq,Inhabited
def aCF:Enc aK:=⟨⟨fun x=>.agg [.str x.bq,.int .i64 x.bv,.int .i64 x.bf],3,by decide,fun _=>⟨rfl,rfl⟩⟩,fun _=>rfl⟩


variable [Fu]
def oJ (a0:aK):Ad Int :=
 bnd (!decide (a0.bv=0)) fun x1 =>
 bnd (!decide (a0.bq=([]:List Ai))) fun x2 =>
 bnd (x1&&x2) fun x3 =>
 bif x3 then (
  some 4
 ) else (
   bno (vE a0.bq) fun x5 =>
   bnd (!decide (x5.2.2=3)) fun x6 =>
   bnd (decide (80<(a0.bq.length:Int))) fun x7 =>
   bnd (x6||x7) fun x8 =>
   bif x8 then (
    some 5
   ) else (
     bnd (decide (a0.bf<0)) fun x10 =>
     bif x10 then (
      some 8
     ) else (
       some 0
     )
   )
 )

def mC (v37:(List Ai)) (v38:Int) (v39:Int) (v40:(List aA)):Ad (aK×(List aA)) :=
 some ((⟨v37,v38,v39⟩:aK),v40)
def jZ (a0:aK):Nat→(List Ai)→Int→(List aA)→Ad (aK×(List aA))
 | 0,_,_,_=>none
 | n2 + 1,v50,v51,v52 =>
   bno (vE v50) fun x62 =>
   bnd (decide (x62.2.2=0)) fun x63 =>
   bif x63 then (
    bno (cut v50 x62.2.1 (v50.length:Int)) fun x65 =>
    bnd (Ab .i64 (v51+1)) fun x66 =>
    bno (app 96 v52 ([x62.1]:(List aA))) fun x67 =>
    bif (!true) then (
     mC x65 a0.bv x66 x67
    ) else (
      (jZ a0 n2) x65 x66 x67
    )
   ) else (
     bnd (decide (x62.2.2=3)) fun x69 =>
     bif x69 then (
      mC v50 a0.bv v51 v52
     ) else (
       mC ([]:(List Ai)) x62.2.2 v51 v52
     )
   )
def pT (a0:aK) (a1:(List Ai)):Ad (aK×(List aA)) :=
 bnd (!decide (a0.bv=0)) fun x1 =>
 bno (gd (x1 == false) (oJ a0) default) fun x2 =>
 bnd (!decide (x2=0)) fun x3 =>
 bnd (x1||x3) fun x4 =>
 bif x4 then (
  some (a0,[])
 ) else (
   bno (cat a0.bq a1) fun x6 =>
   jZ a0 fuel x6 a0.bf ([]:(List aA))
 )

def iI (a0:(List aA)):Nat→(List aA)→Int→Ad (List aA)
 | 0,_,_=>none
 | n0+1,v6,v7 =>
   bnd (decide (v7<(a0.length:Int))) fun x13 =>
   bif x13 then (
    bno (gix a0 v7) fun x15 =>
    bno (app 96 v6 ([x15]:(List aA))) fun x16 =>
    bnd (Ab .i64 (v7+1)) fun x17 =>
    (iI a0 n0) x16 x17
   ) else (
     some v6
   )
def iP (a0:(List aA)):Ad (List aA) :=
 iI a0 fuel ([]:(List aA)) 0

def gS (a0:(List aA)) (a1:(List aA)):Nat→Int→Ad Bool
 | 0,_=>none
 | n0 + 1,v10 =>
   bnd (decide (v10<(a0.length:Int))) fun x18 =>
   bif x18 then (
    bno (gix a0 v10) fun x20 =>
    bno (gix a1 v10) fun x21 =>
    bno (oZ x20 x21) fun x22 =>
    bif (!x22) then (
     some false
    ) else (
      bnd (Ab .i64 (v10+1)) fun x24 =>
      (gS a0 a1 n0) x24
    )
   ) else (
     some true
   )
def fK (a0:(List aA)) (a1:(List aA)):Ad Bool :=
 bnd (!decide ((a0.length:Int)=(a1.length:Int))) fun x1 =>
 bif x1 then (
  some false
 ) else (
   gS a0 a1 fuel 0
 )

end Go.Fn
open Go Go.IL
namespace Go.Fn
structure aIE where
 aq:Int
 N:Int
 bu:Int
 bx:Bool
 deriving DecidableEq,Inhabited
structure aD where
 aa:Int
 To:Int
 bu:Int
 bx:Bool
 deriving DecidableEq,Inhabited
def aB:Enc aD:=⟨⟨fun x=>.agg [.int .i64 x.aa,.int .i64 x.To,.int .i64 x.bu,.bool x.bx],4,by decide,fun _=>⟨rfl,rfl⟩⟩,fun _=>rfl⟩

structure aC where
 aa:Int
 To:Int
 deriving DecidableEq,Inhabited
def aO:Enc aC:=⟨⟨fun x=>.agg [.int .i64 x.aa,.int .i64 x.To],2,by decide,fun _=>⟨rfl,rfl⟩⟩,fun _=>rfl⟩

structure aF where
 ag:Int
 aj:(List Ai)
 ak:Int
 ah:(List aD)
 ay:(List aC)
 aw:Bool
 az:Bool
 ax:Bool
 ba:Bool
 deriving DecidableEq,Inhabited
def aFI:Enc aF:=⟨⟨fun x=>.agg [.int .i64 x.ag,.str x.aj,.int .i64 x.ak,.slice false (x.ah.map aB.d),.slice false (x.ay.map aO.d),.bool x.aw,.bool x.az,.bool x.ax,.bool x.ba],9,by decide,fun _=>⟨rfl,rfl⟩⟩,fun _=>rfl⟩

variable [Fu]
def aGC  : Ad aF :=
 some (⟨0,[],0,[],[],false,false,false,false⟩:aF)

def cO (a0:(List aC)):Ad (List aC) :=
 aCO a0 (
  some []
 ) (
   bno (app 16 ([]:(List aC)) a0) fun x3 =>
   some x3
 )

def gM (a0:aF):Ad (Int×(List Ai)×Int×(List aD)×(List aC)×Bool×Bool×Bool×Bool) :=
 bno (made 32 (a0.ah.length:Int) ((⟨0,0,0,false⟩:aD):aD)) fun x1 =>
 bnd (cpy x1 a0.ah) fun x2 =>
 bno (cO a0.ay) fun x3 =>
 some (a0.ag,a0.aj,a0.ak,x2,x3,a0.aw,a0.az,a0.ax,a0.ba)

def aAD (a0:Int):Ad Bool :=
 bnd (decide (0≤a0)) fun x1 =>
 bnd (decide (a0≤4611686018427387903)) fun x2 =>
 bnd (x1&&x2) fun x3 =>
 some x3

def jE (a0:aC):Ad Bool :=
 bno (aAD a0.aa) fun x1 =>
 bno (gd (x1 == true) (aAD a0.To) default) fun x2 =>
 bnd (x1&&x2) fun x3 =>
 some x3

def sS (a0:aC):Ad Bool :=
 bno (jE (⟨a0.aa,a0.To⟩:aC)) fun x1 =>
 some (!x1)

def bL (a0:(List aC)):Nat→Int→Ad Int
 | 0,_=>none
 | n0 + 1,v7 =>
   bnd (decide (v7<(a0.length:Int))) fun x14 =>
   bif x14 then (
    bno (gix a0 v7) fun x16 =>
    bno (sS (⟨x16.aa,x16.To⟩:aC)) fun x17 =>
    bif x17 then (
     some v7
    ) else (
      bnd (Ab .i64 (v7+1)) fun x19 =>
      (bL a0 n0) x19
    )
   ) else (
     some (-1)
   )
def fN (a0:(List aC)):Ad Int :=
 bL a0 fuel 0

def dD (a0:(List aC)):Ad Bool :=
 bno (fN a0) fun x1 =>
 bnd (decide (0≤x1)) fun x2 =>
 some x2

def gE (a0:aC):Ad Bool :=
 bnd (decide (a0.To≤a0.aa)) fun x1 =>
 some x1

def bQ (a0:(List aC)):Nat→Int→Ad Int
 | 0,_=>none
 | n0 + 1,v7 =>
   bnd (decide (v7<(a0.length:Int))) fun x14 =>
   bif x14 then (
    bno (gix a0 v7) fun x16 =>
    bno (gE (⟨x16.aa,x16.To⟩:aC)) fun x17 =>
    bif x17 then (
     some v7
    ) else (
      bnd (Ab .i64 (v7+1)) fun x19 =>
      (bQ a0 n0) x19
    )
   ) else (
     some (-1)
   )
def gK (a0:(List aC)):Ad Int :=
 bQ a0 fuel 0

def dQ (a0:(List aC)):Ad Bool :=
 bno (gK a0) fun x1 =>
 bnd (decide (0≤x1)) fun x2 =>
 some x2

def lN (a0:(List aC)):Nat→Int→Ad Int
 | 0,_=>none
 | n0 + 1,v13 =>
   bnd (decide (v13<(a0.length:Int))) fun x22 =>
   bif x22 then (
    bno (gix a0 v13) fun x24 =>
    bnd (Ab .i64 (v13-1)) fun x25 =>
    bno (gix a0 x25) fun x26 =>
    bnd (decide (x24.aa≤x26.To)) fun x27 =>
    bif x27 then (
     some 10
    ) else (
      bnd (Ab .i64 (v13+1)) fun x29 =>
      (lN a0 n0) x29
    )
   ) else (
     some 0
   )
def nO (a0:(List aC)):Ad Int :=
 bno (dD a0) fun x1 =>
 bif x1 then (
  some 8
 ) else (
   bno (dQ a0) fun x3 =>
   bif x3 then (
    some 4
   ) else (
     lN a0 fuel 1
   )
 )

def qF (a0:aF):Ad Bool :=
 bno (nO a0.ay) fun x1 =>
 bnd (!decide (x1=0)) fun x2 =>
 bif x2 then (
  some false
 ) else (
   bnd (decide ((a0.ay.length:Int)=0)) fun x4 =>
   bno (gd (x4 == false) (gix a0.ay 0) default) fun x5 =>
   bnd (decide (a0.ag≤x5.aa)) fun x6 =>
   bnd (Ab .i64 ((a0.ay.length:Int)-1)) fun x7 =>
   bno (gd ((x4 == false)&&(x6 == true)) (gix a0.ay x7) default) fun x8 =>
   bnd (decide (x8.To≤a0.ak)) fun x9 =>
   bnd (x6&&x9) fun x10 =>
   bnd (x4||x10) fun x11 =>
   some x11
 )

def mV (a0:Int):Ad Bool :=
 bnd (decide (0≤a0)) fun x1 =>
 bnd (decide (a0<4)) fun x2 =>
 bnd (x1&&x2) fun x3 =>
 some x3

def iJ (a0:aD):Ad aC :=
 some (⟨a0.aa,a0.To⟩:aC)

def bW (a0:(List aC)):Ad (List aC) :=
 aCO a0 (
  some ([]:(List aC))
 ) (
   bno (app 16 ([]:(List aC)) a0) fun x3 =>
   some x3
 )

def gN (v52:Int) (kk0:Int→(List aC)→Ad (List aC)) (x99:aC) (x100:Int) (x101:Int):Nat→Int→(List aC)→Ad (List aC)
 | 0,_,_=>none
 | n1 + 1,v113,v114 =>
   bnd (decide (v113<2)) fun x127 =>
   bif x127 then (
    bno (gix ([(⟨x99.aa,x100⟩:aC),(⟨x101,x99.To⟩:aC)]:List aC) v113) fun x129 =>
    bno (gE (⟨x129.aa,x129.To⟩:aC)) fun x130 =>
    bif ((!x130) == true) then (
     bno (app 16 v114 (([(⟨x129.aa,x129.To⟩:aC)]:(List aC)))) fun x132 =>
     bnd ((!x130)&&(!true)) fun x133 =>
     bif x133 then (
      some x132
     ) else (
       bnd (Ab .i64 (v113+1)) fun x135 =>
       (gN v52 kk0 x99 x100 x101 n1) x135 x132
     )
    ) else (
      bnd ((!x130)&&(!false)) fun x136 =>
      bif x136 then (
       some v114
      ) else (
        bnd (Ab .i64 (v113+1)) fun x138 =>
        (gN v52 kk0 x99 x100 x101 n1) x138 v114
      )
    )
   ) else (
     bnd (Ab .i64 (v52+1)) fun x139 =>
     kk0 x139 v114
   )
def lF (a0:(List aC)) (a1:aC):Nat→Int→(List aC)→Ad (List aC)
 | 0,_,_=>none
 | n0+1,v52,v53 =>
   bnd (decide (v52<(a0.length:Int))) fun x97 =>
   bif x97 then (
    bno (gix a0 v52) fun x99 =>
    bnd (min x99.To a1.aa) fun x100 =>
    bnd (max x99.aa a1.To) fun x101 =>
    gN v52 (lF a0 a1 n0) x99 x100 x101 fuel 0 v53
   ) else (
     some v53
   )
def rR (a0:(List aC)) (a1:aC):Ad (List aC) :=
 bno (jE (⟨a1.aa,a1.To⟩:aC)) fun x1 =>
 bno (gd ((!x1) == false) (gE (⟨a1.aa,a1.To⟩:aC)) default) fun x2 =>
 bnd ((!x1)||x2) fun x3 =>
 bno (gd (x3 == false) (nO a0) default) fun x4 =>
 bnd (!decide (x4=0)) fun x5 =>
 bnd (x3||x5) fun x6 =>
 bif x6 then (
  bno (bW a0) fun x8 =>
  some x8
 ) else (
   lF a0 a1 fuel 0 ([]:(List aC))
 )

def oH (a0:(List aC)):Nat→(List aC)→Int→Ad (List aC)
 | 0,_,_=>none
 | n0+1,v13,v14 =>
   bnd (decide (v14<(a0.length:Int))) fun x20 =>
   bif x20 then (
    bno (gix a0 v14) fun x22 =>
    bno (rR v13 (⟨x22.aa,x22.To⟩:aC)) fun x23 =>
    bnd (Ab .i64 (v14+1)) fun x24 =>
    (oH a0 n0) x23 x24
   ) else (
     some v13
   )
def xV (a0:(List aC)) (a1:aC):Ad (List aC) :=
 bno (jE (⟨a1.aa,a1.To⟩:aC)) fun x1 =>
 bno (gd ((!x1) == false) (nO a0) default) fun x2 =>
 bnd (!decide (x2=0)) fun x3 =>
 bnd ((!x1)||x3) fun x4 =>
 bno (gd (x4 == false) (gE (⟨a1.aa,a1.To⟩:aC)) default) fun x5 =>
 bnd (x4||x5) fun x6 =>
 bif x6 then (
  some []
 ) else (
   oH a0 fuel (([(⟨a1.aa,a1.To⟩:aC)]:(List aC))) 0
 )

def cD (a0:(List aC)) (a1:(List aC)):Nat→Int→Ad Bool
 | 0,_=>none
 | n0 + 1,v10 =>
   bnd (decide (v10<(a0.length:Int))) fun x18 =>
   bif x18 then (
    bno (gix a0 v10) fun x20 =>
    bno (gix a1 v10) fun x21 =>
    bnd ((decide (x20.aa=x21.aa)&&(decide (x20.To=x21.To)&&true))) fun x22 =>
    bif (!x22) then (
     some false
    ) else (
      bnd (Ab .i64 (v10+1)) fun x24 =>
      (cD a0 a1 n0) x24
    )
   ) else (
     some true
   )
def gA (a0:(List aC)) (a1:(List aC)):Ad Bool :=
 bnd (!decide ((a0.length:Int)=(a1.length:Int))) fun x1 =>
 bif x1 then (
  some false
 ) else (
   cD a0 a1 fuel 0
 )

def vD (a0:(List aC)) (a1:(List aC)):Ad Bool :=
 bno (gA a0 a1) fun x1 =>
 some x1

def qG (a0:aF) (a1:aD) (a2:Int):Ad Bool :=
 bnd (decide (a1.aa<a2)) fun x1 =>
 bnd (decide (a1.To<a1.aa)) fun x2 =>
 bnd (x1||x2) fun x3 =>
 bnd (decide (a0.ak<a1.To)) fun x4 =>
 bnd (x3||x4) fun x5 =>
 bno (gd (x5 == false) (mV a1.bu) default) fun x6 =>
 bnd (x5||(!x6)) fun x7 =>
 bif x7 then (
  some false
 ) else (
   bnd (decide (a1.aa=a1.To)) fun x9 =>
   bif x9 then (
    some a1.bx
   ) else (
     bno (iJ a1) fun x11 =>
     bno (xV a0.ay (⟨x11.aa,x11.To⟩:aC)) fun x12 =>
     bno (iJ a1) fun x13 =>
     bno (vD x12 ([(⟨x13.aa,x13.To⟩:aC)]:(List aC))) fun x14 =>
     some x14
   )
 )

def eX (a0:aF):Ad Int :=
 bnd (Ab .i64 (a0.ag+(a0.aj.length:Int))) fun x1 =>
 some x1

def gD (a0:aF):Nat→Int→Int→Ad Bool
 | 0,_,_=>none
 | n0 + 1,v11,v12 =>
   bnd (decide (v12<(a0.ah.length:Int))) fun x23 =>
   bif x23 then (
    bno (gix a0.ah v12) fun x25 =>
    bif x25.bx then (
     bnd (Ab .i64 (v11+1)) fun x27 =>
     bno (eX a0) fun x28 =>
     bnd (!decide (x25.To=x28)) fun x29 =>
     bif x29 then (
      some false
     ) else (
       bnd (Ab .i64 (v12+1)) fun x31 =>
       (gD a0 n0) x27 x31
     )
    ) else (
      bnd (Ab .i64 (v12+1)) fun x32 =>
      (gD a0 n0) v11 x32
    )
   ) else (
     bif (!a0.az) then (
      bnd (decide (v11=0)) fun x34 =>
      bnd (x34&&(!a0.ax)) fun x35 =>
      bnd (x35&&(!a0.ba)) fun x36 =>
      some x36
     ) else (
       bno (gd ((!a0.aw) == false) (eX a0) default) fun x37 =>
       bnd (!decide (a0.ak=x37)) fun x38 =>
       bnd ((!a0.aw)||x38) fun x39 =>
       bnd (a0.ax&&a0.ba) fun x40 =>
       bnd (x39||x40) fun x41 =>
       bif x41 then (
        some false
       ) else (
         bnd ((!a0.ax)&&(!a0.ba)) fun x43 =>
         bnd (decide (v11=1)) fun x44 =>
         bnd (x43&&x44) fun x45 =>
         bnd (decide (v11=0)) fun x46 =>
         bnd ((!x43)&&x46) fun x47 =>
         bnd (x45||x47) fun x48 =>
         some x48
       )
     )
   )
def tL (a0:aF):Ad Bool :=
 gD a0 fuel 0 0

def oD (a0:aF):Nat→Int→Int→Ad Int
 | 0,_,_=>none
 | n1 + 1,v21,v22 =>
   bnd (decide (v22<(a0.ah.length:Int))) fun x29 =>
   bif x29 then (
    bno (gix a0.ah v22) fun x31 =>
    bno (qG a0 x31 v21) fun x32 =>
    bif (!x32) then (
     some 10
    ) else (
      bnd (Ab .i64 (v22+1)) fun x34 =>
      (oD a0 n1) x31.To x34
    )
   ) else (
     bno (tL a0) fun x35 =>
     bif (!x35) then (
      some 9
     ) else (
       some 0
     )
   )
def oE (a0:aF) (v9:Bool):Ad Int :=
 bif v9 then (
  some 8
 ) else (
   bnd (decide (4096<(a0.aj.length:Int))) fun x11 =>
   bif x11 then (
    some 5
   ) else (
     bno (qF a0) fun x13 =>
     bif (!x13) then (
      some 4
     ) else (
       oD a0 fuel a0.ag 0
     )
   )
 )
def lU (a0:aF):Ad Int :=
 bnd (decide (a0.ag<0)) fun x37 =>
 bif x37 then (
  oE a0 x37
 ) else (
   bnd (decide (1099511623680<a0.ag)) fun x39 =>
   bif x39 then (
    oE a0 x39
   ) else (
     bnd (decide (a0.ak<a0.ag)) fun x41 =>
     bif x41 then (
      oE a0 x41
     ) else (
       bnd (Ab .i64 (a0.ak-a0.ag)) fun x43 =>
       bnd (decide ((a0.aj.length:Int)<x43)) fun x44 =>
       oE a0 x44
     )
   )
 )

def wU (a0:aF):Ad Int :=
 bif a0.aw then (
  some 0
 ) else (
   bnd (Ab .i64 (4096-(a0.aj.length:Int))) fun x2 =>
   some x2
 )

def xM (a0:aF) (a1:(List Ai)):Ad (aF×Int) :=
 bno (gM a0) fun x1 =>
 bno (lU a0) fun x2 =>
 bnd (!decide (x2=0)) fun x3 =>
 bif x3 then (
  some ((⟨x1.1,x1.2.1,x1.2.2.1,x1.2.2.2.1,x1.2.2.2.2.1,x1.2.2.2.2.2.1,x1.2.2.2.2.2.2.1,x1.2.2.2.2.2.2.2.1,x1.2.2.2.2.2.2.2.2⟩:aF),0)
 ) else (
   bno (wU a0) fun x5 =>
   bnd (min x5 (a1.length:Int)) fun x6 =>
   bno (eX a0) fun x7 =>
   bnd (Ab .i64 (1099511623680-x6)) fun x8 =>
   bnd (decide (x8<x7)) fun x9 =>
   bif x9 then (
    some ((⟨x1.1,x1.2.1,x1.2.2.1,x1.2.2.2.1,x1.2.2.2.2.1,x1.2.2.2.2.2.1,x1.2.2.2.2.2.2.1,x1.2.2.2.2.2.2.2.1,x1.2.2.2.2.2.2.2.2⟩:aF),0)
   ) else (
     bno (cut a1 0 x6) fun x11 =>
     bno (cat x1.2.1 x11) fun x12 =>
     some ((⟨x1.1,x12,x1.2.2.1,x1.2.2.2.1,x1.2.2.2.2.1,x1.2.2.2.2.2.1,x1.2.2.2.2.2.2.1,x1.2.2.2.2.2.2.2.1,x1.2.2.2.2.2.2.2.2⟩:aF),x6)
   )
 )

def oP (a0:aF):Ad Bool :=
 bnd ((!a0.aw)||a0.ba) fun x1 =>
 bif x1 then (
  some false
 ) else (
   bnd (a0.ax||(!a0.az)) fun x3 =>
   some x3
 )

def nI (a0:aF) (a1:Int) (a2:Int):Ad (aD×Bool) :=
 bnd (decide (0<(a0.ay.length:Int))) fun x1 =>
 bif x1 then (
  bno (gix a0.ay 0) fun x3 =>
  bnd (Ab .i64 (x3.To-x3.aa)) fun x4 =>
  bnd (min a1 x4) fun x5 =>
  bnd (Ab .i64 (x3.aa+x5)) fun x6 =>
  some ((⟨x3.aa,x6,0,false⟩:aD),true)
 ) else (
   bno (eX a0) fun x7 =>
   bnd (Ab .i64 (x7-a0.ak)) fun x8 =>
   bnd (decide (0<x8)) fun x9 =>
   bif x9 then (
    bnd (max a2 a0.ak) fun x11 =>
    bnd (Ab .i64 (x11-a0.ak)) fun x12 =>
    bnd (min (min x8 a1) x12) fun x13 =>
    bnd (Ab .i64 (a0.ak+x13)) fun x14 =>
    bnd (decide (0<x13)) fun x15 =>
    some ((⟨a0.ak,x14,0,false⟩:aD),x15)
   ) else (
     bno (oP a0) fun x16 =>
     some ((⟨a0.ak,a0.ak,0,false⟩:aD),x16)
   )
 )

def qE (a0:aD) (a1:aD):Ad Bool :=
 bnd (decide (a1.aa<a0.aa)) fun x1 =>
 bnd (decide (a0.aa=a1.aa)) fun x2 =>
 bnd (decide (a1.To≤a0.To)) fun x3 =>
 bnd (x2&&x3) fun x4 =>
 bnd (x1||x4) fun x5 =>
 some x5

def bC (a0:(List aD)) (a1:aD):Nat→Int→Ad Int
 | 0,_=>none
 | n0 + 1,v7 =>
   bnd (decide (v7<(a0.length:Int))) fun x14 =>
   bif x14 then (
    bno (gix a0 v7) fun x16 =>
    bno (qE x16 a1) fun x17 =>
    bif x17 then (
     some v7
    ) else (
      bnd (Ab .i64 (v7+1)) fun x19 =>
      (bC a0 a1 n0) x19
    )
   ) else (
     some (-1)
   )
def cL (a0:(List aD)) (a1:aD):Ad Int :=
 bC a0 a1 fuel 0

def kJ (a0:aF) (a1:aD):Ad Int :=
 bno (cut a0.ah 0 (a0.ah.length:Int)) fun x1 =>
 bno (eX a0) fun x2 =>
 bno (eX a0) fun x3 =>
 bnd (Ab .i64 (x3+1)) fun x4 =>
 bno (app 32 x1 (([(⟨x2,x4,0,false⟩:aD)]:(List aD)))) fun x5 =>
 bno (cL x5 a1) fun x6 =>
 some x6

def dN (a0:Int) (a1:(List aD)) (a2:(List aD)):Ad (List aD):=insS 32 a2 a0 a1

def nJ (a0:aF) (a1:Int) (x1:(Int×(List Ai)×Int×(List aD)×(List aC)×Bool×Bool×Bool×Bool)) (x9:(aD×Bool)) (x11:Int) (v16:(List aC)) (v22:Bool) (v23:Bool) (v24:Bool):Ad (aF×aD×(List Ai)×Bool) :=
 bno (kJ a0 (⟨x9.1.aa,x9.1.To,a1,v24⟩:aD)) fun x25 =>
 bno (dN x25 ([(⟨x9.1.aa,x9.1.To,a1,v24⟩:aD)]:(List aD)) x1.2.2.2.1) fun x26 =>
 bnd (Ab .i64 (x9.1.aa-a0.ag)) fun x27 =>
 bnd (Ab .i64 (x9.1.To-a0.ag)) fun x28 =>
 bno (cut a0.aj x27 x28) fun x29 =>
 some (((⟨x1.1,x1.2.1,x11,x26,v16,x1.2.2.2.2.2.1,v22,v23,x1.2.2.2.2.2.2.2.2⟩:aF),(⟨x9.1.aa,x9.1.To,a1,v24⟩:aD),x29,true))
def rK (a0:aF) (a1:Int) (x1:(Int×(List Ai)×Int×(List aD)×(List aC)×Bool×Bool×Bool×Bool)) (x9:(aD×Bool)) (x11:Int) (v16:(List aC)):Ad (aF×aD×(List Ai)×Bool) :=
 bno (eX a0) fun x30 =>
 bnd (decide (x9.1.To=x30)) fun x31 =>
 bno (gd (x31 == true) (oP a0) default) fun x32 =>
 bnd (x31&&x32) fun x33 =>
 bif x33 then (
  nJ a0 a1 x1 x9 x11 v16 true false x33
 ) else (
   nJ a0 a1 x1 x9 x11 v16 x1.2.2.2.2.2.2.1 x1.2.2.2.2.2.2.2.1 x33
 )
def lT (a0:aF) (a1:Int) (a2:Int) (a3:Int):Ad (aF×aD×(List Ai)×Bool) :=
 bno (gM a0) fun x1 =>
 bno (mV a1) fun x2 =>
 bnd (decide (a2<1)) fun x3 =>
 bnd ((!x2)||x3) fun x4 =>
 bno (gd (x4 == false) (lU a0) default) fun x5 =>
 bnd (!decide (x5=0)) fun x6 =>
 bnd (x4||x6) fun x7 =>
 bif x7 then (
  some (((⟨x1.1,x1.2.1,x1.2.2.1,x1.2.2.2.1,x1.2.2.2.2.1,x1.2.2.2.2.2.1,x1.2.2.2.2.2.2.1,x1.2.2.2.2.2.2.2.1,x1.2.2.2.2.2.2.2.2⟩:aF),(⟨0,0,0,false⟩:aD),[],false))
 ) else (
   bno (nI a0 a2 a3) fun x9 =>
   bif (!x9.2) then (
    some (((⟨x1.1,x1.2.1,x1.2.2.1,x1.2.2.2.1,x1.2.2.2.2.1,x1.2.2.2.2.2.1,x1.2.2.2.2.2.2.1,x1.2.2.2.2.2.2.2.1,x1.2.2.2.2.2.2.2.2⟩:aF),(⟨0,0,0,false⟩:aD),[],false))
   ) else (
     bnd (max x1.2.2.1 x9.1.To) fun x11 =>
     bnd (decide (x9.1.aa<x9.1.To)) fun x35 =>
     bif x35 then (
      bno (iJ (⟨x9.1.aa,x9.1.To,a1,x9.1.bx⟩:aD)) fun x37 =>
      bno (rR x1.2.2.2.2.1 (⟨x37.aa,x37.To⟩:aC)) fun x38 =>
      rK a0 a1 x1 x9 x11 x38
     ) else (
       rK a0 a1 x1 x9 x11 x1.2.2.2.2.1
     )
   )
 )

def pG (a0:aD) (a1:Int):Ad Bool :=
 bnd (decide (a0.bu=a1)) fun x1 =>
 some x1

def lZ (a0:aC) (a1:(List aC)):Ad (List aC) :=
 bno (gE (⟨a0.aa,a0.To⟩:aC)) fun x1 =>
 bif x1 then (
  some a1
 ) else (
   bnd (decide (0<(a1.length:Int))) fun x3 =>
   bnd (Ab .i64 ((a1.length:Int)-1)) fun x4 =>
   bno (gd (x3 == true) (gix a1 x4) default) fun x5 =>
   bno (gd (x3 == true) (a1[(x4:Int).toNat]?) default) fun x6 =>
   bnd (decide (a0.aa≤x6.To)) fun x7 =>
   bnd (x3&&x7) fun x8 =>
   bif x8 then (
    bnd (Ab .i64 ((a1.length:Int)-1)) fun x10 =>
    bnd (Ab .i64 ((a1.length:Int)-1)) fun x11 =>
    bno (gix a1 x11) fun x12 =>
    bno (a1[(x11:Int).toNat]?) fun x13 =>
    bnd (max x13.To a0.To) fun x14 =>
    bno (gix a1 x10) fun x15 =>
    bno (a1[(x10:Int).toNat]?) fun x16 =>
    bnd (a1.set ((x10:Int).toNat) (⟨x16.aa,x14⟩:aC)) fun x17 =>
    some x17
   ) else (
     bno (app 16 a1 (([(⟨a0.aa,a0.To⟩:aC)]:(List aC)))) fun x18 =>
     some x18
   )
 )

def rS (v26:Int) (kk0:(List aC)→Bool→Int→Ad (List aC)) (x44:aC) (v49:(List aC)) (v50:Bool):Ad (List aC) :=
 bno (lZ (⟨x44.aa,x44.To⟩:aC) v49) fun x51 =>
 bnd (Ab .i64 (v26+1)) fun x52 =>
 kk0 x51 v50 x52
def lG (a0:(List aC)) (a1:aC):Nat→(List aC)→Bool→Int→Ad (List aC)
 | 0,_,_,_=>none
 | n0 + 1,v24,v25,v26 =>
   bnd (decide (v26<(a0.length:Int))) fun x42 =>
   bif x42 then (
    bno (gix a0 v26) fun x44 =>
    bnd (decide (a1.aa≤x44.aa)) fun x53 =>
    bnd ((!v25)&&x53) fun x54 =>
    bif x54 then (
     bno (lZ (⟨a1.aa,a1.To⟩:aC) v24) fun x56 =>
     rS v26 (lG a0 a1 n0) x44 x56 true
    ) else (
      rS v26 (lG a0 a1 n0) x44 v24 v25
    )
   ) else (
     bif (!v25) then (
      bno (lZ (⟨a1.aa,a1.To⟩:aC) v24) fun x58 =>
      some x58
     ) else (
       some v24
     )
   )
def aAE (a0:(List aC)) (a1:aC):Ad (List aC) :=
 bno (jE (⟨a1.aa,a1.To⟩:aC)) fun x1 =>
 bno (gd ((!x1) == false) (gE (⟨a1.aa,a1.To⟩:aC)) default) fun x2 =>
 bnd ((!x1)||x2) fun x3 =>
 bno (gd (x3 == false) (nO a0) default) fun x4 =>
 bnd (!decide (x4=0)) fun x5 =>
 bnd (x3||x5) fun x6 =>
 bif x6 then (
  bno (bW a0) fun x8 =>
  some x8
 ) else (
   lG a0 a1 fuel ([]:(List aC)) false 0
 )

def cE (a0:(List aD)) (a1:Int):Nat→Int→Ad Int
 | 0,_=>none
 | n0 + 1,v7 =>
   bnd (decide (v7<(a0.length:Int))) fun x14 =>
   bif x14 then (
    bno (gix a0 v7) fun x16 =>
    bno (pG x16 a1) fun x17 =>
    bif x17 then (
     some v7
    ) else (
      bnd (Ab .i64 (v7+1)) fun x19 =>
      (cE a0 a1 n0) x19
    )
   ) else (
     some (-1)
   )
def dO (a0:(List aD)) (a1:Int):Ad Int :=
 cE a0 a1 fuel 0

def aZ (a1:Int):Nat→(List aD)→Int→Int→Ad (List aD)
 | 0,_,_,_=>none
 | n0 + 1,v17,v18,v19 =>
   bnd (decide (v19<(v17.length:Int))) fun x32 =>
   bif x32 then (
    bno (gix v17 v19) fun x34 =>
    bno (v17[(v19:Int).toNat]?) fun x35 =>
    bno (pG x35 a1) fun x36 =>
    bif (!x36) then (
     bno (gix v17 v18) fun x38 =>
     bno (v17[(v18:Int).toNat]?) fun x39 =>
     bnd (v17.set ((v18:Int).toNat) x35) fun x40 =>
     bnd (Ab .i64 (v18+1)) fun x41 =>
     bnd (Ab .i64 (v19+1)) fun x42 =>
     (aZ a1 n0) x40 x41 x42
    ) else (
      bnd (Ab .i64 (v19+1)) fun x43 =>
      (aZ a1 n0) v17 v18 x43
    )
   ) else (
     bno (cut v17 0 v18) fun x44 =>
     bno (cut x44 0 v18) fun x45 =>
     some x45
   )
def bU (a0:(List aD)) (a1:Int):Ad (List aD) :=
 bno (dO a0 a1) fun x1 =>
 bnd (decide (x1=(-1))) fun x2 =>
 bif x2 then (
  some a0
 ) else (
   bnd (Ab .i64 (x1+1)) fun x4 =>
   aZ a1 fuel a0 x1 x4
 )

def nK (a0:aF) (a1:Int) (x1:(Int×(List Ai)×Int×(List aD)×(List aC)×Bool×Bool×Bool×Bool)):Nat→Int→(List aC)→Bool→Ad aF
 | 0,_,_,_=>none
 | n0 + 1,v15,v16,v17 =>
   bnd (decide (v15<(a0.ah.length:Int))) fun x28 =>
   bif x28 then (
    bno (gix a0.ah v15) fun x30 =>
    bno (pG x30 a1) fun x31 =>
    bif x31 then (
     bno (iJ x30) fun x33 =>
     bno (aAE v16 (⟨x33.aa,x33.To⟩:aC)) fun x34 =>
     bnd (v17||x30.bx) fun x35 =>
     bnd (Ab .i64 (v15+1)) fun x36 =>
     (nK a0 a1 x1 n0) x36 x34 x35
    ) else (
      bnd (Ab .i64 (v15+1)) fun x37 =>
      (nK a0 a1 x1 n0) x37 v16 v17
    )
   ) else (
     bno (bU x1.2.2.2.1 a1) fun x38 =>
     some (⟨x1.1,x1.2.1,x1.2.2.1,x38,v16,x1.2.2.2.2.2.1,x1.2.2.2.2.2.2.1,v17,x1.2.2.2.2.2.2.2.2⟩:aF)
   )
def zP (a0:aF) (a1:Int):Ad aF :=
 bno (gM a0) fun x1 =>
 bno (lU a0) fun x2 =>
 bnd (!decide (x2=0)) fun x3 =>
 bif x3 then (
  some (⟨x1.1,x1.2.1,x1.2.2.1,x1.2.2.2.1,x1.2.2.2.2.1,x1.2.2.2.2.2.1,x1.2.2.2.2.2.2.1,x1.2.2.2.2.2.2.2.1,x1.2.2.2.2.2.2.2.2⟩:aF)
 ) else (
   nK a0 a1 x1 fuel 0 x1.2.2.2.2.1 x1.2.2.2.2.2.2.2.1
 )

def tM (a0:aD):Ad Bool :=
 bnd (decide (a0.aa=a0.To)) fun x1 =>
 bnd (x1&&(!a0.bx)) fun x2 =>
 some x2

def cF (a0:(List aD)):Nat→Int→Ad Int
 | 0,_=>none
 | n0 + 1,v7 =>
   bnd (decide (v7<(a0.length:Int))) fun x14 =>
   bif x14 then (
    bno (gix a0 v7) fun x16 =>
    bno (tM x16) fun x17 =>
    bif x17 then (
     some v7
    ) else (
      bnd (Ab .i64 (v7+1)) fun x19 =>
      (cF a0 n0) x19
    )
   ) else (
     some (-1)
   )
def dP (a0:(List aD)):Ad Int :=
 cF a0 fuel 0

def bA  : Nat→(List aD)→Int→Int→Ad (List aD)
 | 0,_,_,_=>none
 | n0 + 1,v17,v18,v19 =>
   bnd (decide (v19<(v17.length:Int))) fun x32 =>
   bif x32 then (
    bno (gix v17 v19) fun x34 =>
    bno (v17[(v19:Int).toNat]?) fun x35 =>
    bno (tM x35) fun x36 =>
    bif (!x36) then (
     bno (gix v17 v18) fun x38 =>
     bno (v17[(v18:Int).toNat]?) fun x39 =>
     bnd (v17.set ((v18:Int).toNat) x35) fun x40 =>
     bnd (Ab .i64 (v18+1)) fun x41 =>
     bnd (Ab .i64 (v19+1)) fun x42 =>
     (bA n0) x40 x41 x42
    ) else (
      bnd (Ab .i64 (v19+1)) fun x43 =>
      (bA n0) v17 v18 x43
    )
   ) else (
     bno (cut v17 0 v18) fun x44 =>
     bno (cut x44 0 v18) fun x45 =>
     some x45
   )
def cG (a0:(List aD)):Ad (List aD) :=
 bno (dP a0) fun x1 =>
 bnd (decide (x1=(-1))) fun x2 =>
 bif x2 then (
  some a0
 ) else (
   bnd (Ab .i64 (x1+1)) fun x4 =>
   bA fuel a0 x1 x4
 )

def mD (a0:aF) (a2:Bool) (x1:(Int×(List Ai)×Int×(List aD)×(List aC)×Bool×Bool×Bool×Bool)) (x14:Int):Nat→Int→(List aD)→Ad aF
 | 0,_,_=>none
 | n0 + 1,v31,v32 =>
   bnd (decide (v31<(x1.2.2.2.1.length:Int))) fun x49 =>
   bif x49 then (
    bno (gix v32 v31) fun x51 =>
    bno (v32[(v31:Int).toNat]?) fun x52 =>
    bnd (max x52.aa x14) fun x53 =>
    bno (v32[(v31:Int).toNat]?) fun x54 =>
    bnd (max x54.To x14) fun x55 =>
    bno (v32[(v31:Int).toNat]?) fun x56 =>
    bnd (v32.set ((v31:Int).toNat) (⟨x53,x56.To,x56.bu,x56.bx⟩:aD)) fun x57 =>
    bno (x57[(v31:Int).toNat]?) fun x58 =>
    bnd (x57.set ((v31:Int).toNat) (⟨x58.aa,x55,x58.bu,x58.bx⟩:aD)) fun x59 =>
    bno (x59[(v31:Int).toNat]?) fun x60 =>
    bnd (x60.bx&&(!a2)) fun x61 =>
    bno (x59[(v31:Int).toNat]?) fun x62 =>
    bnd (x59.set ((v31:Int).toNat) (⟨x62.aa,x62.To,x62.bu,x61⟩:aD)) fun x63 =>
    bnd (Ab .i64 (v31+1)) fun x64 =>
    (mD a0 a2 x1 x14 n0) x64 x63
   ) else (
     bno (cG v32) fun x65 =>
     bnd (Ab .i64 (x14-a0.ag)) fun x66 =>
     bno (cut a0.aj x66 (a0.aj.length:Int)) fun x67 =>
     bno (rR x1.2.2.2.2.1 (⟨0,x14⟩:aC)) fun x68 =>
     bif a2 then (
      some (⟨x14,x67,x1.2.2.1,x65,x68,x1.2.2.2.2.2.1,x1.2.2.2.2.2.2.1,false,true⟩:aF)
     ) else (
       some (⟨x14,x67,x1.2.2.1,x65,x68,x1.2.2.2.2.2.1,x1.2.2.2.2.2.2.1,x1.2.2.2.2.2.2.2.1,x1.2.2.2.2.2.2.2.2⟩:aF)
     )
   )
def uX (a0:aF) (a1:Int) (a2:Bool):Ad aF :=
 bno (gM a0) fun x1 =>
 bno (lU a0) fun x2 =>
 bnd (!decide (x2=0)) fun x3 =>
 bnd (decide (a1<0)) fun x4 =>
 bnd (x3||x4) fun x5 =>
 bnd (decide (a0.ak<a1)) fun x6 =>
 bnd (x5||x6) fun x7 =>
 bno (gd ((x7 == false)&&(a2 == true)) (eX a0) default) fun x8 =>
 bnd (!decide (a1=x8)) fun x9 =>
 bnd (x9||(!a0.az)) fun x10 =>
 bnd (a2&&x10) fun x11 =>
 bnd (x7||x11) fun x12 =>
 bif x12 then (
  some (⟨x1.1,x1.2.1,x1.2.2.1,x1.2.2.2.1,x1.2.2.2.2.1,x1.2.2.2.2.2.1,x1.2.2.2.2.2.2.1,x1.2.2.2.2.2.2.2.1,x1.2.2.2.2.2.2.2.2⟩:aF)
 ) else (
   bnd (max a1 a0.ag) fun x14 =>
   mD a0 a2 x1 x14 fuel 0 x1.2.2.2.1
 )

def zN (a0:aF) (a1:Int):Ad Bool :=
 bno (lU a0) fun x1 =>
 bnd (!decide (x1=0)) fun x2 =>
 bif x2 then (
  some false
 ) else (
   bno (nI a0 1 a1) fun x4 =>
   some x4.2
 )

def cA (a0:(List aD)) (a1:(List aD)):Nat→Int→Ad Bool
 | 0,_=>none
 | n0 + 1,v10 =>
   bnd (decide (v10<(a0.length:Int))) fun x18 =>
   bif x18 then (
    bno (gix a0 v10) fun x20 =>
    bno (gix a1 v10) fun x21 =>
    bnd ((decide (x20.aa=x21.aa)&&(decide (x20.To=x21.To)&&(decide (x20.bu=x21.bu)&&((x20.bx == x21.bx)&&true))))) fun x22 =>
    bif (!x22) then (
     some false
    ) else (
      bnd (Ab .i64 (v10+1)) fun x24 =>
      (cA a0 a1 n0) x24
    )
   ) else (
     some true
   )
def fU (a0:(List aD)) (a1:(List aD)):Ad Bool :=
 bnd (!decide ((a0.length:Int)=(a1.length:Int))) fun x1 =>
 bif x1 then (
  some false
 ) else (
   cA a0 a1 fuel 0
 )

def zO (a0:aF) (a1:aF):Ad Bool :=
 bno (fU a0.ah a1.ah) fun x1 =>
 bno (gd ((!x1) == false) (vD a0.ay a1.ay) default) fun x2 =>
 bnd ((!x1)||(!x2)) fun x3 =>
 bif x3 then (
  some false
 ) else (
   bnd (a0.aw == a1.aw) fun x5 =>
   bnd (a0.az == a1.az) fun x6 =>
   bnd (x5&&x6) fun x7 =>
   bnd (a0.ax == a1.ax) fun x8 =>
   bnd (x7&&x8) fun x9 =>
   bnd (a0.ba == a1.ba) fun x10 =>
   bnd (x9&&x10) fun x11 =>
   bnd (decide (a0.ag=a1.ag)) fun x12 =>
   bnd (x11&&x12) fun x13 =>
   bnd (decide (a0.aj=a1.aj)) fun x14 =>
   bnd (x13&&x14) fun x15 =>
   bnd (decide (a0.ak=a1.ak)) fun x16 =>
   bnd (x15&&x16) fun x17 =>
   some x17
 )

end Go.Fn
open Go Go.IL
namespace Go.Fn
structure aHX where
 aq:Int
 N:Int
 bu:Int
 cj:(List Ai)
 deriving DecidableEq,Inhabited
structure aL where
 At:Int
 aj:(List Ai)
 deriving DecidableEq,Inhabited
def aP:Enc aL:=⟨⟨fun x=>.agg [.int .i64 x.At,.str x.aj],2,by decide,fun _=>⟨rfl,rfl⟩⟩,fun _=>rfl⟩

structure aH where
 ag:Int
 ap:(List Ai)
 ao:(List aL)
 deriving DecidableEq,Inhabited
def aD1:Enc aH:=⟨⟨fun x=>.agg [.int .i64 x.ag,.str x.ap,.slice false (x.ao.map aP.d)],3,by decide,fun _=>⟨rfl,rfl⟩⟩,fun _=>rfl⟩

structure aM where
 af:aH
 br:Int
 deriving DecidableEq,Inhabited
def aFJ:Enc aM:=⟨⟨fun x=>.agg [.int .i64 x.af.ag,.str x.af.ap,.slice false (x.af.ao.map aP.d),.int .i64 x.br],4,by decide,fun _=>⟨rfl,rfl⟩⟩,fun _=>rfl⟩

structure nR where
 ca:Int
 cf:Int
 ci:Int
 cg:Int
 deriving DecidableEq,Inhabited
structure fT where
 ID:Int
 ae:aF
 af:aM
 cr:nR
 In:nR
 cm:Int
 co:Int
 deriving DecidableEq,Inhabited
structure iX where
 State:aH
 end_:Int
 deriving DecidableEq,Inhabited
def aD2:Enc iX:=⟨⟨fun x=>.agg [.int .i64 x.State.ag,.str x.State.ap,.slice false (x.State.ao.map aP.d),.int .i64 x.end_],4,by decide,fun _=>⟨rfl,rfl⟩⟩,fun _=>rfl⟩

structure zJ where
 at_:Int
 s:(List Ai)
 fin:Bool
 deriving DecidableEq,Inhabited
structure aAb where
 a:fT
 b:fT
 went:(List zJ)
 wrote:(List Ai)
 read:(List Ai)
 given:Int
 end_:Bool
 deriving DecidableEq,Inhabited
variable [Fu]
def uI (a0:nR):Ad Int :=
 bnd (decide (0≤a0.cg)) fun x1 =>
 bnd (decide (a0.cg≤a0.ci)) fun x2 =>
 bnd (x1&&x2) fun x3 =>
 bnd (decide (a0.ci≤a0.cf)) fun x4 =>
 bnd (x3&&x4) fun x5 =>
 bnd (decide (a0.cf≤1099511627776)) fun x6 =>
 bnd (x5&&x6) fun x7 =>
 bnd (decide (a0.ca<1)) fun x8 =>
 bnd ((!x7)||x8) fun x9 =>
 bnd (decide (1048576<a0.ca)) fun x10 =>
 bnd (x9||x10) fun x11 =>
 bif x11 then (
  some 8
 ) else (
   some 0
 )

def aEK  : Ad aH :=
 some (⟨0,[],[]⟩:aH)

def aGI  : Ad aM :=
 bno (aEK) fun x1 =>
 some (⟨x1,(-1)⟩:aM)

def aCx (a0:Int) (a1:Int) (a2:Int):Ad Bool :=
 bnd (decide (a1≤a0)) fun x1 =>
 bnd (decide (a0≤a2)) fun x2 =>
 bnd (x1&&x2) fun x3 =>
 some x3

def tQ (a0:aH):Ad Int :=
 bnd (Ab .i64 (a0.ag-(a0.ap.length:Int))) fun x1 =>
 bnd (Ab .i64 (x1+4096)) fun x2 =>
 bnd (min x2 1099511627776) fun x3 =>
 some x3

def fY (a0:aL):Ad Int :=
 bnd (Ab .i64 (a0.At+(a0.aj.length:Int))) fun x1 =>
 some x1

def mX (a0:aH) (x8:Int):Nat→Int→Int→Ad Int
 | 0,_,_=>none
 | n0 + 1,v23,v24 =>
   bnd (decide (v24<(a0.ao.length:Int))) fun x39 =>
   bif x39 then (
    bno (gix a0.ao v24) fun x41 =>
    bnd (decide (x41.At≤v23)) fun x42 =>
    bnd (decide (x41.aj=([]:List Ai))) fun x43 =>
    bnd (x42||x43) fun x44 =>
    bnd (decide (x8<x41.At)) fun x45 =>
    bnd (x44||x45) fun x46 =>
    bnd (Ab .i64 (x8-x41.At)) fun x47 =>
    bnd (decide (x47<(x41.aj.length:Int))) fun x48 =>
    bnd (x46||x48) fun x49 =>
    bif x49 then (
     some 10
    ) else (
      bno (fY x41) fun x51 =>
      bnd (Ab .i64 (v24+1)) fun x52 =>
      (mX a0 x8 n0) x51 x52
    )
   ) else (
     some 0
   )
def qW (a0:aH):Ad Int :=
 bnd (decide (a0.ag<0)) fun x1 =>
 bnd (decide (1099511627776<a0.ag)) fun x2 =>
 bnd (x1||x2) fun x3 =>
 bnd (min a0.ag 4096) fun x4 =>
 bnd (decide (x4<(a0.ap.length:Int))) fun x5 =>
 bnd (x3||x5) fun x6 =>
 bif x6 then (
  some 8
 ) else (
   bno (tQ a0) fun x8 =>
   mX a0 x8 fuel a0.ag 0
 )

def rP (a0:aM):Ad iX :=
 some (⟨a0.af,a0.br⟩:iX)

def mW (a0:iX):Ad Int :=
 bnd (decide (0<(a0.State.ao.length:Int))) fun x1 =>
 bif x1 then (
  bnd (Ab .i64 ((a0.State.ao.length:Int)-1)) fun x3 =>
  bno (gix a0.State.ao x3) fun x4 =>
  bnd (Ab .i64 ((a0.State.ao.length:Int)-1)) fun x5 =>
  bno (gix a0.State.ao x5) fun x6 =>
  bnd (Ab .i64 (x4.At+(x6.aj.length:Int))) fun x7 =>
  some x7
 ) else (
   some a0.State.ag
 )

def tR (a0:aM):Ad Int :=
 bno (rP a0) fun x1 =>
 bno (mW x1) fun x2 =>
 some x2

def pO (a0:aM):Ad Int :=
 bno (qW a0.af) fun x1 =>
 bnd (!decide (x1=0)) fun x2 =>
 bif x2 then (
  some x1
 ) else (
   bnd (!decide (a0.br=(-1))) fun x4 =>
   bno (gd (x4 == true) (tR a0) default) fun x5 =>
   bnd (decide (a0.br<x5)) fun x6 =>
   bnd (decide (1099511627776<a0.br)) fun x7 =>
   bnd (x6||x7) fun x8 =>
   bnd (x4&&x8) fun x9 =>
   bif x9 then (
    some 8
   ) else (
     some 0
   )
 )

def wJ (a0:fT):Ad Int :=
 bno (uI a0.cr) fun x1 =>
 bnd (!decide (x1=0)) fun x2 =>
 bif x2 then (
  some x1
 ) else (
   bno (uI a0.In) fun x4 =>
   bnd (!decide (x4=0)) fun x5 =>
   bif x5 then (
    some x4
   ) else (
     bno (lU a0.ae) fun x7 =>
     bnd (!decide (x7=0)) fun x8 =>
     bif x8 then (
      some x7
     ) else (
       bno (pO a0.af) fun x10 =>
       some x10
     )
   )
 )

def wK (a0:fT):Ad Bool :=
 bno (tR a0.af) fun x1 =>
 bnd (max a0.af.br x1) fun x2 =>
 bnd (Ab .i64 (a0.af.af.ag-(a0.af.af.ap.length:Int))) fun x3 =>
 bnd (decide (a0.cr.ci=a0.ae.ak)) fun x4 =>
 bnd (decide (a0.In.ci=x2)) fun x5 =>
 bnd (x4&&x5) fun x6 =>
 bnd (decide (a0.In.cg=x3)) fun x7 =>
 bnd (x6&&x7) fun x8 =>
 bnd (Ab .i64 (x3+a0.In.ca)) fun x9 =>
 bnd (decide (a0.In.cf≤x9)) fun x10 =>
 bnd (x8&&x10) fun x11 =>
 some x11

def aAe (a0:fT):Ad Int :=
 bno (aCx a0.ID 0 1048576) fun x1 =>
 bno (gd ((!x1) == false) (aCx a0.cm (-1) 255) default) fun x2 =>
 bnd ((!x1)||(!x2)) fun x3 =>
 bno (gd (x3 == false) (aCx a0.co (-1) 255) default) fun x4 =>
 bnd (x3||(!x4)) fun x5 =>
 bnd (decide (4096<a0.In.ca)) fun x6 =>
 bnd (x5||x6) fun x7 =>
 bif x7 then (
  some 8
 ) else (
   bno (wJ a0) fun x9 =>
   bnd (!decide (x9=0)) fun x10 =>
   bif x10 then (
    some x9
   ) else (
     bno (wK a0) fun x12 =>
     bif (!x12) then (
      some 4
     ) else (
       some 0
     )
   )
 )

def yH (a0:fT):Ad Bool :=
 bnd (!decide (a0.cm=(-1))) fun x1 =>
 bnd (!decide (a0.co=(-1))) fun x2 =>
 bnd (x1||x2) fun x3 =>
 some x3

def yG (a0:fT):Ad Int :=
 bno (aAe a0) fun x1 =>
 bnd (!decide (x1=0)) fun x2 =>
 bif x2 then (
  some x1
 ) else (
   bno (yH a0) fun x4 =>
   bif x4 then (
    some 15
   ) else (
     some 0
   )
 )

def lW (a0:iX):Ad Bool :=
 bnd (decide (0≤a0.end_)) fun x1 =>
 some x1

def nB (a0:iX) (a1:Int) (a2:Bool):Ad Bool :=
 bno (lW a0) fun x1 =>
 bif x1 then (
  bnd (decide (a0.end_<a1)) fun x3 =>
  bnd (decide (a1<a0.end_)) fun x4 =>
  bnd (a2&&x4) fun x5 =>
  bnd (x3||x5) fun x6 =>
  some x6
 ) else (
   bno (gd (a2 == true) (mW a0) default) fun x7 =>
   bnd (decide (a1<x7)) fun x8 =>
   bnd (a2&&x8) fun x9 =>
   some x9
 )

def bX (a0:(List aL)):Ad (List aL) :=
 aCO a0 (
  some []
 ) (
   bno (app 24 ([]:(List aL)) a0) fun x3 =>
   some x3
 )

def oF (a0:aH):Nat→Int→Int→Ad Int
 | 0,_,_=>none
 | n0+1,v6,v7 =>
   bnd (decide (v7<(a0.ao.length:Int))) fun x13 =>
   bif x13 then (
    bno (gix a0.ao v7) fun x15 =>
    bnd (Ab .i64 (v6+(x15.aj.length:Int))) fun x16 =>
    bnd (Ab .i64 (v7+1)) fun x17 =>
    (oF a0 n0) x16 x17
   ) else (
     some v6
   )
def uY (a0:aH):Ad Int :=
 oF a0 fuel (a0.ap.length:Int) 0

def nL (a0:(List aL)) (v10:(List aL)) (v102:Int) (v103:Int) (v104:(List Ai)):Ad (List aL) :=
 bno (app 24 v10 (([(⟨v103,v104⟩:aL)]:(List aL)))) fun x105 =>
 bno (cut a0 v102 (a0.length:Int)) fun x106 =>
 bno (app 24 x105 x106) fun x107 =>
 some x107
def jW (a0:(List aL)) (v10:(List aL)):Nat→Int→Int→(List Ai)→Ad (List aL)
 | 0,_,_,_=>none
 | n3 + 1,v131,v132,v133 =>
   bnd (decide (v131<(a0.length:Int))) fun x157 =>
   bif x157 then (
    bno (gix a0 v131) fun x159 =>
    bno (fY (⟨v132,v133⟩:aL)) fun x160 =>
    bnd (decide (x160<x159.At)) fun x161 =>
    bif x161 then (
     nL a0 v10 v131 v132 v133
    ) else (
      bnd (decide (x159.At≤v132)) fun x163 =>
      bif x163 then (
       bno (fY x159) fun x165 =>
       bnd (Ab .i64 (x165-v132)) fun x166 =>
       bnd (min (v133.length:Int) x166) fun x167 =>
       bno (cut v133 x167 (v133.length:Int)) fun x168 =>
       bno (cat x159.aj x168) fun x169 =>
       bnd (Ab .i64 (v131+1)) fun x170 =>
       (jW a0 v10 n3) x170 x159.At x169
      ) else (
        bnd (Ab .i64 (x159.At-v132)) fun x171 =>
        bno (cut v133 0 x171) fun x172 =>
        bno (cat x172 x159.aj) fun x173 =>
        bno (fY x159) fun x174 =>
        bnd (Ab .i64 (x174-v132)) fun x175 =>
        bnd (min (v133.length:Int) x175) fun x176 =>
        bno (cut v133 x176 (v133.length:Int)) fun x177 =>
        bno (cat x173 x177) fun x178 =>
        bnd (Ab .i64 (v131+1)) fun x179 =>
        (jW a0 v10 n3) x179 v132 x178
      )
    )
   ) else (
     nL a0 v10 v131 v132 v133
   )
def lV (a0:(List aL)) (a1:aL):Nat→(List aL)→Int→Ad (List aL)
 | 0,_,_=>none
 | n0+1,v10,v11 =>
   bnd (decide (v11<(a0.length:Int))) fun x21 =>
   bno (gd (x21 == true) (gix a0 v11) default) fun x22 =>
   bno (gd (x21 == true) (fY x22) default) fun x23 =>
   bnd (decide (x23<a1.At)) fun x24 =>
   bnd (x21&&x24) fun x25 =>
   bif x25 then (
    bno (gix a0 v11) fun x27 =>
    bno (app 24 v10 ([x27]:(List aL))) fun x28 =>
    bnd (Ab .i64 (v11+1)) fun x29 =>
    (lV a0 a1 n0) x28 x29
   ) else (
     jW a0 v10 fuel v11 a1.At a1.aj
   )
def rM (a0:(List aL)) (a1:aL):Ad (List aL) :=
 lV a0 a1 fuel ([]:(List aL)) 0

def cR (a0:Int) (a1:Int) (a2:(List aL)):Ad (List aL):=delS a2 a0 a1

def rN (x24:Int) (v33:Int) (v34:(List Ai)) (v35:(List aL)):Ad (aH×Int) :=
 bno (uY (⟨v33,v34,v35⟩:aH)) fun x36 =>
 bnd (Ab .i64 (x36-x24)) fun x37 =>
 some ((⟨v33,v34,v35⟩:aH),x37)
def iZ (a0:aH) (x1:(List aL)) (v20:Int) (v21:(List Ai)):Ad (aH×Int) :=
 bnd (decide (v21=([]:List Ai))) fun x22 =>
 bif x22 then (
  some ((⟨a0.ag,a0.ap,x1⟩:aH),0)
 ) else (
   bno (uY (⟨a0.ag,a0.ap,x1⟩:aH)) fun x24 =>
   bno (rM x1 (⟨v20,v21⟩:aL)) fun x25 =>
   bno (gix x25 0) fun x38 =>
   bno (x25[(0:Int).toNat]?) fun x39 =>
   bnd (decide (x39.At=a0.ag)) fun x40 =>
   bif x40 then (
    bno (fY x39) fun x42 =>
    bno (cat a0.ap x39.aj) fun x43 =>
    bno (cR 0 1 x25) fun x44 =>
    rN x24 x42 x43 x44
   ) else (
     rN x24 a0.ag a0.ap x25
   )
 )
def rO (a0:aH) (a1:Int) (a2:(List Ai)):Ad (aH×Int) :=
 bno (bX a0.ao) fun x1 =>
 bnd (decide (a1<0)) fun x2 =>
 bnd (decide (1099511627776<a1)) fun x3 =>
 bnd (x2||x3) fun x4 =>
 bno (gd (x4 == false) (qW (⟨a0.ag,a0.ap,x1⟩:aH)) default) fun x5 =>
 bnd (!decide (x5=0)) fun x6 =>
 bnd (x4||x6) fun x7 =>
 bif x7 then (
  some ((⟨a0.ag,a0.ap,x1⟩:aH),0)
 ) else (
   bno (tQ (⟨a0.ag,a0.ap,x1⟩:aH)) fun x9 =>
   bnd (decide (x9≤a1)) fun x10 =>
   bif x10 then (
    some ((⟨a0.ag,a0.ap,x1⟩:aH),0)
   ) else (
     bnd (Ab .i64 (x9-a1)) fun x12 =>
     bnd (min (a2.length:Int) x12) fun x13 =>
     bno (cut a2 0 x13) fun x14 =>
     bnd (decide (a1<a0.ag)) fun x45 =>
     bif x45 then (
      bnd (Ab .i64 (a0.ag-a1)) fun x47 =>
      bnd (min (x14.length:Int) x47) fun x48 =>
      bno (cut x14 x48 (x14.length:Int)) fun x49 =>
      iZ a0 x1 a0.ag x49
     ) else (
       iZ a0 x1 a1 x14
     )
   )
 )

def yZ (x13:(aH×Int)) (v15:Int):Ad (aM×Int×Int) :=
 some ((⟨x13.1,v15⟩:aM),x13.2,0)
def xT (a0:aM) (a1:Int) (a2:(List Ai)) (a3:Bool):Ad (aM×Int×Int) :=
 bnd (decide (a1<0)) fun x1 =>
 bnd (Ab .i64 (1099511627776-(a2.length:Int))) fun x2 =>
 bnd (decide (x2<a1)) fun x3 =>
 bnd (x1||x3) fun x4 =>
 bno (gd (x4 == false) (pO a0) default) fun x5 =>
 bnd (!decide (x5=0)) fun x6 =>
 bnd (x4||x6) fun x7 =>
 bif x7 then (
  some (a0,0,2)
 ) else (
   bnd (Ab .i64 (a1+(a2.length:Int))) fun x9 =>
   bno (rP a0) fun x10 =>
   bno (nB x10 x9 a3) fun x11 =>
   bif x11 then (
    some (a0,0,5)
   ) else (
     bno (rO a0.af a1 a2) fun x13 =>
     bif a3 then (
      yZ x13 x9
     ) else (
       yZ x13 a0.br
     )
   )
 )

def xP (a0:aH) (a1:Int):Ad (aH×(List Ai)) :=
 bno (bX a0.ao) fun x1 =>
 bnd (decide (a1<1)) fun x2 =>
 bno (gd (x2 == false) (qW (⟨a0.ag,a0.ap,x1⟩:aH)) default) fun x3 =>
 bnd (!decide (x3=0)) fun x4 =>
 bnd (x2||x4) fun x5 =>
 bif x5 then (
  some ((⟨a0.ag,a0.ap,x1⟩:aH),[])
 ) else (
   bnd (min a1 (a0.ap.length:Int)) fun x7 =>
   bno (cut a0.ap 0 x7) fun x8 =>
   bno (cut a0.ap x7 (a0.ap.length:Int)) fun x9 =>
   some ((⟨a0.ag,x9,x1⟩:aH),x8)
 )

def xS (a0:aM):Ad Bool :=
 bno (rP a0) fun x1 =>
 bno (lW x1) fun x2 =>
 bnd (decide (x1.State.ag=x1.end_)) fun x3 =>
 bnd (x2&&x3) fun x4 =>
 bno (gd (x4 == true) (pO a0) default) fun x5 =>
 bnd (decide (x5=0)) fun x6 =>
 bnd (x4&&x6) fun x7 =>
 some x7

def xU (a0:aM):Ad Bool :=
 bnd (decide (a0.af.ap=([]:List Ai))) fun x1 =>
 bno (gd (x1 == true) (xS a0) default) fun x2 =>
 bnd (x1&&x2) fun x3 =>
 some x3

def zU (a0:aM) (a1:Int):Ad (aM×(List Ai)×Bool) :=
 bno (xP a0.af a1) fun x1 =>
 bno (xU (⟨x1.1,a0.br⟩:aM)) fun x2 =>
 some ((⟨x1.1,a0.br⟩:aM),x1.2,x2)

def cC (a0:(List aL)) (a1:(List aL)):Nat→Int→Ad Bool
 | 0,_=>none
 | n0 + 1,v10 =>
   bnd (decide (v10<(a0.length:Int))) fun x18 =>
   bif x18 then (
    bno (gix a0 v10) fun x20 =>
    bno (gix a1 v10) fun x21 =>
    bnd ((decide (x20.At=x21.At)&&(decide (x20.aj=x21.aj)&&true))) fun x22 =>
    bif (!x22) then (
     some false
    ) else (
      bnd (Ab .i64 (v10+1)) fun x24 =>
      (cC a0 a1 n0) x24
    )
   ) else (
     some true
   )
def fV (a0:(List aL)) (a1:(List aL)):Ad Bool :=
 bnd (!decide ((a0.length:Int)=(a1.length:Int))) fun x1 =>
 bif x1 then (
  some false
 ) else (
   cC a0 a1 fuel 0
 )

def xO (a0:aH) (a1:aH):Ad Bool :=
 bnd (decide (a0.ag=a1.ag)) fun x1 =>
 bnd (decide (a0.ap=a1.ap)) fun x2 =>
 bnd (x1&&x2) fun x3 =>
 bno (gd (x3 == true) (fV a0.ao a1.ao) default) fun x4 =>
 bnd (x3&&x4) fun x5 =>
 some x5

def zT (a0:aM) (a1:aM):Ad Bool :=
 bnd (decide (a0.br=a1.br)) fun x1 =>
 bno (gd (x1 == true) (xO a0.af a1.af) default) fun x2 =>
 bnd (x1&&x2) fun x3 =>
 some x3

end Go.Fn
abbrev Prod.e {a b c d e:Type} (x:a×b×c×d×e):e:=x.2.2.2.2
abbrev Prod.f {a b c d e f g h i j k l m n o p q:Type} (x:a×b×c×d×e×f×g×h×i×j×k×l×m×n×o×p×q):q:=x.2.2.2.2.2.2.2.2.2.2.2.2.2.2.2.2
open Go Go.IL
namespace Go.Fn


variable [Fu]
end Go.Fn
open Go Go.IL
namespace Go.Fn
structure T_anon56 where
 c0:Int
 c1:Int
 c2:Int
 deriving DecidableEq,Inhabited
structure aID where
 aq:Int
 cj:(List Ai)
 N:Int
 M:Int
 bp:Bool
 deriving DecidableEq,Inhabited
structure aFK where
 N:Int
 Code:Int
 cj:(List Ai)
 br:Bool
 P:aD
 deriving DecidableEq,Inhabited
variable [Fu]
def nW (a0:nR):Ad Int :=
 bnd (decide (a0.ca<1)) fun x1 =>
 bnd (decide (1048576<a0.ca)) fun x2 =>
 bnd (x1||x2) fun x3 =>
 bnd (decide (a0.cf<0)) fun x4 =>
 bnd (x3||x4) fun x5 =>
 bnd (decide (1099511627776<a0.cf)) fun x6 =>
 bnd (x5||x6) fun x7 =>
 bnd (decide (a0.ci<0)) fun x8 =>
 bnd (x7||x8) fun x9 =>
 bnd (decide (a0.cf<a0.ci)) fun x10 =>
 bnd (x9||x10) fun x11 =>
 bnd (decide (a0.cg<0)) fun x12 =>
 bnd (x11||x12) fun x13 =>
 bnd (decide (a0.ci<a0.cg)) fun x14 =>
 bnd (x13||x14) fun x15 =>
 bif x15 then (
  some 8
 ) else (
   some 0
 )

def wT  : Ad aM :=
 some ((⟨(⟨0,[],[]⟩:aH),(-1)⟩:aM))

def iD (a0:(List aC)):Nat→(List aC)→Int→Ad (List aC)
 | 0,_,_=>none
 | n0+1,v6,v7 =>
   bnd (decide (v7<(a0.length:Int))) fun x13 =>
   bif x13 then (
    bno (gix a0 v7) fun x15 =>
    bno (app 16 v6 (([(⟨x15.aa,x15.To⟩:aC)]:(List aC)))) fun x16 =>
    bnd (Ab .i64 (v7+1)) fun x17 =>
    (iD a0 n0) x16 x17
   ) else (
     some v6
   )
def sD (a0:(List aC)):Ad (List aC) :=
 iD a0 fuel ([]:(List aC)) 0

def iC (a0:aF) (x1:(List aC)):Nat→Int→(List aD)→Ad aF
 | 0,_,_=>none
 | n0+1,v7,v8 =>
   bnd (decide (v7<(a0.ah.length:Int))) fun x14 =>
   bif x14 then (
    bno (gix a0.ah v7) fun x16 =>
    bno (app 32 v8 ([x16]:(List aD))) fun x17 =>
    bnd (Ab .i64 (v7+1)) fun x18 =>
    (iC a0 x1 n0) x18 x17
   ) else (
     some (⟨a0.ag,a0.aj,a0.ak,v8,x1,a0.aw,a0.az,a0.ax,a0.ba⟩:aF)
   )
def pE (a0:aF):Ad aF :=
 bno (sD a0.ay) fun x1 =>
 iC a0 x1 fuel 0 ([]:(List aD))

def fM (a0:aH):Nat→Int→(List aL)→Ad aH
 | 0,_,_=>none
 | n0+1,v6,v7 =>
   bnd (decide (v6<(a0.ao.length:Int))) fun x13 =>
   bif x13 then (
    bno (gix a0.ao v6) fun x15 =>
    bno (app 24 v7 ([x15]:(List aL))) fun x16 =>
    bnd (Ab .i64 (v6+1)) fun x17 =>
    (fM a0 n0) x17 x16
   ) else (
     some (⟨a0.ag,a0.ap,v7⟩:aH)
   )
def sC (a0:aH):Ad aH :=
 fM a0 fuel 0 ([]:(List aL))

def pD (a0:aM):Ad aM :=
 bno (sC a0.af) fun x1 =>
 some (⟨x1,a0.br⟩:aM)

def iA (a0:(List aC)) (a1:(List aC)):Nat→Int→Ad Bool
 | 0,_=>none
 | n0 + 1,v10 =>
   bnd (decide (v10<(a0.length:Int))) fun x18 =>
   bif x18 then (
    bno (gix a0 v10) fun x20 =>
    bno (gix a1 v10) fun x21 =>
    bnd ((decide (x20.aa=x21.aa)&&(decide (x20.To=x21.To)&&true))) fun x22 =>
    bif (!x22) then (
     some false
    ) else (
      bnd (Ab .i64 (v10+1)) fun x24 =>
      (iA a0 a1 n0) x24
    )
   ) else (
     some true
   )
def sB (a0:(List aC)) (a1:(List aC)):Ad Bool :=
 bnd (!decide ((a0.length:Int)=(a1.length:Int))) fun x1 =>
 bif x1 then (
  some false
 ) else (
   iA a0 a1 fuel 0
 )

def gU (a0:aF) (a1:aF):Nat→Int→Ad Bool
 | 0,_=>none
 | n0 + 1,v10 =>
   bnd (decide (v10<(a0.ah.length:Int))) fun x18 =>
   bif x18 then (
    bno (gix a0.ah v10) fun x20 =>
    bno (gix a1.ah v10) fun x21 =>
    bnd ((decide (x20.aa=x21.aa)&&(decide (x20.To=x21.To)&&(decide (x20.bu=x21.bu)&&((x20.bx == x21.bx)&&true))))) fun x22 =>
    bif (!x22) then (
     some false
    ) else (
      bnd (Ab .i64 (v10+1)) fun x24 =>
      (gU a0 a1 n0) x24
    )
   ) else (
     bnd (decide (a0.ag=a1.ag)) fun x25 =>
     bnd (decide (a0.aj=a1.aj)) fun x26 =>
     bnd (x25&&x26) fun x27 =>
     bnd (decide (a0.ak=a1.ak)) fun x28 =>
     bnd (x27&&x28) fun x29 =>
     bno (gd (x29 == true) (sB a0.ay a1.ay) default) fun x30 =>
     bnd (x29&&x30) fun x31 =>
     bnd (a0.aw == a1.aw) fun x32 =>
     bnd (x31&&x32) fun x33 =>
     bnd (a0.az == a1.az) fun x34 =>
     bnd (x33&&x34) fun x35 =>
     bnd (a0.ax == a1.ax) fun x36 =>
     bnd (x35&&x36) fun x37 =>
     bnd (a0.ba == a1.ba) fun x38 =>
     bnd (x37&&x38) fun x39 =>
     some x39
   )
def rY (a0:aF) (a1:aF):Ad Bool :=
 bnd (!decide ((a0.ah.length:Int)=(a1.ah.length:Int))) fun x1 =>
 bif x1 then (
  some false
 ) else (
   gU a0 a1 fuel 0
 )

def gY (a0:aH) (a1:aH):Nat→Int→Ad Bool
 | 0,_=>none
 | n0 + 1,v10 =>
   bnd (decide (v10<(a0.ao.length:Int))) fun x18 =>
   bif x18 then (
    bno (gix a0.ao v10) fun x20 =>
    bno (gix a1.ao v10) fun x21 =>
    bnd ((decide (x20.At=x21.At)&&(decide (x20.aj=x21.aj)&&true))) fun x22 =>
    bif (!x22) then (
     some false
    ) else (
      bnd (Ab .i64 (v10+1)) fun x24 =>
      (gY a0 a1 n0) x24
    )
   ) else (
     bnd (decide (a0.ag=a1.ag)) fun x25 =>
     bnd (decide (a0.ap=a1.ap)) fun x26 =>
     bnd (x25&&x26) fun x27 =>
     some x27
   )
def sA (a0:aH) (a1:aH):Ad Bool :=
 bnd (!decide ((a0.ao.length:Int)=(a1.ao.length:Int))) fun x1 =>
 bif x1 then (
  some false
 ) else (
   gY a0 a1 fuel 0
 )

def oT (a0:aM) (a1:aM):Ad Bool :=
 bno (sA a0.af a1.af) fun x1 =>
 bnd (decide (a0.br=a1.br)) fun x2 =>
 bnd (x1&&x2) fun x3 =>
 some x3

def rD (a0:Int):Ad Bool :=
 bnd (decide (0≤a0)) fun x1 =>
 bnd (decide (a0≤4611686018427387903)) fun x2 =>
 bnd (x1&&x2) fun x3 =>
 some x3

def lS (a0:aC):Ad Bool :=
 bno (rD a0.aa) fun x1 =>
 bno (gd (x1 == true) (rD a0.To) default) fun x2 =>
 bnd (x1&&x2) fun x3 =>
 some x3

def fD (a0:(List aC)):Nat→Int→Ad Int
 | 0,_=>none
 | n2 + 1,v50 =>
   bnd (decide (v50<(a0.length:Int))) fun x59 =>
   bif x59 then (
    bno (gix a0 v50) fun x61 =>
    bnd (Ab .i64 (v50-1)) fun x62 =>
    bno (gix a0 x62) fun x63 =>
    bnd (decide (x61.aa≤x63.To)) fun x64 =>
    bif x64 then (
     some 10
    ) else (
      bnd (Ab .i64 (v50+1)) fun x66 =>
      (fD a0 n2) x66
    )
   ) else (
     some 0
   )
def gI (a0:(List aC)):Nat→Int→Ad Int
 | 0,_=>none
 | n1 + 1,v27 =>
   bnd (decide (v27<(a0.length:Int))) fun x35 =>
   bif x35 then (
    bno (gix a0 v27) fun x37 =>
    bno (gix a0 v27) fun x38 =>
    bnd (decide (x37.To≤x38.aa)) fun x39 =>
    bif x39 then (
     some 4
    ) else (
      bnd (Ab .i64 (v27+1)) fun x41 =>
      (gI a0 n1) x41
    )
   ) else (
     fD a0 fuel 1
   )
def gJ (a0:(List aC)):Nat→Int→Ad Int
 | 0,_=>none
 | n0 + 1,v7 =>
   bnd (decide (v7<(a0.length:Int))) fun x14 =>
   bif x14 then (
    bno (gix a0 v7) fun x16 =>
    bno (lS (⟨x16.aa,x16.To⟩:aC)) fun x17 =>
    bif (!x17) then (
     some 8
    ) else (
      bnd (Ab .i64 (v7+1)) fun x19 =>
      (gJ a0 n0) x19
    )
   ) else (
     gI a0 fuel 0
   )
def iB (a0:(List aC)):Ad Int :=
 gJ a0 fuel 0

def fL (v27:(List Int)) (v79:(List Int)) (v80:Int) (kk2:(List Int)→Int→Ad (List Int)):Nat→Int→Ad (List Int)
 | 0,_=>none
 | n3 + 1,v128 =>
   bnd (decide (v128<(v79.length:Int))) fun x136 =>
   bno (gd (x136 == true) (gix v79 v128) default) fun x137 =>
   bno (gd (x136 == true) (gix v27 v80) default) fun x138 =>
   bnd (decide (x137<x138)) fun x139 =>
   bnd (x136&&x139) fun x140 =>
   bif x140 then (
    bnd (Ab .i64 (v128+1)) fun x142 =>
    (fL v27 v79 v80 kk2 n3) x142
   ) else (
     bnd (decide (v128<(v79.length:Int))) fun x143 =>
     bno (gd (x143 == true) (gix v79 v128) default) fun x144 =>
     bno (gd (x143 == true) (gix v27 v80) default) fun x145 =>
     bnd (decide (x144=x145)) fun x146 =>
     bnd (x143&&x146) fun x147 =>
     bif x147 then (
      bnd (Ab .i64 (v80+1)) fun x149 =>
      kk2 v79 x149
     ) else (
       bno (cut v79 0 v128) fun x150 =>
       bno (app 8 ([]:(List Int)) x150) fun x151 =>
       bno (gix v27 v80) fun x152 =>
       bno (app 8 x151 ([x152]:(List Int))) fun x153 =>
       bno (cut v79 v128 (v79.length:Int)) fun x154 =>
       bno (app 8 x153 x154) fun x155 =>
       bnd (Ab .i64 (v80+1)) fun x156 =>
       kk2 x155 x156
     )
   )
def cQ (v27:(List Int)):Nat→(List Int)→Int→Ad (List Int)
 | 0,_,_=>none
 | n2+1,v79,v80 =>
   bnd (decide (v80<(v27.length:Int))) fun x119 =>
   bif x119 then (
    fL v27 v79 v80 (cQ v27 n2) fuel 0
   ) else (
     some v79
   )
def gZ (a1:(List aC)):Nat→(List Int)→Int→Ad (List Int)
 | 0,_,_=>none
 | n1+1,v27,v28 =>
   bnd (decide (v28<(a1.length:Int))) fun x35 =>
   bif x35 then (
    bno (gix a1 v28) fun x37 =>
    bno (gix a1 v28) fun x38 =>
    bno (app 8 v27 ([x37.aa,x38.To]:(List Int))) fun x39 =>
    bnd (Ab .i64 (v28+1)) fun x40 =>
    (gZ a1 n1) x39 x40
   ) else (
     cQ v27 fuel ([]:(List Int)) 0
   )
def hU (a0:(List aC)) (a1:(List aC)):Nat→(List Int)→Int→Ad (List Int)
 | 0,_,_=>none
 | n0+1,v7,v8 =>
   bnd (decide (v8<(a0.length:Int))) fun x15 =>
   bif x15 then (
    bno (gix a0 v8) fun x17 =>
    bno (gix a0 v8) fun x18 =>
    bno (app 8 v7 ([x17.aa,x18.To]:(List Int))) fun x19 =>
    bnd (Ab .i64 (v8+1)) fun x20 =>
    (hU a0 a1 n0) x19 x20
   ) else (
     gZ a1 fuel v7 0
   )
def pB (a0:(List aC)) (a1:(List aC)):Ad (List Int) :=
 hU a0 a1 fuel ([]:(List Int)) 0

def iO (a0:(List aC)) (a1:Int):Nat→Int→Ad Bool
 | 0,_=>none
 | n0 + 1,v10 =>
   bnd (decide (v10<(a0.length:Int))) fun x20 =>
   bif x20 then (
    bno (gix a0 v10) fun x22 =>
    bnd (decide (x22.aa≤a1)) fun x23 =>
    bno (gd (x23 == true) (gix a0 v10) default) fun x24 =>
    bnd (decide (a1<x24.To)) fun x25 =>
    bnd (x23&&x25) fun x26 =>
    bif x26 then (
     some true
    ) else (
      bnd (Ab .i64 (v10+1)) fun x28 =>
      (iO a0 a1 n0) x28
    )
   ) else (
     some false
   )
def qD (a0:(List aC)) (a1:Int):Ad Bool :=
 iO a0 a1 fuel 0

def oC (a0:aC) (a1:(List aC)):Ad (List aC) :=
 bnd (decide ((a1.length:Int)=0)) fun x1 =>
 bnd (Ab .i64 ((a1.length:Int)-1)) fun x2 =>
 bno (gd (x1 == false) (gix a1 x2) default) fun x3 =>
 bno (gd (x1 == false) (a1[(x2:Int).toNat]?) default) fun x4 =>
 bnd (decide (x4.To<a0.aa)) fun x5 =>
 bnd (x1||x5) fun x6 =>
 bif x6 then (
  bno (app 16 a1 (([(⟨a0.aa,a0.To⟩:aC)]:(List aC)))) fun x8 =>
  some x8
 ) else (
   bno (app 16 ([]:(List aC)) a1) fun x9 =>
   bnd (Ab .i64 ((a1.length:Int)-1)) fun x10 =>
   bno (gix x9 x10) fun x11 =>
   bno (x9[(x10:Int).toNat]?) fun x12 =>
   bnd (x9.set ((x10:Int).toNat) (⟨x12.aa,a0.To⟩:aC)) fun x13 =>
   some x13
 )

def eR (a0:(List aC)) (a1:(List aC)) (a2:Int) (x1:(List Int)):Nat→(List aC)→Int→Ad (List aC)
 | 0,_,_=>none
 | n0 + 1,v28,v29 =>
   bnd (decide (v29<(x1.length:Int))) fun x56 =>
   bif x56 then (
    bnd (Ab .i64 (v29-1)) fun x58 =>
    bno (gix x1 x58) fun x59 =>
    bno (qD a0 x59) fun x60 =>
    bnd (Ab .i64 (v29-1)) fun x61 =>
    bno (gix x1 x61) fun x62 =>
    bno (qD a1 x62) fun x63 =>
    bnd (decide (a2=0)) fun x64 =>
    bnd (x60||x63) fun x65 =>
    bnd (x64&&x65) fun x66 =>
    bnd (decide (a2=1)) fun x67 =>
    bnd (x67&&x60) fun x68 =>
    bnd (x68&&(!x63)) fun x69 =>
    bnd (x66||x69) fun x70 =>
    bnd (decide (a2=2)) fun x71 =>
    bnd (x71&&x60) fun x72 =>
    bnd (x72&&x63) fun x73 =>
    bnd (x70||x73) fun x74 =>
    bif x74 then (
     bnd (Ab .i64 (v29-1)) fun x76 =>
     bno (gix x1 x76) fun x77 =>
     bno (gix x1 v29) fun x78 =>
     bno (oC (⟨x77,x78⟩:aC) v28) fun x79 =>
     bnd (Ab .i64 (v29+1)) fun x80 =>
     (eR a0 a1 a2 x1 n0) x79 x80
    ) else (
      bnd (Ab .i64 (v29+1)) fun x81 =>
      (eR a0 a1 a2 x1 n0) v28 x81
    )
   ) else (
     some v28
   )
def kG (a0:(List aC)) (a1:(List aC)) (a2:Int):Ad (List aC) :=
 bno (pB a0 a1) fun x1 =>
 eR a0 a1 a2 x1 fuel ([]:(List aC)) 1

def pC (a0:(List aC)) (a1:(List aC)):Ad (List aC) :=
 bno (iB a0) fun x1 =>
 bnd (!decide (x1=0)) fun x2 =>
 bno (gd (x2 == false) (iB a1) default) fun x3 =>
 bnd (!decide (x3=0)) fun x4 =>
 bnd (x2||x4) fun x5 =>
 bif x5 then (
  some []
 ) else (
   bno (kG a0 a1 2) fun x7 =>
   some x7
 )

def nU (a0:aD) (a1:(List aC)):Ad Bool :=
 bnd (decide (a0.aa=a0.To)) fun x1 =>
 bif x1 then (
  some false
 ) else (
   bno (pC ([(⟨a0.aa,a0.To⟩:aC)]:(List aC)) a1) fun x3 =>
   bnd (decide (0<(x3.length:Int))) fun x4 =>
   some x4
 )

def cS (a0:aF):Ad Int :=
 bnd (Ab .i64 (a0.ag+(a0.aj.length:Int))) fun x1 =>
 some x1

def fI (a0:aF):Nat→Int→Int→Ad Int
 | 0,_,_=>none
 | n0 + 1,v8,v9 =>
   bnd (decide (v9<(a0.ah.length:Int))) fun x17 =>
   bif x17 then (
    bno (gix a0.ah v9) fun x19 =>
    bif x19.bx then (
     bnd (Ab .i64 (v8+1)) fun x21 =>
     bnd (Ab .i64 (v9+1)) fun x22 =>
     (fI a0 n0) x21 x22
    ) else (
      bnd (Ab .i64 (v9+1)) fun x23 =>
      (fI a0 n0) v8 x23
    )
   ) else (
     some v8
   )
def rW (a0:aF):Ad Int :=
 fI a0 fuel 0 0

def fP (a0:aF) (v15:Int):Nat→Int→Ad Bool
 | 0,_=>none
 | n1 + 1,v25 =>
   bnd (decide (v25<(a0.ah.length:Int))) fun x35 =>
   bif x35 then (
    bno (gix a0.ah v25) fun x37 =>
    bno (gd (x37.bx == true) (gix a0.ah v25) default) fun x38 =>
    bno (gd (x37.bx == true) (cS a0) default) fun x39 =>
    bnd (!decide (x38.To=x39)) fun x40 =>
    bnd (x37.bx&&x40) fun x41 =>
    bif x41 then (
     some false
    ) else (
      bnd (Ab .i64 (v25+1)) fun x43 =>
      (fP a0 v15 n1) x43
    )
   ) else (
     bno (rW a0) fun x44 =>
     bnd (decide (x44=v15)) fun x45 =>
     some x45
   )
def kN (a0:aF) (v15:Int):Ad Bool :=
 fP a0 v15 fuel 0
def mZ (a0:aF):Ad Bool :=
 bno (gd ((a0.az == true)&&((!a0.aw) == false)) (cS a0) default) fun x1 =>
 bnd (!decide (a0.ak=x1)) fun x2 =>
 bnd ((!a0.aw)||x2) fun x3 =>
 bnd (a0.az&&x3) fun x4 =>
 bnd (a0.ax&&(!a0.az)) fun x5 =>
 bnd (x4||x5) fun x6 =>
 bnd (a0.ba&&(!a0.az)) fun x7 =>
 bnd (x6||x7) fun x8 =>
 bnd (a0.ax&&a0.ba) fun x9 =>
 bnd (x8||x9) fun x10 =>
 bif x10 then (
  some false
 ) else (
   bnd (a0.az&&(!a0.ax)) fun x46 =>
   bnd (x46&&(!a0.ba)) fun x47 =>
   bif x47 then (
    kN a0 1
   ) else (
     kN a0 0
   )
 )

def fC (a0:aF):Nat→Int→Int→Ad Int
 | 0,_,_=>none
 | n0 + 1,v43,v44 =>
   bnd (decide (v44<(a0.ah.length:Int))) fun x64 =>
   bif x64 then (
    bno (gix a0.ah v44) fun x66 =>
    bnd (decide (x66.aa<v43)) fun x67 =>
    bnd (decide (x66.To<x66.aa)) fun x68 =>
    bnd (x67||x68) fun x69 =>
    bnd (decide (a0.ak<x66.To)) fun x70 =>
    bnd (x69||x70) fun x71 =>
    bnd (decide (x66.aa=x66.To)) fun x72 =>
    bnd (x72&&(!x66.bx)) fun x73 =>
    bnd (x71||x73) fun x74 =>
    bnd (decide (x66.bu<0)) fun x75 =>
    bnd (x74||x75) fun x76 =>
    bnd (decide (4≤x66.bu)) fun x77 =>
    bnd (x76||x77) fun x78 =>
    bno (gd (x78 == false) (nU x66 a0.ay) default) fun x79 =>
    bnd (x78||x79) fun x80 =>
    bif x80 then (
     some 10
    ) else (
      bnd (Ab .i64 (v44+1)) fun x82 =>
      (fC a0 n0) x66.To x82
    )
   ) else (
     bno (mZ a0) fun x83 =>
     bif (!x83) then (
      some 9
     ) else (
       some 0
     )
   )
def eY (a0:aF):Ad Int :=
 bnd (decide (a0.ag<0)) fun x1 =>
 bnd (decide (1099511623680<a0.ag)) fun x2 =>
 bnd (x1||x2) fun x3 =>
 bnd (decide (a0.ak<a0.ag)) fun x4 =>
 bnd (x3||x4) fun x5 =>
 bnd (Ab .i64 (a0.ak-a0.ag)) fun x6 =>
 bnd (decide ((a0.aj.length:Int)<x6)) fun x7 =>
 bnd (x5||x7) fun x8 =>
 bif x8 then (
  some 8
 ) else (
   bnd (decide (4096<(a0.aj.length:Int))) fun x10 =>
   bif x10 then (
    some 5
   ) else (
     bno (iB a0.ay) fun x12 =>
     bnd (!decide (x12=0)) fun x13 =>
     bnd (decide (0<(a0.ay.length:Int))) fun x14 =>
     bno (gd ((x13 == false)&&(x14 == true)) (gix a0.ay 0) default) fun x15 =>
     bnd (decide (x15.aa<a0.ag)) fun x16 =>
     bnd (Ab .i64 ((a0.ay.length:Int)-1)) fun x17 =>
     bno (gd (((x13 == false)&&(x14 == true))&&(x16 == false)) (gix a0.ay x17) default) fun x18 =>
     bnd (decide (a0.ak<x18.To)) fun x19 =>
     bnd (x16||x19) fun x20 =>
     bnd (x14&&x20) fun x21 =>
     bnd (x13||x21) fun x22 =>
     bif x22 then (
      some 4
     ) else (
       fC a0 fuel a0.ag 0
     )
   )
 )

def jG (a0:aH):Ad Int :=
 bnd (Ab .i64 (a0.ag-(a0.ap.length:Int))) fun x1 =>
 bnd (Ab .i64 (x1+4096)) fun x2 =>
 bnd (min 1099511627776 x2) fun x3 =>
 some x3

def gH (a0:aH):Nat→Int→Int→Ad Int
 | 0,_,_=>none
 | n0 + 1,v25,v26 =>
   bnd (decide (v26<(a0.ao.length:Int))) fun x43 =>
   bif x43 then (
    bno (gix a0.ao v26) fun x45 =>
    bnd (decide (x45.At≤v25)) fun x46 =>
    bnd (decide (x45.aj=([]:List Ai))) fun x47 =>
    bnd (x46||x47) fun x48 =>
    bno (gd (x48 == false) (jG a0) default) fun x49 =>
    bnd (decide (x49<x45.At)) fun x50 =>
    bnd (x48||x50) fun x51 =>
    bno (gd (x51 == false) (jG a0) default) fun x52 =>
    bnd (Ab .i64 (x52-x45.At)) fun x53 =>
    bnd (decide (x53<(x45.aj.length:Int))) fun x54 =>
    bnd (x51||x54) fun x55 =>
    bif x55 then (
     some 10
    ) else (
      bnd (Ab .i64 (x45.At+(x45.aj.length:Int))) fun x57 =>
      bnd (Ab .i64 (v26+1)) fun x58 =>
      (gH a0 n0) x57 x58
    )
   ) else (
     some 0
   )
def jH (a0:aH):Ad Int :=
 bnd (decide (a0.ag<0)) fun x1 =>
 bnd (decide (1099511627776<a0.ag)) fun x2 =>
 bnd (x1||x2) fun x3 =>
 bnd (decide (4096<(a0.ap.length:Int))) fun x4 =>
 bnd (x3||x4) fun x5 =>
 bnd (decide (a0.ag<(a0.ap.length:Int))) fun x6 =>
 bnd (x5||x6) fun x7 =>
 bif x7 then (
  some 8
 ) else (
   gH a0 fuel a0.ag 0
 )

def gL (a0:aM):Ad Int :=
 bnd (decide ((a0.af.ao.length:Int)=0)) fun x1 =>
 bif x1 then (
  some a0.af.ag
 ) else (
   bnd (Ab .i64 ((a0.af.ao.length:Int)-1)) fun x3 =>
   bno (gix a0.af.ao x3) fun x4 =>
   bnd (Ab .i64 (x4.At+(x4.aj.length:Int))) fun x5 =>
   some x5
 )

def fO (a0:aM):Ad Int :=
 bno (jH a0.af) fun x1 =>
 bnd (!decide (x1=0)) fun x2 =>
 bif x2 then (
  some x1
 ) else (
   bnd (!decide (a0.br=(-1))) fun x4 =>
   bno (gd (x4 == true) (gL a0) default) fun x5 =>
   bnd (decide (a0.br<x5)) fun x6 =>
   bnd (decide (1099511627776<a0.br)) fun x7 =>
   bnd (x6||x7) fun x8 =>
   bnd (x4&&x8) fun x9 =>
   bif x9 then (
    some 8
   ) else (
     some 0
   )
 )

def gF (a0:fT) (v44:Int):Ad Int :=
 bnd (!decide (a0.cr.ci=a0.ae.ak)) fun x45 =>
 bnd (!decide (a0.In.ci=v44)) fun x46 =>
 bnd (x45||x46) fun x47 =>
 bnd (Ab .i64 (a0.af.af.ag-(a0.af.af.ap.length:Int))) fun x48 =>
 bnd (!decide (a0.In.cg=x48)) fun x49 =>
 bnd (x47||x49) fun x50 =>
 bnd (Ab .i64 (a0.In.cg+a0.In.ca)) fun x51 =>
 bnd (decide (x51<a0.In.cf)) fun x52 =>
 bnd (x50||x52) fun x53 =>
 bif x53 then (
  some 4
 ) else (
   some 0
 )
def eD (a0:fT) (x15:Int) (x16:Int) (x17:Int) (x18:Int):Nat→Int→Ad Int
 | 0,_=>none
 | n0 + 1,v26 =>
   bnd (decide (v26<(([x15,x16,x17,x18]:(List Int)).length:Int))) fun x34 =>
   bif x34 then (
    bno (gix ([x15,x16,x17,x18]:(List Int)) v26) fun x36 =>
    bnd (!decide (x36=0)) fun x37 =>
    bif x37 then (
     bno (gix ([x15,x16,x17,x18]:(List Int)) v26) fun x39 =>
     some x39
    ) else (
      bnd (Ab .i64 (v26+1)) fun x40 =>
      (eD a0 x15 x16 x17 x18 n0) x40
    )
   ) else (
     bnd (decide (a0.af.br<0)) fun x55 =>
     bif x55 then (
      bno (gL a0.af) fun x57 =>
      gF a0 x57
     ) else (
       gF a0 a0.af.br
     )
   )
def qV (a0:fT):Ad Int :=
 bnd (decide (a0.ID<0)) fun x1 =>
 bnd (decide (1048576<a0.ID)) fun x2 =>
 bnd (x1||x2) fun x3 =>
 bnd (decide (a0.cm<(-1))) fun x4 =>
 bnd (x3||x4) fun x5 =>
 bnd (decide (255<a0.cm)) fun x6 =>
 bnd (x5||x6) fun x7 =>
 bnd (decide (a0.co<(-1))) fun x8 =>
 bnd (x7||x8) fun x9 =>
 bnd (decide (255<a0.co)) fun x10 =>
 bnd (x9||x10) fun x11 =>
 bnd (decide (4096<a0.In.ca)) fun x12 =>
 bnd (x11||x12) fun x13 =>
 bif x13 then (
  some 8
 ) else (
   bno (nW a0.cr) fun x15 =>
   bno (nW a0.In) fun x16 =>
   bno (eY a0.ae) fun x17 =>
   bno (fO a0.af) fun x18 =>
   eD a0 x15 x16 x17 x18 fuel 0
 )

def wR (a0:fT):Ad Bool :=
 bnd (!decide (a0.cm=(-1))) fun x1 =>
 bnd (!decide (a0.co=(-1))) fun x2 =>
 bnd (x1||x2) fun x3 =>
 some x3

def wQ (a0:fT):Ad Int :=
 bno (qV a0) fun x1 =>
 bnd (decide (x1=0)) fun x2 =>
 bno (gd (x2 == true) (wR a0) default) fun x3 =>
 bnd (x2&&x3) fun x4 =>
 bif x4 then (
  some 15
 ) else (
   some x1
 )

def oV (a0:aF):Ad Int :=
 bif a0.aw then (
  some 0
 ) else (
   bnd (Ab .i64 (4096-(a0.aj.length:Int))) fun x2 =>
   some x2
 )

def nV (a0:aF) (a1:(List Ai)):Ad (aF×Int) :=
 bno (eY a0) fun x1 =>
 bnd (!decide (x1=0)) fun x2 =>
 bif x2 then (
  some (a0,0)
 ) else (
   bno (oV a0) fun x4 =>
   bnd (min (a1.length:Int) x4) fun x5 =>
   bno (cS a0) fun x6 =>
   bnd (Ab .i64 (x6+x5)) fun x7 =>
   bnd (decide (1099511623680<x7)) fun x8 =>
   bif x8 then (
    some (a0,0)
   ) else (
     bno (cut a1 0 x5) fun x10 =>
     bno (cat a0.aj x10) fun x11 =>
     some ((⟨a0.ag,x11,a0.ak,a0.ah,a0.ay,a0.aw,a0.az,a0.ax,a0.ba⟩:aF),x5)
   )
 )

def pA (a0:aH) (a1:Int):Ad (aH×(List Ai)) :=
 bno (jH a0) fun x1 =>
 bnd (!decide (x1=0)) fun x2 =>
 bnd (decide (a1<1)) fun x3 =>
 bnd (x2||x3) fun x4 =>
 bif x4 then (
  some (a0,[])
 ) else (
   bnd (min a1 (a0.ap.length:Int)) fun x6 =>
   bno (cut a0.ap 0 x6) fun x7 =>
   bno (cut a0.ap x6 (a0.ap.length:Int)) fun x8 =>
   some ((⟨a0.ag,x8,a0.ao⟩:aH),x7)
 )

def nS (a0:aM):Ad Bool :=
 bno (fO a0) fun x1 =>
 bnd (decide (x1=0)) fun x2 =>
 bnd (decide (0≤a0.br)) fun x3 =>
 bnd (x2&&x3) fun x4 =>
 bnd (decide (a0.af.ag=a0.br)) fun x5 =>
 bnd (x4&&x5) fun x6 =>
 some x6

def nT (a0:aM):Ad Bool :=
 bno (nS a0) fun x1 =>
 bnd (decide (a0.af.ap=([]:List Ai))) fun x2 =>
 bnd (x1&&x2) fun x3 =>
 some x3

def oU (a0:aM) (a1:Int):Ad (aM×(List Ai)×Bool) :=
 bno (pA a0.af a1) fun x1 =>
 bno (nT (⟨x1.1,a0.br⟩:aM)) fun x2 =>
 some ((⟨x1.1,a0.br⟩:aM),x1.2,x2)

def gX (a0:aH) (a1:Int):Nat→Int→Ad Bool
 | 0,_=>none
 | n0 + 1,v12 =>
   bnd (decide (v12<(a0.ao.length:Int))) fun x24 =>
   bif x24 then (
    bno (gix a0.ao v12) fun x26 =>
    bnd (decide (x26.At≤a1)) fun x27 =>
    bno (gd (x27 == true) (gix a0.ao v12) default) fun x28 =>
    bno (gd (x27 == true) (gix a0.ao v12) default) fun x29 =>
    bnd (Ab .i64 (x28.At+(x29.aj.length:Int))) fun x30 =>
    bnd (decide (a1<x30)) fun x31 =>
    bnd (x27&&x31) fun x32 =>
    bif x32 then (
     some true
    ) else (
      bnd (Ab .i64 (v12+1)) fun x34 =>
      (gX a0 a1 n0) x34
    )
   ) else (
     some false
   )
def rZ (a0:aH) (a1:Int):Ad Bool :=
 gX a0 a1 fuel 0

def cH (x24:(List aL)):Nat→(List aL)→Int→Ad (List aL)
 | 0,_,_=>none
 | n1 + 1,v55,v56 =>
   bnd (decide (v56<(x24.length:Int))) fun x87 =>
   bif x87 then (
    bnd (decide (0<(v55.length:Int))) fun x89 =>
    bnd (Ab .i64 ((v55.length:Int)-1)) fun x90 =>
    bno (gd (x89 == true) (gix v55 x90) default) fun x91 =>
    bno (gd (x89 == true) (v55[(x90:Int).toNat]?) default) fun x92 =>
    bnd (Ab .i64 ((v55.length:Int)-1)) fun x93 =>
    bno (gd (x89 == true) (gix v55 x93) default) fun x94 =>
    bno (gd (x89 == true) (v55[(x93:Int).toNat]?) default) fun x95 =>
    bnd (Ab .i64 (x92.At+(x95.aj.length:Int))) fun x96 =>
    bno (gd (x89 == true) (gix x24 v56) default) fun x97 =>
    bno (gd (x89 == true) (x24[(v56:Int).toNat]?) default) fun x98 =>
    bnd (decide (x96=x98.At)) fun x99 =>
    bnd (x89&&x99) fun x100 =>
    bif x100 then (
     bnd (Ab .i64 ((v55.length:Int)-1)) fun x102 =>
     bnd (Ab .i64 ((v55.length:Int)-1)) fun x103 =>
     bno (gix v55 x103) fun x104 =>
     bno (v55[(x103:Int).toNat]?) fun x105 =>
     bno (gix x24 v56) fun x106 =>
     bno (x24[(v56:Int).toNat]?) fun x107 =>
     bno (cat x105.aj x107.aj) fun x108 =>
     bno (gix v55 x102) fun x109 =>
     bno (v55[(x102:Int).toNat]?) fun x110 =>
     bnd (v55.set ((x102:Int).toNat) (⟨x110.At,x108⟩:aL)) fun x111 =>
     bnd (Ab .i64 (v56+1)) fun x112 =>
     (cH x24 n1) x111 x112
    ) else (
      bno (gix x24 v56) fun x113 =>
      bno (x24[(v56:Int).toNat]?) fun x114 =>
      bno (app 24 v55 ([x114]:(List aL))) fun x115 =>
      bnd (Ab .i64 (v56+1)) fun x116 =>
      (cH x24 n1) x115 x116
    )
   ) else (
     some v55
   )
def fQ (a0:(List aL)) (a1:Int) (a2:(List Ai)):Nat→Int→Ad (List aL)
 | 0,_=>none
 | n0+1,v7 =>
   bnd (decide (v7<(a0.length:Int))) fun x14 =>
   bno (gd (x14 == true) (gix a0 v7) default) fun x15 =>
   bnd (decide (x15.At<a1)) fun x16 =>
   bnd (x14&&x16) fun x17 =>
   bif x17 then (
    bnd (Ab .i64 (v7+1)) fun x19 =>
    (fQ a0 a1 a2 n0) x19
   ) else (
     bno (cut a0 0 v7) fun x20 =>
     bno (app 24 ([]:(List aL)) x20) fun x21 =>
     bno (app 24 x21 (([(⟨a1,a2⟩:aL)]:(List aL)))) fun x22 =>
     bno (cut a0 v7 (a0.length:Int)) fun x23 =>
     bno (app 24 x22 x23) fun x24 =>
     cH x24 fuel ([]:(List aL)) 0
   )
def qB (a0:(List aL)) (a1:Int) (a2:(List Ai)):Ad (List aL) :=
 fQ a0 a1 a2 fuel 0

def jO (a0:aH) (a1:Int) (a2:(List Ai)):Ad (aH×Bool) :=
 bnd (decide (a1<a0.ag)) fun x1 =>
 bno (gd (x1 == false) (jG a0) default) fun x2 =>
 bnd (decide (x2≤a1)) fun x3 =>
 bnd (x1||x3) fun x4 =>
 bno (gd (x4 == false) (rZ a0 a1) default) fun x5 =>
 bnd (x4||x5) fun x6 =>
 bif x6 then (
  some (a0,false)
 ) else (
   bnd (decide (a0.ag<a1)) fun x8 =>
   bif x8 then (
    bno (qB a0.ao a1 a2) fun x10 =>
    some ((⟨a0.ag,a0.ap,x10⟩:aH),true)
   ) else (
     bnd (Ab .i64 (a0.ag+1)) fun x11 =>
     bno (cat a0.ap a2) fun x12 =>
     bnd (decide (0<(a0.ao.length:Int))) fun x13 =>
     bno (gd (x13 == true) (gix a0.ao 0) default) fun x14 =>
     bnd (decide (x14.At=x11)) fun x15 =>
     bnd (x13&&x15) fun x16 =>
     bif x16 then (
      bno (gix a0.ao 0) fun x18 =>
      bnd (Ab .i64 (x11+(x18.aj.length:Int))) fun x19 =>
      bno (gix a0.ao 0) fun x20 =>
      bno (cat x12 x20.aj) fun x21 =>
      bno (cut a0.ao 1 (a0.ao.length:Int)) fun x22 =>
      some ((⟨x19,x21,x22⟩:aH),true)
     ) else (
       some ((⟨x11,x12,a0.ao⟩:aH),true)
     )
   )
 )

def eJ (a1:Int) (a2:(List Ai)):Nat→Int→Int→Int→(List Ai)→(List aL)→Ad (aH×Int)
 | 0,_,_,_,_,_=>none
 | n0 + 1,v18,v19,v20,v21,v22 =>
   bnd (decide (v19<(a2.length:Int))) fun x33 =>
   bif x33 then (
    bnd (Ab .i64 (a1+v19)) fun x35 =>
    bnd (Ab .i64 (v19+1)) fun x36 =>
    bno (cut a2 v19 x36) fun x37 =>
    bno (jO (⟨v20,v21,v22⟩:aH) x35 x37) fun x38 =>
    bif x38.2 then (
     bnd (Ab .i64 (v18+1)) fun x40 =>
     bnd (Ab .i64 (v19+1)) fun x41 =>
     (eJ a1 a2 n0) x40 x41 x38.1.ag x38.1.ap x38.1.ao
    ) else (
      bnd (Ab .i64 (v19+1)) fun x42 =>
      (eJ a1 a2 n0) v18 x42 x38.1.ag x38.1.ap x38.1.ao
    )
   ) else (
     some ((⟨v20,v21,v22⟩:aH),v18)
   )
def qC (a0:aH) (a1:Int) (a2:(List Ai)):Ad (aH×Int) :=
 bno (jH a0) fun x1 =>
 bnd (!decide (x1=0)) fun x2 =>
 bnd (decide (a1<0)) fun x3 =>
 bnd (x2||x3) fun x4 =>
 bnd (decide (1099511627776<a1)) fun x5 =>
 bnd (x4||x5) fun x6 =>
 bif x6 then (
  some (a0,0)
 ) else (
   eJ a1 a2 fuel 0 0 a0.ag a0.ap a0.ao
 )

def pY (x21:(aH×Int)) (v23:Int):Ad (aM×Int×Int) :=
 some ((⟨x21.1,v23⟩:aM),x21.2,0)
def lP (a0:aM) (a1:Int) (a2:(List Ai)) (a3:Bool):Ad (aM×Int×Int) :=
 bno (fO a0) fun x1 =>
 bnd (!decide (x1=0)) fun x2 =>
 bnd (decide (a1<0)) fun x3 =>
 bnd (x2||x3) fun x4 =>
 bnd (Ab .i64 (1099511627776-(a2.length:Int))) fun x5 =>
 bnd (decide (x5<a1)) fun x6 =>
 bnd (x4||x6) fun x7 =>
 bif x7 then (
  some (a0,0,2)
 ) else (
   bnd (Ab .i64 (a1+(a2.length:Int))) fun x9 =>
   bnd (decide (0≤a0.br)) fun x10 =>
   bnd (decide (a0.br<x9)) fun x11 =>
   bnd (!decide (x9=a0.br)) fun x12 =>
   bnd (a3&&x12) fun x13 =>
   bnd (x11||x13) fun x14 =>
   bnd (x10&&x14) fun x15 =>
   bif x15 then (
    some (a0,0,5)
   ) else (
     bno (gd (a3 == true) (gL a0) default) fun x17 =>
     bnd (decide (x9<x17)) fun x18 =>
     bnd (a3&&x18) fun x19 =>
     bif x19 then (
      some (a0,0,5)
     ) else (
       bno (qC a0.af a1 a2) fun x21 =>
       bif a3 then (
        pY x21 x9
       ) else (
         pY x21 a0.br
       )
     )
   )
 )

def nE (a0:aC):Ad (List aC) :=
 bnd (decide (a0.To≤a0.aa)) fun x1 =>
 bif x1 then (
  some []
 ) else (
   some (([(⟨a0.aa,a0.To⟩:aC)]:(List aC)))
 )

def iH (a0:(List aC)) (a1:aC):Ad (List aC) :=
 bno (iB a0) fun x1 =>
 bnd (!decide (x1=0)) fun x2 =>
 bno (gd (x2 == false) (lS (⟨a1.aa,a1.To⟩:aC)) default) fun x3 =>
 bnd (x2||(!x3)) fun x4 =>
 bif x4 then (
  some a0
 ) else (
   bno (nE (⟨a1.aa,a1.To⟩:aC)) fun x6 =>
   bno (kG a0 x6 1) fun x7 =>
   some x7
 )

def jK (v28:(List aD)) (v29:Int) (kk0:(List aD)→Int→Ad aF) (x46:aD) (x47:Int) (x48:Int) (v50:Bool):Ad aF :=
 bnd (decide (x47<x48)) fun x51 =>
 bnd (x51||v50) fun x52 =>
 bif x52 then (
  bno (app 32 v28 (([(⟨x47,x48,x46.bu,v50⟩:aD)]:(List aD)))) fun x54 =>
  bnd (Ab .i64 (v29+1)) fun x55 =>
  kk0 x54 x55
 ) else (
   bnd (Ab .i64 (v29+1)) fun x56 =>
   kk0 v28 x56
 )
def dG (a0:aF) (a2:Bool) (x13:Int):Nat→(List aD)→Int→Ad aF
 | 0,_,_=>none
 | n0 + 1,v28,v29 =>
   bnd (decide (v29<(a0.ah.length:Int))) fun x44 =>
   bif x44 then (
    bno (gix a0.ah v29) fun x46 =>
    bnd (max x46.aa x13) fun x47 =>
    bnd (max x46.To x13) fun x48 =>
    bif a2 then (
     jK v28 v29 (dG a0 a2 x13 n0) x46 x47 x48 false
    ) else (
      jK v28 v29 (dG a0 a2 x13 n0) x46 x47 x48 x46.bx
    )
   ) else (
     bnd (Ab .i64 (x13-a0.ag)) fun x58 =>
     bno (cut a0.aj x58 (a0.aj.length:Int)) fun x59 =>
     bno (iH a0.ay (⟨0,x13⟩:aC)) fun x60 =>
     bif a2 then (
      some (⟨x13,x59,a0.ak,v28,x60,a0.aw,a0.az,false,true⟩:aF)
     ) else (
       some (⟨x13,x59,a0.ak,v28,x60,a0.aw,a0.az,a0.ax,a0.ba⟩:aF)
     )
   )
def oX (a0:aF) (a1:Int) (a2:Bool):Ad aF :=
 bno (eY a0) fun x1 =>
 bnd (!decide (x1=0)) fun x2 =>
 bnd (decide (a1<0)) fun x3 =>
 bnd (x2||x3) fun x4 =>
 bnd (decide (a0.ak<a1)) fun x5 =>
 bnd (x4||x5) fun x6 =>
 bno (gd (((x6 == false)&&(a2 == true))&&((!a0.az) == false)) (cS a0) default) fun x7 =>
 bnd (!decide (a1=x7)) fun x8 =>
 bnd ((!a0.az)||x8) fun x9 =>
 bnd (a2&&x9) fun x10 =>
 bnd (x6||x10) fun x11 =>
 bif x11 then (
  some a0
 ) else (
   bnd (max a0.ag a1) fun x13 =>
   dG a0 a2 x13 fuel ([]:(List aD)) 0
 )

def lQ (a0:aF):Ad Bool :=
 bnd (a0.aw&&(!a0.ba)) fun x1 =>
 bnd ((!a0.az)||a0.ax) fun x2 =>
 bnd (x1&&x2) fun x3 =>
 some x3

def iN (a0:(List aD)) (a1:aD):Nat→Int→Ad (List aD)
 | 0,_=>none
 | n0+1,v13 =>
   bnd (decide (v13<(a0.length:Int))) fun x26 =>
   bno (gd (x26 == true) (gix a0 v13) default) fun x27 =>
   bnd (decide (x27.aa<a1.aa)) fun x28 =>
   bno (gd ((x26 == true)&&(x28 == false)) (gix a0 v13) default) fun x29 =>
   bnd (decide (x29.aa=a1.aa)) fun x30 =>
   bno (gd (((x26 == true)&&(x28 == false))&&(x30 == true)) (gix a0 v13) default) fun x31 =>
   bnd (decide (x31.To<a1.To)) fun x32 =>
   bnd (x30&&x32) fun x33 =>
   bnd (x28||x33) fun x34 =>
   bnd (x26&&x34) fun x35 =>
   bif x35 then (
    bnd (Ab .i64 (v13+1)) fun x37 =>
    (iN a0 a1 n0) x37
   ) else (
     bno (cut a0 0 v13) fun x38 =>
     bno (app 32 ([]:(List aD)) x38) fun x39 =>
     bno (app 32 x39 ([a1]:(List aD))) fun x40 =>
     bno (cut a0 v13 (a0.length:Int)) fun x41 =>
     bno (app 32 x40 x41) fun x42 =>
     some x42
   )
def tH (a0:(List aD)) (a1:aD):Ad (List aD) :=
 iN a0 a1 fuel 0

def jJ (a0:aF) (a1:aD) (v6:Bool) (v7:Bool) (v8:Bool):Ad (aF×aD×(List Ai)×Bool) :=
 bno (tH a0.ah (⟨a1.aa,a1.To,a1.bu,v8⟩:aD)) fun x9 =>
 bnd (Ab .i64 (a1.aa-a0.ag)) fun x10 =>
 bnd (Ab .i64 (a1.To-a0.ag)) fun x11 =>
 bno (cut a0.aj x10 x11) fun x12 =>
 some (((⟨a0.ag,a0.aj,a0.ak,x9,a0.ay,a0.aw,v6,v7,a0.ba⟩:aF),(⟨a1.aa,a1.To,a1.bu,v8⟩:aD),x12,true))
def fG (a0:aF) (a1:aD):Ad (aF×aD×(List Ai)×Bool) :=
 bno (lQ a0) fun x13 =>
 bno (gd (x13 == true) (cS a0) default) fun x14 =>
 bnd (decide (a1.To=x14)) fun x15 =>
 bnd (x13&&x15) fun x16 =>
 bif x16 then (
  jJ a0 a1 true false true
 ) else (
   jJ a0 a1 a0.az a0.ax a1.bx
 )

def eW (a0:aF) (a1:Int) (a2:Int) (a3:Int):Ad (aF×aD×(List Ai)×Bool) :=
 bno (eY a0) fun x1 =>
 bnd (!decide (x1=0)) fun x2 =>
 bnd (decide (a1<0)) fun x3 =>
 bnd (x2||x3) fun x4 =>
 bnd (decide (4≤a1)) fun x5 =>
 bnd (x4||x5) fun x6 =>
 bnd (decide (a2<1)) fun x7 =>
 bnd (x6||x7) fun x8 =>
 bif x8 then (
  some (a0,(⟨0,0,0,false⟩:aD),[],false)
 ) else (
   bnd (decide (0<(a0.ay.length:Int))) fun x10 =>
   bif x10 then (
    bno (gix a0.ay 0) fun x12 =>
    bnd (min a2 4096) fun x13 =>
    bnd (Ab .i64 (x12.aa+x13)) fun x14 =>
    bnd (min x12.To x14) fun x15 =>
    bno (iH a0.ay (⟨x12.aa,x15⟩:aC)) fun x16 =>
    bno (fG (⟨a0.ag,a0.aj,a0.ak,a0.ah,x16,a0.aw,a0.az,a0.ax,a0.ba⟩:aF) (⟨x12.aa,x15,a1,false⟩:aD)) fun x17 =>
    some (x17.1,x17.2.1,x17.2.2.1,x17.2.2.2)
   ) else (
     bno (cS a0) fun x18 =>
     bnd (Ab .i64 (x18-a0.ak)) fun x19 =>
     bnd (decide (0<x19)) fun x20 =>
     bnd (decide (a0.ak<a3)) fun x21 =>
     bnd (x20&&x21) fun x22 =>
     bif x22 then (
      bnd (Ab .i64 (a3-a0.ak)) fun x24 =>
      bnd (min (min x19 a2) x24) fun x25 =>
      bnd (Ab .i64 (a0.ak+x25)) fun x26 =>
      bnd (Ab .i64 (a0.ak+x25)) fun x27 =>
      bno (fG (⟨a0.ag,a0.aj,x27,a0.ah,a0.ay,a0.aw,a0.az,a0.ax,a0.ba⟩:aF) (⟨a0.ak,x26,a1,false⟩:aD)) fun x28 =>
      some (x28.1,x28.2.1,x28.2.2.1,x28.2.2.2)
     ) else (
       bnd (decide (x19=0)) fun x29 =>
       bno (gd (x29 == true) (lQ a0) default) fun x30 =>
       bnd (x29&&x30) fun x31 =>
       bif x31 then (
        bno (cS a0) fun x33 =>
        bno (cS a0) fun x34 =>
        bno (fG a0 (⟨x33,x34,a1,false⟩:aD)) fun x35 =>
        some (x35.1,x35.2.1,x35.2.2.1,x35.2.2.2)
       ) else (
         some (a0,(⟨0,0,0,false⟩:aD),[],false)
       )
     )
   )
 )

def nF (a0:(List aC)) (a1:aC):Ad (List aC) :=
 bno (iB a0) fun x1 =>
 bnd (!decide (x1=0)) fun x2 =>
 bno (gd (x2 == false) (lS (⟨a1.aa,a1.To⟩:aC)) default) fun x3 =>
 bnd (x2||(!x3)) fun x4 =>
 bif x4 then (
  some a0
 ) else (
   bno (nE (⟨a1.aa,a1.To⟩:aC)) fun x6 =>
   bno (kG a0 x6 0) fun x7 =>
   some x7
 )

def fJ (a0:aF) (a1:Int):Nat→(List aD)→Int→(List aC)→Bool→Ad aF
 | 0,_,_,_,_=>none
 | n0 + 1,v14,v15,v16,v17 =>
   bnd (decide (v15<(a0.ah.length:Int))) fun x28 =>
   bif x28 then (
    bno (gix a0.ah v15) fun x30 =>
    bnd (!decide (x30.bu=a1)) fun x31 =>
    bif x31 then (
     bno (app 32 v14 ([x30]:(List aD))) fun x33 =>
     bnd (Ab .i64 (v15+1)) fun x34 =>
     (fJ a0 a1 n0) x33 x34 v16 v17
    ) else (
      bno (nF v16 (⟨x30.aa,x30.To⟩:aC)) fun x35 =>
      bnd (v17||x30.bx) fun x36 =>
      bnd (Ab .i64 (v15+1)) fun x37 =>
      (fJ a0 a1 n0) v14 x37 x35 x36
    )
   ) else (
     some (⟨a0.ag,a0.aj,a0.ak,v14,v16,a0.aw,a0.az,v17,a0.ba⟩:aF)
   )
def oW (a0:aF) (a1:Int):Ad aF :=
 bno (eY a0) fun x1 =>
 bnd (!decide (x1=0)) fun x2 =>
 bif x2 then (
  some a0
 ) else (
   fJ a0 a1 fuel ([]:(List aD)) 0 a0.ay a0.ax
 )

end Go.Fn
open Go Go.IL
namespace Go.Fn
structure aG where
 ae:aF
 af:aM
 In:aK
 deriving DecidableEq,Inhabited
def aCG:Enc aG:=⟨⟨fun x=>.agg [.int .i64 x.ae.ag,.str x.ae.aj,.int .i64 x.ae.ak,.slice false (x.ae.ah.map aB.d),.slice false (x.ae.ay.map aO.d),.bool x.ae.aw,.bool x.ae.az,.bool x.ae.ax,.bool x.ae.ba,.int .i64 x.af.af.ag,.str x.af.af.ap,.slice false (x.af.af.ao.map aP.d),.int .i64 x.af.br,.str x.In.bq,.int .i64 x.In.bv,.int .i64 x.In.bf],16,by decide,fun _=>⟨rfl,rfl⟩⟩,fun _=>rfl⟩

structure iM where
 cq:Int
 Code:Int
 deriving DecidableEq,Inhabited
def aCE:Enc iM:=⟨⟨fun x=>.agg [.int .i64 x.cq,.int .u32 x.Code],2,by decide,fun _=>⟨rfl,rfl⟩⟩,fun _=>rfl⟩

variable [Fu]
def tX  : Ad aG :=
 bno (aGC) fun x1 =>
 bno (aGI) fun x2 =>
 some (⟨x1,x2,(⟨[],0,0⟩:aK)⟩:aG)

def dE (a0:aG):Ad Int :=
 bno (lU a0.ae) fun x1 =>
 bnd (!decide (x1=0)) fun x2 =>
 bif x2 then (
  some x1
 ) else (
   bno (pO a0.af) fun x4 =>
   bnd (!decide (x4=0)) fun x5 =>
   bif x5 then (
    some x4
   ) else (
     bno (oJ a0.In) fun x7 =>
     bnd (!decide (x7=0)) fun x8 =>
     bif x8 then (
      some x7
     ) else (
       bnd (decide (0≤a0.af.br)) fun x10 =>
       bnd (a0.ae.aw||x10) fun x11 =>
       bnd (!decide (a0.af.af.ap=([]:List Ai))) fun x12 =>
       bnd (x11||x12) fun x13 =>
       bnd (!decide (a0.In.bv=0)) fun x14 =>
       bnd (x13||x14) fun x15 =>
       bif x15 then (
        some 4
       ) else (
         some 0
       )
     )
   )
 )

def qH (a0 : Int):Ad Bool :=
 bnd (decide (a0=1)) fun x1 =>
 bif x1 then (
  some true
 ) else (
   bnd (decide (a0=2)) fun x3 =>
   bif x3 then (
    some true
   ) else (
     bnd (decide (a0=3)) fun x5 =>
     bif x5 then (
      some true
     ) else (
       bnd (decide (a0=4)) fun x7 =>
       bif x7 then (
        some true
       ) else (
         bnd (decide (a0=6)) fun x9 =>
         bif x9 then (
          some true
         ) else (
           bnd (decide (a0=7)) fun x11 =>
           bif x11 then (
            some true
           ) else (
             bnd (decide (a0=8)) fun x13 =>
             bif x13 then (
              some true
             ) else (
               some false
             )
           )
         )
       )
     )
   )
 )

def mE (a0 : aG) (a1:aA):Ad (aG×Int) :=
 bno (dE a0) fun x1 =>
 bnd (!decide (x1=0)) fun x2 =>
 bif x2 then (
  some (a0,x1)
 ) else (
   bno (qH a1.aq) fun x4 =>
   bif (!x4) then (
    some (a0,12)
   ) else (
     bno (aAS a1) fun x6 =>
     bnd (!decide (x6.2=0)) fun x7 =>
     bif x7 then (
      some (a0,x6.2)
     ) else (
       bno (wU a0.ae) fun x9 =>
       bnd (decide (x9<(x6.1.length:Int))) fun x10 =>
       bif x10 then (
        some (a0,7)
       ) else (
         bno (xM a0.ae x6.1) fun x12 =>
         bnd (decide (x12.2<(x6.1.length:Int))) fun x13 =>
         bif x13 then (
          some (a0,7)
         ) else (
           some ((⟨x12.1,a0.af,a0.In⟩:aG),0)
         )
       )
     )
   )
 )

def sI (a0:aF) (a1:Int) (a2:Int) (a3:aD) (a4:(List Ai)) (a5:Bool):Ad (aF×aD×(List Ai)×Bool) :=
 bno (lT a0 a1 a2 1099511627776) fun x1 =>
 some (x1.1,x1.2.1,x1.2.2.1,x1.2.2.2)

def kC (a0:aG) (a1:Int) (a2:Int) (a3:aD) (a4:(List Ai)) (a5:Bool):Ad (aG×aD×(List Ai)×Bool) :=
 bno (dE a0) fun x1 =>
 bnd (decide (x1=0)) fun x2 =>
 bif x2 then (
  bno (sI a0.ae a1 a2 a3 a4 a5) fun x4 =>
  some ((⟨x4.1,a0.af,a0.In⟩:aG),x4.2.1,x4.2.2.1,x4.2.2.2)
 ) else (
   some (a0,a3,a4,a5)
 )

def lJ (a0:aG) (a1:Int) (a2:Int):Ad (aG×aD×(List Ai)×Bool) :=
 bno (kC a0 a1 a2 (⟨0,0,0,false⟩:aD) ([]:(List Ai)) false) fun x1 =>
 some (x1.1,x1.2.1,x1.2.2.1,x1.2.2.2)

def pF (a0:aA):Ad Bool :=
 bno (qH a0.aq) fun x1 =>
 some (!x1)

def bI (a0:(List aA)):Nat→Int→Ad Int
 | 0,_=>none
 | n0 + 1,v7 =>
   bnd (decide (v7<(a0.length:Int))) fun x14 =>
   bif x14 then (
    bno (gix a0 v7) fun x16 =>
    bno (pF x16) fun x17 =>
    bif x17 then (
     some v7
    ) else (
      bnd (Ab .i64 (v7+1)) fun x19 =>
      (bI a0 n0) x19
    )
   ) else (
     some (-1)
   )
def cZ (a0:(List aA)):Ad Int :=
 bI a0 fuel 0

def tO (a0:Int):Ad iM :=
 bnd (decide (a0=0)) fun x1 =>
 bif x1 then (
  some (⟨0,0⟩:iM)
 ) else (
   bnd (decide (a0=5)) fun x3 =>
   bif x3 then (
    some (⟨3,6⟩:iM)
   ) else (
     some (⟨3,1⟩:iM)
   )
 )

def fZ (a0:aG) (a1:Int) (a2:(List Ai)):Ad (aG×(List aA)×Int) :=
 bno (dE a0) fun x1 =>
 bnd (!decide (x1=0)) fun x2 =>
 bif x2 then (
  some (a0,[],2)
 ) else (
   bno (xT a0.af a1 a2 false) fun x4 =>
   bnd (!decide (x4.2.2=0)) fun x5 =>
   bif x5 then (
    some (a0,[],x4.2.2)
   ) else (
     bno (zU x4.1 4096) fun x7 =>
     bno (pT a0.In x7.2.1) fun x8 =>
     bno (cZ x8.2) fun x9 =>
     bnd (decide (0≤x9)) fun x10 =>
     bif x10 then (
      bno (cut x8.2 0 x9) fun x12 =>
      some (a0,x12,1)
     ) else (
       bno (tO x8.1.bv) fun x13 =>
       bnd (!decide (x13.cq=0)) fun x14 =>
       bif x14 then (
        some (a0,x8.2,x13.Code)
       ) else (
         some ((⟨a0.ae,x7.1,x8.1⟩:aG),x8.2,0)
       )
     )
   )
 )

def sJ (a0:aF) (a1:Int):Ad aF :=
 bno (zP a0 a1) fun x1 =>
 some x1

def kD (a0:aG) (a1:Int):Ad aG :=
 bno (dE a0) fun x1 =>
 bnd (decide (x1=0)) fun x2 =>
 bif x2 then (
  bno (sJ a0.ae a1) fun x4 =>
  some (⟨x4,a0.af,a0.In⟩:aG)
 ) else (
   some a0
 )

def mF (a0:aG) (a1:Int):Ad aG :=
 bno (kD a0 a1) fun x1 =>
 some x1

def qQ (a0:aF) (a1:Int):Ad aF :=
 bno (uX a0 a1 false) fun x1 =>
 some x1

def iU (a0:aG) (a1:Int):Ad aG :=
 bno (dE a0) fun x1 =>
 bnd (decide (x1=0)) fun x2 =>
 bif x2 then (
  bno (qQ a0.ae a1) fun x4 =>
  some (⟨x4,a0.af,a0.In⟩:aG)
 ) else (
   some a0
 )

def jF (a0:aG) (a1:Int):Ad aG :=
 bno (iU a0 a1) fun x1 =>
 some x1

def oK (a0:aG):Ad Int :=
 some a0.af.af.ag

def lI (a0:aG):Ad Bool :=
 bno (dE a0) fun x1 =>
 bnd (decide (x1=0)) fun x2 =>
 bno (gd (x2 == true) (zN a0.ae 1099511627776) default) fun x3 =>
 bnd (x2&&x3) fun x4 =>
 some x4

def nQ (a0:aG) (a1:aG):Ad Bool :=
 bnd ((decide (a0.In.bq=a1.In.bq)&&(decide (a0.In.bv=a1.In.bv)&&(decide (a0.In.bf=a1.In.bf)&&true)))) fun x1 =>
 bno (gd (x1 == true) (zO a0.ae a1.ae) default) fun x2 =>
 bnd (x1&&x2) fun x3 =>
 bno (gd (x3 == true) (zT a0.af a1.af) default) fun x4 =>
 bnd (x3&&x4) fun x5 =>
 some x5

def jI  : Ad Bool :=
 bno (tX) fun x1 =>
 bno (mE x1 (⟨6,false,0,0,0,0,7,0,[],[]⟩:aA)) fun x2 =>
 bno (mE x2.1 (⟨9,false,0,0,0,0,0,0,[],[]⟩:aA)) fun x3 =>
 bno (lJ x2.1 1 3) fun x4 =>
 bno (lJ x4.1 2 9) fun x5 =>
 bno (tX) fun x6 =>
 bno (fZ x6 3 x5.2.2.1) fun x7 =>
 bno (fZ x7.1 0 x4.2.2.1) fun x8 =>
 bno (fZ x8.1 4 [4,1,0,10,0,2,0,0]) fun x9 =>
 bno (mF x5.1 1) fun x10 =>
 bno (jF x10 4) fun x11 =>
 bnd (decide (x2.2=0)) fun x12 =>
 bnd (decide (x3.2=12)) fun x13 =>
 bnd (x12&&x13) fun x14 =>
 bnd (x14&&x4.2.2.2) fun x15 =>
 bnd (decide (x4.2.1.To=3)) fun x16 =>
 bnd (x15&&x16) fun x17 =>
 bnd (decide (x4.2.2.1=([6,0,1]:List Ai))) fun x18 =>
 bnd (x17&&x18) fun x19 =>
 bnd (x19&&x5.2.2.2) fun x20 =>
 bnd (decide (x5.2.1.aa=3)) fun x21 =>
 bnd (x20&&x21) fun x22 =>
 bnd (decide (x5.2.2.1=([7]:List Ai))) fun x23 =>
 bnd (x22&&x23) fun x24 =>
 bnd (decide ((x7.2.1.length:Int)=0)) fun x25 =>
 bnd (x24&&x25) fun x26 =>
 bnd (decide (x7.2.2=0)) fun x27 =>
 bnd (x26&&x27) fun x28 =>
 bnd (decide ((x8.2.1.length:Int)=1)) fun x29 =>
 bnd (x28&&x29) fun x30 =>
 bno (gd (x30 == true) (gix x8.2.1 0) default) fun x31 =>
 bnd (decide (x31.N=7)) fun x32 =>
 bnd (x30&&x32) fun x33 =>
 bnd (decide (x8.2.2=0)) fun x34 =>
 bnd (x33&&x34) fun x35 =>
 bno (gd (x35 == true) (oK x8.1) default) fun x36 =>
 bnd (decide (x36=4)) fun x37 =>
 bnd (x35&&x37) fun x38 =>
 bnd (decide ((x9.2.1.length:Int)=1)) fun x39 =>
 bnd (x38&&x39) fun x40 =>
 bno (gd (x40 == true) (gix x9.2.1 0) default) fun x41 =>
 bnd (x40&&x41.bp) fun x42 =>
 bnd (decide (x9.2.2=1)) fun x43 =>
 bnd (x42&&x43) fun x44 =>
 bno (gd (x44 == true) (lI x10) default) fun x45 =>
 bnd (x44&&x45) fun x46 =>
 bno (gd (x46 == true) (lI x5.1) default) fun x47 =>
 bnd (x46&&(!x47)) fun x48 =>
 bnd (decide (x11.ae.ag=4)) fun x49 =>
 bnd (x48&&x49) fun x50 =>
 bno (gd (x50 == true) (lI x11) default) fun x51 =>
 bnd (x50&&(!x51)) fun x52 =>
 bno (gd (x52 == true) (dE x11) default) fun x53 =>
 bnd (decide (x53=0)) fun x54 =>
 bnd (x52&&x54) fun x55 =>
 bno (gd (x55 == true) (dE ((⟨(⟨0,[],0,[],[],false,false,false,false⟩:aF),(⟨(⟨0,[],[]⟩:aH),0⟩:aM),(⟨[],0,0⟩:aK)⟩:aG))) default) fun x56 =>
 bnd (decide (x56=4)) fun x57 =>
 bnd (x55&&x57) fun x58 =>
 bno (gd (x58 == true) (nQ x10 x11) default) fun x59 =>
 bnd (x58&&(!x59)) fun x60 =>
 bno (gd (x60 == true) (nQ x11 x11) default) fun x61 =>
 bnd (x60&&x61) fun x62 =>
 bnd (bif x62 then true else false) fun x63 =>
 bnd (bif x63 then true else false) fun x64 =>
 bnd (bif x64 then true else false) fun x65 =>
 bnd (bif x65 then true else false) fun x66 =>
 bnd (bif x66 then true else false) fun x67 =>
 some x67

end Go.Fn
open Go Go.IL
namespace Go.Fn
structure uM where
 aq:Int
 N:Int
 bu:Int
 F:aA
 deriving DecidableEq,Inhabited
structure dZ where
 at_:Int
 s:(List Ai)
 deriving DecidableEq,Inhabited
variable [Fu]
def nH (v179:Int) (kk0:(List aA)→(List aA)→(List dZ)→Int→Int→Int→(List Ai)→Int→(List aD)→(List aC)→Bool→Bool→Bool→Bool→Int→(List Ai)→(List aL)→Int→(List Ai)→Int→Int→Int→(List Ai)→Int→(List aD)→(List aC)→Bool→Bool→Bool→Bool→Int→(List Ai)→(List aL)→Int→(List Ai)→Int→Int→Ad Bool) (v432:(List aA)) (v433:(List aA)) (v434:(List dZ)) (v435:Int) (v436:Int) (v437:(List Ai)) (v438:Int) (v439:(List aD)) (v440:(List aC)) (v441:Bool) (v442:Bool) (v443:Bool) (v444:Bool) (v445:Int) (v446:(List Ai)) (v447:(List aL)) (v448:Int) (v449:(List Ai)) (v450:Int) (v451:Int) (v452:Int) (v453:(List Ai)) (v454:Int) (v455:(List aD)) (v456:(List aC)) (v457:Bool) (v458:Bool) (v459:Bool) (v460:Bool) (v461:Int) (v462:(List Ai)) (v463:(List aL)) (v464:Int) (v465:(List Ai)) (v466:Int) (v467:Int) (v486:Bool):Ad Bool :=
 bif v486 then (
  some false
 ) else (
   bnd (Ab .i64 (v179+1)) fun x488 =>
   kk0 v432 v433 v434 v435 x488 v436 v437 v438 v439 v440 v441 v442 v443 v444 v445 v446 v447 v448 v449 v450 v451 v452 v453 v454 v455 v456 v457 v458 v459 v460 v461 v462 v463 v464 v465 v466 v467
 )
def bZ (v179:Int) (kk0:(List aA)→(List aA)→(List dZ)→Int→Int→Int→(List Ai)→Int→(List aD)→(List aC)→Bool→Bool→Bool→Bool→Int→(List Ai)→(List aL)→Int→(List Ai)→Int→Int→Int→(List Ai)→Int→(List aD)→(List aC)→Bool→Bool→Bool→Bool→Int→(List Ai)→(List aL)→Int→(List Ai)→Int→Int→Ad Bool) (v432:(List aA)) (v433:(List aA)) (v434:(List dZ)) (v435:Int) (v436:Int) (v437:(List Ai)) (v438:Int) (v439:(List aD)) (v440:(List aC)) (v441:Bool) (v442:Bool) (v443:Bool) (v444:Bool) (v445:Int) (v446:(List Ai)) (v447:(List aL)) (v448:Int) (v449:(List Ai)) (v450:Int) (v451:Int) (v452:Int) (v453:(List Ai)) (v454:Int) (v455:(List aD)) (v456:(List aC)) (v457:Bool) (v458:Bool) (v459:Bool) (v460:Bool) (v461:Int) (v462:(List Ai)) (v463:(List aL)) (v464:Int) (v465:(List Ai)) (v466:Int) (v467:Int):Ad Bool :=
 bnd (decide ((v432.length:Int)<(v433.length:Int))) fun x489 =>
 bno (gd (x489 == false) (cut v432 0 (v433.length:Int)) []) fun x490 =>
 bif (x489 == false) then (
  bno (fK v433 x490) fun x492 =>
  bnd (x489||(!x492)) fun x493 =>
  bno (gd (x493 == false) (dE ((⟨(⟨v436,v437,v438,v439,v440,v441,v442,v443,v444⟩:aF),(⟨(⟨v445,v446,v447⟩:aH),v448⟩:aM),(⟨v449,v450,v451⟩:aK)⟩:aG))) default) fun x494 =>
  bnd (!decide (x494=0)) fun x495 =>
  bnd (x493||x495) fun x496 =>
  bno (gd (x496 == false) (dE ((⟨(⟨v452,v453,v454,v455,v456,v457,v458,v459,v460⟩:aF),(⟨(⟨v461,v462,v463⟩:aH),v464⟩:aM),(⟨v465,v466,v467⟩:aK)⟩:aG))) default) fun x497 =>
  bnd (!decide (x497=0)) fun x498 =>
  bnd (x496||x498) fun x499 =>
  nH v179 kk0 v432 v433 v434 v435 v436 v437 v438 v439 v440 v441 v442 v443 v444 v445 v446 v447 v448 v449 v450 v451 v452 v453 v454 v455 v456 v457 v458 v459 v460 v461 v462 v463 v464 v465 v466 v467 x499
 ) else (
   bnd (x489||(!false)) fun x500 =>
   bno (gd (x500 == false) (dE ((⟨(⟨v436,v437,v438,v439,v440,v441,v442,v443,v444⟩:aF),(⟨(⟨v445,v446,v447⟩:aH),v448⟩:aM),(⟨v449,v450,v451⟩:aK)⟩:aG))) default) fun x501 =>
   bnd (!decide (x501=0)) fun x502 =>
   bnd (x500||x502) fun x503 =>
   bno (gd (x503 == false) (dE ((⟨(⟨v452,v453,v454,v455,v456,v457,v458,v459,v460⟩:aF),(⟨(⟨v461,v462,v463⟩:aH),v464⟩:aM),(⟨v465,v466,v467⟩:aK)⟩:aG))) default) fun x504 =>
   bnd (!decide (x504=0)) fun x505 =>
   bnd (x503||x505) fun x506 =>
   nH v179 kk0 v432 v433 v434 v435 v436 v437 v438 v439 v440 v441 v442 v443 v444 v445 v446 v447 v448 v449 v450 v451 v452 v453 v454 v455 v456 v457 v458 v459 v460 v461 v462 v463 v464 v465 v466 v467 x506
 )
def jU (v175:(List aA)) (v178:Int):Nat→(List aA)→Int→Int→(List Ai)→Int→(List aD)→(List aC)→Bool→Bool→Bool→Bool→Int→(List Ai)→(List aL)→Int→(List Ai)→Int→Int→Int→(List Ai)→Int→(List aD)→(List aC)→Bool→Bool→Bool→Bool→Int→(List Ai)→(List aL)→Int→(List Ai)→Int→Int→Ad Bool
 | 0,_,_,_,_,_,_,_,_,_,_,_,_,_,_,_,_,_,_,_,_,_,_,_,_,_,_,_,_,_,_,_,_,_,_=>none
 | n4 + 1,v596,v597,v598,v599,v600,v601,v602,v603,v604,v605,v606,v607,v608,v609,v610,v611,v612,v613,v614,v615,v616,v617,v618,v619,v620,v621,v622,v623,v624,v625,v626,v627,v628,v629 =>
   bnd (decide (v597<v178)) fun x643 =>
   bno (gd (x643 == true) (lI ((⟨(⟨v598,v599,v600,v601,v602,v603,v604,v605,v606⟩:aF),(⟨(⟨v607,v608,v609⟩:aH),v610⟩:aM),(⟨v611,v612,v613⟩:aK)⟩:aG))) default) fun x644 =>
   bnd (x643&&x644) fun x645 =>
   bif x645 then (
    bno (lJ ((⟨(⟨v598,v599,v600,v601,v602,v603,v604,v605,v606⟩:aF),(⟨(⟨v607,v608,v609⟩:aH),v610⟩:aM),(⟨v611,v612,v613⟩:aK)⟩:aG)) 0 32) fun x647 =>
    bno (fZ ((⟨(⟨v614,v615,v616,v617,v618,v619,v620,v621,v622⟩:aF),(⟨(⟨v623,v624,v625⟩:aH),v626⟩:aM),(⟨v627,v628,v629⟩:aK)⟩:aG)) x647.2.1.aa x647.2.2.1) fun x648 =>
    bno (oK x648.1) fun x649 =>
    bno (jF x647.1 x649) fun x650 =>
    bno (iP x648.2.1) fun x651 =>
    bno (app 96 v596 x651) fun x652 =>
    bnd (!decide (x648.2.2=0)) fun x653 =>
    bif x653 then (
     some false
    ) else (
      bnd (Ab .i64 (v597+1)) fun x655 =>
      (jU v175 v178 n4) x652 x655 x650.ae.ag x650.ae.aj x650.ae.ak x650.ae.ah x650.ae.ay x650.ae.aw x650.ae.az x650.ae.ax x650.ae.ba x650.af.af.ag x650.af.af.ap x650.af.af.ao x650.af.br x650.In.bq x650.In.bv x650.In.bf x648.1.ae.ag x648.1.ae.aj x648.1.ae.ak x648.1.ae.ah x648.1.ae.ay x648.1.ae.aw x648.1.ae.az x648.1.ae.ax x648.1.ae.ba x648.1.af.af.ag x648.1.af.af.ap x648.1.af.af.ao x648.1.af.br x648.1.In.bq x648.1.In.bv x648.1.In.bf
    )
   ) else (
     bno (fK v596 v175) fun x656 =>
     bnd (decide (v599=([]:List Ai))) fun x657 =>
     bnd (x656&&x657) fun x658 =>
     bnd (decide (v627=([]:List Ai))) fun x659 =>
     bnd (x658&&x659) fun x660 =>
     bno (gd (x660 == true) (jI) default) fun x661 =>
     bnd (x660&&x661) fun x662 =>
     some x662
   )
def jV (v175:(List aA)) (v176:(List aA)) (v178:Int) (v196:Int) (v197:(List Ai)) (v198:Int) (v199:(List aD)) (v200:(List aC)) (v201:Bool) (v202:Bool) (v203:Bool) (v204:Bool) (v205:Int) (v206:(List Ai)) (v207:(List aL)) (v208:Int) (v209:(List Ai)) (v210:Int) (v211:Int):Nat→Int→Int→(List Ai)→Int→(List aD)→(List aC)→Bool→Bool→Bool→Bool→Int→(List Ai)→(List aL)→Int→(List Ai)→Int→Int→Ad Bool
 | 0,_,_,_,_,_,_,_,_,_,_,_,_,_,_,_,_,_=>none
 | n3+1,v558,v559,v560,v561,v562,v563,v564,v565,v566,v567,v568,v569,v570,v571,v572,v573,v574 =>
   bnd (decide (v558<4)) fun x579 =>
   bif x579 then (
    bno (mF ((⟨(⟨v559,v560,v561,v562,v563,v564,v565,v566,v567⟩:aF),(⟨(⟨v568,v569,v570⟩:aH),v571⟩:aM),(⟨v572,v573,v574⟩:aK)⟩:aG)) v558) fun x581 =>
    bnd (Ab .i64 (v558+1)) fun x582 =>
    (jV v175 v176 v178 v196 v197 v198 v199 v200 v201 v202 v203 v204 v205 v206 v207 v208 v209 v210 v211 n3) x582 x581.ae.ag x581.ae.aj x581.ae.ak x581.ae.ah x581.ae.ay x581.ae.aw x581.ae.az x581.ae.ax x581.ae.ba x581.af.af.ag x581.af.af.ap x581.af.af.ao x581.af.br x581.In.bq x581.In.bv x581.In.bf
   ) else (
     jU v175 v178 fuel v176 0 v559 v560 v561 v562 v563 v564 v565 v566 v567 v568 v569 v570 v571 v572 v573 v574 v196 v197 v198 v199 v200 v201 v202 v203 v204 v205 v206 v207 v208 v209 v210 v211
   )
def bY (a0 : (List uM)):Nat→(List aA)→(List aA)→(List dZ)→Int→Int→Int→(List Ai)→Int→(List aD)→(List aC)→Bool→Bool→Bool→Bool→Int→(List Ai)→(List aL)→Int→(List Ai)→Int→Int→Int→(List Ai)→Int→(List aD)→(List aC)→Bool→Bool→Bool→Bool→Int→(List Ai)→(List aL)→Int→(List Ai)→Int→Int→Ad Bool
 | 0,_,_,_,_,_,_,_,_,_,_,_,_,_,_,_,_,_,_,_,_,_,_,_,_,_,_,_,_,_,_,_,_,_,_,_,_,_=>none
 | n0 + 1, v175,v176,v177,v178,v179,v180,v181,v182,v183,v184,v185,v186,v187,v188,v189,v190,v191,v192,v193,v194,v195,v196,v197,v198,v199,v200,v201,v202,v203,v204,v205,v206,v207,v208,v209,v210,v211 =>
   bnd (decide (v179<(a0.length:Int))) fun x383 =>
   bif x383 then (
    bno (gix a0 v179) fun x507 =>
    bno (remI x507.aq 5) fun x508 =>
    bnd (decide (x508=0)) fun x509 =>
    bif x509 then (
     bno (gix a0 v179) fun x511 =>
     bno (oB x511.F) fun x512 =>
     bif (!x512) then (
      bno (jI) fun x514 =>
      some x514
     ) else (
       bno (gix a0 v179) fun x515 =>
       bno (mE ((⟨(⟨v180,v181,v182,v183,v184,v185,v186,v187,v188⟩:aF),(⟨(⟨v189,v190,v191⟩:aH),v192⟩:aM),(⟨v193,v194,v195⟩:aK)⟩:aG)) x515.F) fun x516 =>
       bnd (decide (x516.2=0)) fun x517 =>
       bif x517 then (
        bno (gix a0 v179) fun x519 =>
        bno (app 96 v175 ([x519.F]:(List aA))) fun x520 =>
        bnd (Ab .i64 (v178+70)) fun x521 =>
        bZ v179 (bY a0 n0) x520 v176 v177 x521 x516.1.ae.ag x516.1.ae.aj x516.1.ae.ak x516.1.ae.ah x516.1.ae.ay x516.1.ae.aw x516.1.ae.az x516.1.ae.ax x516.1.ae.ba x516.1.af.af.ag x516.1.af.af.ap x516.1.af.af.ao x516.1.af.br x516.1.In.bq x516.1.In.bv x516.1.In.bf v196 v197 v198 v199 v200 v201 v202 v203 v204 v205 v206 v207 v208 v209 v210 v211
       ) else (
         bZ v179 (bY a0 n0) v175 v176 v177 v178 x516.1.ae.ag x516.1.ae.aj x516.1.ae.ak x516.1.ae.ah x516.1.ae.ay x516.1.ae.aw x516.1.ae.az x516.1.ae.ax x516.1.ae.ba x516.1.af.af.ag x516.1.af.af.ap x516.1.af.af.ao x516.1.af.br x516.1.In.bq x516.1.In.bv x516.1.In.bf v196 v197 v198 v199 v200 v201 v202 v203 v204 v205 v206 v207 v208 v209 v210 v211
       )
     )
    ) else (
      bnd (decide (x508=1)) fun x522 =>
      bif x522 then (
       bno (gix a0 v179) fun x524 =>
       bno (remI x524.bu 4) fun x525 =>
       bnd (Ab .i64 x525) fun x526 =>
       bno (gix a0 v179) fun x527 =>
       bnd (Ab .i64 x527.N) fun x528 =>
       bno (lJ ((⟨(⟨v180,v181,v182,v183,v184,v185,v186,v187,v188⟩:aF),(⟨(⟨v189,v190,v191⟩:aH),v192⟩:aM),(⟨v193,v194,v195⟩:aK)⟩:aG)) x526 x528) fun x529 =>
       bif x529.2.2.2 then (
        bno (app 24 v177 (([(⟨x529.2.1.aa,x529.2.2.1⟩:dZ)]:(List dZ)))) fun x531 =>
        bZ v179 (bY a0 n0) v175 v176 x531 v178 x529.1.ae.ag x529.1.ae.aj x529.1.ae.ak x529.1.ae.ah x529.1.ae.ay x529.1.ae.aw x529.1.ae.az x529.1.ae.ax x529.1.ae.ba x529.1.af.af.ag x529.1.af.af.ap x529.1.af.af.ao x529.1.af.br x529.1.In.bq x529.1.In.bv x529.1.In.bf v196 v197 v198 v199 v200 v201 v202 v203 v204 v205 v206 v207 v208 v209 v210 v211
       ) else (
         bZ v179 (bY a0 n0) v175 v176 v177 v178 x529.1.ae.ag x529.1.ae.aj x529.1.ae.ak x529.1.ae.ah x529.1.ae.ay x529.1.ae.aw x529.1.ae.az x529.1.ae.ax x529.1.ae.ba x529.1.af.af.ag x529.1.af.af.ap x529.1.af.af.ao x529.1.af.br x529.1.In.bq x529.1.In.bv x529.1.In.bf v196 v197 v198 v199 v200 v201 v202 v203 v204 v205 v206 v207 v208 v209 v210 v211
       )
      ) else (
        bnd (decide (x508=2)) fun x532 =>
        bif x532 then (
         bnd (decide (0<(v177.length:Int))) fun x534 =>
         bif x534 then (
          bno (gix a0 v179) fun x536 =>
          bnd (Ab .i64 x536.N) fun x537 =>
          bno (remI x537 (v177.length:Int)) fun x538 =>
          bno (gix v177 x538) fun x539 =>
          bno (v177[(x538:Int).toNat]?) fun x540 =>
          bno (fZ ((⟨(⟨v196,v197,v198,v199,v200,v201,v202,v203,v204⟩:aF),(⟨(⟨v205,v206,v207⟩:aH),v208⟩:aM),(⟨v209,v210,v211⟩:aK)⟩:aG)) x540.at_ x540.s) fun x541 =>
          bno (iP x541.2.1) fun x542 =>
          bno (app 96 v176 x542) fun x543 =>
          bnd (!decide (x541.2.2=0)) fun x544 =>
          bif x544 then (
           some false
          ) else (
            bZ v179 (bY a0 n0) v175 x543 v177 v178 v180 v181 v182 v183 v184 v185 v186 v187 v188 v189 v190 v191 v192 v193 v194 v195 x541.1.ae.ag x541.1.ae.aj x541.1.ae.ak x541.1.ae.ah x541.1.ae.ay x541.1.ae.aw x541.1.ae.az x541.1.ae.ax x541.1.ae.ba x541.1.af.af.ag x541.1.af.af.ap x541.1.af.af.ao x541.1.af.br x541.1.In.bq x541.1.In.bv x541.1.In.bf
          )
         ) else (
           bZ v179 (bY a0 n0) v175 v176 v177 v178 v180 v181 v182 v183 v184 v185 v186 v187 v188 v189 v190 v191 v192 v193 v194 v195 v196 v197 v198 v199 v200 v201 v202 v203 v204 v205 v206 v207 v208 v209 v210 v211
         )
        ) else (
          bnd (decide (x508=3)) fun x546 =>
          bif x546 then (
           bno (oK ((⟨(⟨v196,v197,v198,v199,v200,v201,v202,v203,v204⟩:aF),(⟨(⟨v205,v206,v207⟩:aH),v208⟩:aM),(⟨v209,v210,v211⟩:aK)⟩:aG))) fun x548 =>
           bno (jF ((⟨(⟨v180,v181,v182,v183,v184,v185,v186,v187,v188⟩:aF),(⟨(⟨v189,v190,v191⟩:aH),v192⟩:aM),(⟨v193,v194,v195⟩:aK)⟩:aG)) x548) fun x549 =>
           bZ v179 (bY a0 n0) v175 v176 v177 v178 x549.ae.ag x549.ae.aj x549.ae.ak x549.ae.ah x549.ae.ay x549.ae.aw x549.ae.az x549.ae.ax x549.ae.ba x549.af.af.ag x549.af.af.ap x549.af.af.ao x549.af.br x549.In.bq x549.In.bv x549.In.bf v196 v197 v198 v199 v200 v201 v202 v203 v204 v205 v206 v207 v208 v209 v210 v211
          ) else (
            bno (gix a0 v179) fun x550 =>
            bno (remI x550.bu 4) fun x551 =>
            bnd (Ab .i64 x551) fun x552 =>
            bno (mF ((⟨(⟨v180,v181,v182,v183,v184,v185,v186,v187,v188⟩:aF),(⟨(⟨v189,v190,v191⟩:aH),v192⟩:aM),(⟨v193,v194,v195⟩:aK)⟩:aG)) x552) fun x553 =>
            bZ v179 (bY a0 n0) v175 v176 v177 v178 x553.ae.ag x553.ae.aj x553.ae.ak x553.ae.ah x553.ae.ay x553.ae.aw x553.ae.az x553.ae.ax x553.ae.ba x553.af.af.ag x553.af.af.ap x553.af.af.ao x553.af.br x553.In.bq x553.In.bv x553.In.bf v196 v197 v198 v199 v200 v201 v202 v203 v204 v205 v206 v207 v208 v209 v210 v211
          )
        )
      )
    )
   ) else (
     jV v175 v176 v178 v196 v197 v198 v199 v200 v201 v202 v203 v204 v205 v206 v207 v208 v209 v210 v211 fuel 0 v180 v181 v182 v183 v184 v185 v186 v187 v188 v189 v190 v191 v192 v193 v194 v195
   )
end Go.Fn
open Go Go.IL
namespace Go.Fn
structure dB where
 aq:Int
 F:aA
 cj:(List Ai)
 N:Int
 M:Int
 deriving DecidableEq,Inhabited
def oL:Enc dB:=⟨⟨fun x=>.agg [.int .u8 x.aq,.int .u8 x.F.aq,.bool x.F.bp,.int .i64 x.F.bg,.int .i64 x.F.bj,.int .i64 x.F.cb,.int .i64 x.F.bo,.int .i64 x.F.N,.int .i64 x.F.Code,.slice false (x.F.au.map cP.d),.str x.F.aj,.str x.cj,.int .i64 x.N,.int .i64 x.M],14,by decide,fun _=>⟨rfl,rfl⟩⟩,fun _=>rfl⟩

structure cW where
 cq:Int
 Code:Int
 deriving DecidableEq,Inhabited
def xK:Enc cW:=⟨⟨fun x=>.agg [.int .i64 x.cq,.int .i64 x.Code],2,by decide,fun _=>⟨rfl,rfl⟩⟩,fun _=>rfl⟩
variable [Fu]
def gC (a0:(List dB)):Nat→Int→Ad Bool
 | 0,_=>none
 | n0 + 1,v12 =>
   bnd (decide (v12<(a0.length:Int))) fun x22 =>
   bif x22 then (
    bno (gix a0 v12) fun x24 =>
    bnd (decide (200<(x24.cj.length:Int))) fun x25 =>
    bno (gd (x25 == false) (gix a0 v12) default) fun x26 =>
    bno (gd (x25 == false) (oB x26.F) default) fun x27 =>
    bnd (x25||(!x27)) fun x28 =>
    bif x28 then (
     some false
    ) else (
      bnd (Ab .i64 (v12+1)) fun x30 =>
      (gC a0 n0) x30
    )
   ) else (
     some true
   )
def tK (a0:(List dB)):Ad Bool :=
 bnd (decide (40<(a0.length:Int))) fun x1 =>
 bif x1 then (
  some false
 ) else (
   gC a0 fuel 0
 )

def tG  : Ad aG :=
 bno (wT) fun x1 =>
 some ((⟨(⟨0,[],0,[],[],false,false,false,false⟩:aF),x1,(⟨[],0,0⟩:aK)⟩:aG))

def tJ (a0:(List Ai)):Ad Bool :=
 bno (jN a0) fun x1 =>
 bnd (decide (x1.2.2=3)) fun x2 =>
 some x2

def lR (a0:aK):Ad Int :=
 bnd (!decide (a0.bv=0)) fun x1 =>
 bnd (!decide (a0.bq=([]:List Ai))) fun x2 =>
 bnd (x1&&x2) fun x3 =>
 bif x3 then (
  some 4
 ) else (
   bno (tJ a0.bq) fun x5 =>
   bnd (decide (80<(a0.bq.length:Int))) fun x6 =>
   bnd ((!x5)||x6) fun x7 =>
   bif x7 then (
    some 5
   ) else (
     bnd (decide (a0.bf<0)) fun x9 =>
     bif x9 then (
      some 8
     ) else (
       some 0
     )
   )
 )

def fB (a0:aG) (x1:Int) (x2:Int) (x3:Int):Nat→Int→Ad Int
 | 0,_=>none
 | n0 + 1,v11 =>
   bnd (decide (v11<(([x1,x2,x3]:(List Int)).length:Int))) fun x19 =>
   bif x19 then (
    bno (gix ([x1,x2,x3]:(List Int)) v11) fun x21 =>
    bnd (!decide (x21=0)) fun x22 =>
    bif x22 then (
     bno (gix ([x1,x2,x3]:(List Int)) v11) fun x24 =>
     some x24
    ) else (
      bnd (Ab .i64 (v11+1)) fun x25 =>
      (fB a0 x1 x2 x3 n0) x25
    )
   ) else (
     bnd (decide (0≤a0.af.br)) fun x26 =>
     bnd (a0.ae.aw||x26) fun x27 =>
     bnd (!decide (a0.af.af.ap=([]:List Ai))) fun x28 =>
     bnd (x27||x28) fun x29 =>
     bnd (!decide (a0.In.bv=0)) fun x30 =>
     bnd (x29||x30) fun x31 =>
     bif x31 then (
      some 4
     ) else (
       some 0
     )
   )
def dR (a0:aG):Ad Int :=
 bno (eY a0.ae) fun x1 =>
 bno (fO a0.af) fun x2 =>
 bno (lR a0.In) fun x3 =>
 fB a0 x1 x2 x3 fuel 0

def mH (a0:aK) (v44:(List Ai)) (v45:(List aA)) (v46:Int):Ad (aK×(List aA)) :=
 some ((⟨v44,a0.bv,v46⟩:aK),v45)
def gV (a0:aK) (a1:(List Ai)):Nat→(List Ai)→(List aA)→Int→Int→Ad (aK×(List aA))
 | 0,_,_,_,_=>none
 | n2 + 1,v58,v59,v60,v61 =>
   bnd (decide (v60≤(a1.length:Int))) fun x73 =>
   bif x73 then (
    bno (jN v58) fun x75 =>
    bnd (decide (x75.2.2=3)) fun x76 =>
    bif x76 then (
     mH a0 v58 v59 v61
    ) else (
      bnd (!decide (x75.2.2=0)) fun x78 =>
      bif x78 then (
       some ((⟨[],x75.2.2,v61⟩:aK),v59)
      ) else (
        bno (app 96 v59 ([x75.1]:(List aA))) fun x80 =>
        bnd (Ab .i64 (v61+1)) fun x81 =>
        bno (cut v58 x75.2.1 (v58.length:Int)) fun x82 =>
        bnd (Ab .i64 (v60+1)) fun x83 =>
        (gV a0 a1 n2) x82 x80 x83 x81
      )
    )
   ) else (
     mH a0 v58 v59 v61
   )
def oY (a0:aK) (a1:(List Ai)):Ad (aK×(List aA)) :=
 bnd (!decide (a0.bv=0)) fun x1 =>
 bno (gd (x1 == false) (lR a0) default) fun x2 =>
 bnd (!decide (x2=0)) fun x3 =>
 bnd (x1||x3) fun x4 =>
 bif x4 then (
  some (a0,[])
 ) else (
   bno (cat a0.bq a1) fun x6 =>
   gV a0 a1 fuel x6 ([]:(List aA)) 0 a0.bf
 )

def jL (a0:Int):Ad Bool :=
 bnd (decide (1≤a0)) fun x1 =>
 bnd (decide (a0≤8)) fun x2 =>
 bnd (x1&&x2) fun x3 =>
 bnd (!decide (a0=5)) fun x4 =>
 bnd (x3&&x4) fun x5 =>
 some x5

def gT (a0:(List aA)):Nat→Int→Ad ((List aA)×Bool)
 | 0,_=>none
 | n0 + 1,v8 =>
   bnd (decide (v8<(a0.length:Int))) fun x16 =>
   bif x16 then (
    bno (gix a0 v8) fun x18 =>
    bno (jL x18.aq) fun x19 =>
    bif (!x19) then (
     bno (cut a0 0 v8) fun x21 =>
     some (x21,true)
    ) else (
      bnd (Ab .i64 (v8+1)) fun x22 =>
      (gT a0 n0) x22
    )
   ) else (
     some (a0,false)
   )
def rV (a0:(List aA)):Ad ((List aA)×Bool) :=
 gT a0 fuel 0

def mG (a0:Int):Ad cW :=
 some (⟨3,a0⟩:cW)

def nX (a0:Int):Ad cW :=
 bnd (decide (a0=0)) fun x1 =>
 bif x1 then (
  some (⟨0,0⟩:cW)
 ) else (
   bnd (decide (a0=5)) fun x3 =>
   bif x3 then (
    bno (mG 6) fun x5 =>
    some (⟨x5.cq,x5.Code⟩:cW)
   ) else (
     bno (mG 1) fun x6 =>
     some (⟨x6.cq,x6.Code⟩:cW)
   )
 )

def kL (a0:aG) (a1:Int) (a2:(List Ai)):Ad (aG×(List aA)×Int) :=
 bno (dR a0) fun x1 =>
 bnd (!decide (x1=0)) fun x2 =>
 bif x2 then (
  some (a0,[],2)
 ) else (
   bno (lP a0.af a1 a2 false) fun x4 =>
   bnd (!decide (x4.2.2=0)) fun x5 =>
   bif x5 then (
    some (a0,[],x4.2.2)
   ) else (
     bno (oU x4.1 4096) fun x7 =>
     bno (oY a0.In x7.2.1) fun x8 =>
     bno (rV x8.2) fun x9 =>
     bif x9.2 then (
      some (a0,x9.1,1)
     ) else (
       bnd (!decide (x8.1.bv=0)) fun x11 =>
       bif x11 then (
        bno (nX x8.1.bv) fun x13 =>
        some (a0,x9.1,x13.Code)
       ) else (
         some ((⟨a0.ae,x7.1,x8.1⟩:aG),x9.1,0)
       )
     )
   )
 )

def kM (a0:aG) (a1:Int):Ad aG :=
 bno (dR a0) fun x1 =>
 bnd (decide (x1=0)) fun x2 =>
 bif x2 then (
  bno (oX a0.ae a1 false) fun x4 =>
  some (⟨x4,a0.af,a0.In⟩:aG)
 ) else (
   some a0
 )

def mP (a0:aG) (a1:Int) (a2:Int):Ad (aG×aD×(List Ai)×Bool) :=
 bno (dR a0) fun x1 =>
 bnd (!decide (x1=0)) fun x2 =>
 bif x2 then (
  some (a0,(⟨0,0,0,false⟩:aD),[],false)
 ) else (
   bno (eW a0.ae a1 a2 1099511627776) fun x4 =>
   some ((⟨x4.1,a0.af,a0.In⟩:aG),x4.2.1,x4.2.2.1,x4.2.2.2)
 )

def mQ (a0:aG) (a1:Int):Ad aG :=
 bno (dR a0) fun x1 =>
 bnd (decide (x1=0)) fun x2 =>
 bif x2 then (
  bno (oW a0.ae a1) fun x4 =>
  some (⟨x4,a0.af,a0.In⟩:aG)
 ) else (
   some a0
 )

def mO (a0:aG) (a1:aA):Ad (aG×Int) :=
 bno (dR a0) fun x1 =>
 bnd (!decide (x1=0)) fun x2 =>
 bif x2 then (
  some (a0,x1)
 ) else (
   bno (jL a1.aq) fun x4 =>
   bif (!x4) then (
    some (a0,12)
   ) else (
     bno (qA a1) fun x6 =>
     bnd (!decide (x6.2=0)) fun x7 =>
     bif x7 then (
      some (a0,x6.2)
     ) else (
       bno (nV a0.ae x6.1) fun x9 =>
       bnd (decide (x9.2<(x6.1.length:Int))) fun x10 =>
       bif x10 then (
        some (a0,7)
       ) else (
         some ((⟨x9.1,a0.af,a0.In⟩:aG),0)
       )
     )
   )
 )

def mU (a0:aG):Ad aG :=
 bno (pE a0.ae) fun x1 =>
 bno (pD a0.af) fun x2 =>
 some (⟨x1,x2,a0.In⟩:aG)

def iR (a0:aG) (a1:aG):Ad Bool :=
 bno (rY a0.ae a1.ae) fun x1 =>
 bno (gd (x1 == true) (oT a0.af a1.af) default) fun x2 =>
 bnd (x1&&x2) fun x3 =>
 bnd ((decide (a0.In.bq=a1.In.bq)&&(decide (a0.In.bv=a1.In.bv)&&(decide (a0.In.bf=a1.In.bf)&&true)))) fun x4 =>
 bnd (x3&&x4) fun x5 =>
 some x5

def rX (a0:aF) (a1:Int):Ad Bool :=
 bno (eW a0 0 1 a1) fun x1 =>
 some x1.2.2.2

def mN (a0:aG):Ad Bool :=
 bno (dR a0) fun x1 =>
 bnd (decide (x1=0)) fun x2 =>
 bno (gd (x2 == true) (rX a0.ae 1099511627776) default) fun x3 =>
 bnd (x2&&x3) fun x4 =>
 some x4

def qU (a0:aG):Ad Int :=
 some a0.af.af.ag

def cJ (v123:Int) (v124:Int) (v125:(List Ai)) (v126:Int) (v127:(List aD)) (v128:(List aC)) (v129:Bool) (v130:Bool) (v131:Bool) (v132:Bool) (v133:Int) (v134:(List Ai)) (v135:(List aL)) (v136:Int) (v137:(List Ai)) (v138:Int) (v139:Int) (v140:Int) (v141:(List Ai)) (v142:Int) (v143:(List aD)) (v144:(List aC)) (v145:Bool) (v146:Bool) (v147:Bool) (v148:Bool) (v149:Int) (v150:(List Ai)) (v151:(List aL)) (v152:Int) (v153:(List Ai)) (v154:Int) (v155:Int) (kk0:Int→Int→(List Ai)→Int→(List aD)→(List aC)→Bool→Bool→Bool→Bool→Int→(List Ai)→(List aL)→Int→(List Ai)→Int→Int→Int→(List Ai)→Int→(List aD)→(List aC)→Bool→Bool→Bool→Bool→Int→(List Ai)→(List aL)→Int→(List Ai)→Int→Int→Ad Bool) (v306:Bool) (v307:Int) (v308:(List Ai)) (v309:Int) (v310:(List aD)) (v311:(List aC)) (v312:Bool) (v313:Bool) (v314:Bool) (v315:Bool) (v316:Int) (v317:(List Ai)) (v318:(List aL)) (v319:Int) (v320:(List Ai)) (v321:Int) (v322:Int) (v323:Int) (v324:(List Ai)) (v325:Int) (v326:(List aD)) (v327:(List aC)) (v328:Bool) (v329:Bool) (v330:Bool) (v331:Bool) (v332:Int) (v333:(List Ai)) (v334:(List aL)) (v335:Int) (v336:(List Ai)) (v337:Int) (v338:Int):Ad Bool :=
 bno (gd ((!v306) == false) (mU ((⟨(⟨v307,v308,v309,v310,v311,v312,v313,v314,v315⟩:aF),(⟨(⟨v316,v317,v318⟩:aH),v319⟩:aM),(⟨v320,v321,v322⟩:aK)⟩:aG))) default) fun x339 =>
 bno (gd ((!v306) == false) (iR x339 ((⟨(⟨v323,v324,v325,v326,v327,v328,v329,v330,v331⟩:aF),(⟨(⟨v332,v333,v334⟩:aH),v335⟩:aM),(⟨v336,v337,v338⟩:aK)⟩:aG))) default) fun x340 =>
 bnd ((!v306)||(!x340)) fun x341 =>
 bno (gd (x341 == false) (dE ((⟨(⟨v307,v308,v309,v310,v311,v312,v313,v314,v315⟩:aF),(⟨(⟨v316,v317,v318⟩:aH),v319⟩:aM),(⟨v320,v321,v322⟩:aK)⟩:aG))) default) fun x342 =>
 bno (gd (x341 == false) (dR ((⟨(⟨v323,v324,v325,v326,v327,v328,v329,v330,v331⟩:aF),(⟨(⟨v332,v333,v334⟩:aH),v335⟩:aM),(⟨v336,v337,v338⟩:aK)⟩:aG))) default) fun x343 =>
 bnd (!decide (x342=x343)) fun x344 =>
 bnd (x341||x344) fun x345 =>
 bno (gd (x345 == false) (lI ((⟨(⟨v307,v308,v309,v310,v311,v312,v313,v314,v315⟩:aF),(⟨(⟨v316,v317,v318⟩:aH),v319⟩:aM),(⟨v320,v321,v322⟩:aK)⟩:aG))) default) fun x346 =>
 bno (gd (x345 == false) (mN ((⟨(⟨v323,v324,v325,v326,v327,v328,v329,v330,v331⟩:aF),(⟨(⟨v332,v333,v334⟩:aH),v335⟩:aM),(⟨v336,v337,v338⟩:aK)⟩:aG))) default) fun x347 =>
 bnd (!(x346 == x347)) fun x348 =>
 bnd (x345||x348) fun x349 =>
 bno (gd (x349 == false) (oK ((⟨(⟨v307,v308,v309,v310,v311,v312,v313,v314,v315⟩:aF),(⟨(⟨v316,v317,v318⟩:aH),v319⟩:aM),(⟨v320,v321,v322⟩:aK)⟩:aG))) default) fun x350 =>
 bno (gd (x349 == false) (qU ((⟨(⟨v323,v324,v325,v326,v327,v328,v329,v330,v331⟩:aF),(⟨(⟨v332,v333,v334⟩:aH),v335⟩:aM),(⟨v336,v337,v338⟩:aK)⟩:aG))) default) fun x351 =>
 bnd (!decide (x350=x351)) fun x352 =>
 bnd (x349||x352) fun x353 =>
 bno (gd (x353 == false) (nQ ((⟨(⟨v307,v308,v309,v310,v311,v312,v313,v314,v315⟩:aF),(⟨(⟨v316,v317,v318⟩:aH),v319⟩:aM),(⟨v320,v321,v322⟩:aK)⟩:aG)) ((⟨(⟨v124,v125,v126,v127,v128,v129,v130,v131,v132⟩:aF),(⟨(⟨v133,v134,v135⟩:aH),v136⟩:aM),(⟨v137,v138,v139⟩:aK)⟩:aG))) default) fun x354 =>
 bno (gd (x353 == false) (iR ((⟨(⟨v323,v324,v325,v326,v327,v328,v329,v330,v331⟩:aF),(⟨(⟨v332,v333,v334⟩:aH),v335⟩:aM),(⟨v336,v337,v338⟩:aK)⟩:aG)) ((⟨(⟨v140,v141,v142,v143,v144,v145,v146,v147,v148⟩:aF),(⟨(⟨v149,v150,v151⟩:aH),v152⟩:aM),(⟨v153,v154,v155⟩:aK)⟩:aG))) default) fun x355 =>
 bnd (!(x354 == x355)) fun x356 =>
 bnd (x353||x356) fun x357 =>
 bif x357 then (
  some false
 ) else (
   bnd (Ab .i64 (v123+1)) fun x359 =>
   kk0 x359 v307 v308 v309 v310 v311 v312 v313 v314 v315 v316 v317 v318 v319 v320 v321 v322 v323 v324 v325 v326 v327 v328 v329 v330 v331 v332 v333 v334 v335 v336 v337 v338
 )
def bM (a0 : (List dB)):Nat→Int→Int→(List Ai)→Int→(List aD)→(List aC)→Bool→Bool→Bool→Bool→Int→(List Ai)→(List aL)→Int→(List Ai)→Int→Int→Int→(List Ai)→Int→(List aD)→(List aC)→Bool→Bool→Bool→Bool→Int→(List Ai)→(List aL)→Int→(List Ai)→Int→Int→Ad Bool
 | 0,_,_,_,_,_,_,_,_,_,_,_,_,_,_,_,_,_,_,_,_,_,_,_,_,_,_,_,_,_,_,_,_,_=>none
 | n0 + 1, v123,v124,v125,v126,v127,v128,v129,v130,v131,v132,v133,v134,v135,v136,v137,v138,v139,v140,v141,v142,v143,v144,v145,v146,v147,v148,v149,v150,v151,v152,v153,v154,v155 =>
   bnd (decide (v123<(a0.length:Int))) fun x273 =>
   bif x273 then (
    bno (gix a0 v123) fun x275 =>
    bno (remI x275.aq 6) fun x360 =>
    bnd (decide (x360=2)) fun x361 =>
    bif x361 then (
     bno (fZ ((⟨(⟨v124,v125,v126,v127,v128,v129,v130,v131,v132⟩:aF),(⟨(⟨v133,v134,v135⟩:aH),v136⟩:aM),(⟨v137,v138,v139⟩:aK)⟩:aG)) x275.N x275.cj) fun x363 =>
     bno (kL ((⟨(⟨v140,v141,v142,v143,v144,v145,v146,v147,v148⟩:aF),(⟨(⟨v149,v150,v151⟩:aH),v152⟩:aM),(⟨v153,v154,v155⟩:aK)⟩:aG)) x275.N x275.cj) fun x364 =>
     bno (iP x363.2.1) fun x365 =>
     bno (fK x365 x364.2.1) fun x366 =>
     bnd (Ab .i64 x363.2.2) fun x367 =>
     bnd (decide (x367=x364.2.2)) fun x368 =>
     bnd (x366&&x368) fun x369 =>
     cJ v123 v124 v125 v126 v127 v128 v129 v130 v131 v132 v133 v134 v135 v136 v137 v138 v139 v140 v141 v142 v143 v144 v145 v146 v147 v148 v149 v150 v151 v152 v153 v154 v155 (bM a0 n0) x369 x363.1.ae.ag x363.1.ae.aj x363.1.ae.ak x363.1.ae.ah x363.1.ae.ay x363.1.ae.aw x363.1.ae.az x363.1.ae.ax x363.1.ae.ba x363.1.af.af.ag x363.1.af.af.ap x363.1.af.af.ao x363.1.af.br x363.1.In.bq x363.1.In.bv x363.1.In.bf x364.1.ae.ag x364.1.ae.aj x364.1.ae.ak x364.1.ae.ah x364.1.ae.ay x364.1.ae.aw x364.1.ae.az x364.1.ae.ax x364.1.ae.ba x364.1.af.af.ag x364.1.af.af.ap x364.1.af.af.ao x364.1.af.br x364.1.In.bq x364.1.In.bv x364.1.In.bf
    ) else (
      bnd (decide (x360=3)) fun x370 =>
      bif x370 then (
       bno (jF ((⟨(⟨v124,v125,v126,v127,v128,v129,v130,v131,v132⟩:aF),(⟨(⟨v133,v134,v135⟩:aH),v136⟩:aM),(⟨v137,v138,v139⟩:aK)⟩:aG)) x275.N) fun x372 =>
       bno (kM ((⟨(⟨v140,v141,v142,v143,v144,v145,v146,v147,v148⟩:aF),(⟨(⟨v149,v150,v151⟩:aH),v152⟩:aM),(⟨v153,v154,v155⟩:aK)⟩:aG)) x275.N) fun x373 =>
       cJ v123 v124 v125 v126 v127 v128 v129 v130 v131 v132 v133 v134 v135 v136 v137 v138 v139 v140 v141 v142 v143 v144 v145 v146 v147 v148 v149 v150 v151 v152 v153 v154 v155 (bM a0 n0) true x372.ae.ag x372.ae.aj x372.ae.ak x372.ae.ah x372.ae.ay x372.ae.aw x372.ae.az x372.ae.ax x372.ae.ba x372.af.af.ag x372.af.af.ap x372.af.af.ao x372.af.br x372.In.bq x372.In.bv x372.In.bf x373.ae.ag x373.ae.aj x373.ae.ak x373.ae.ah x373.ae.ay x373.ae.aw x373.ae.az x373.ae.ax x373.ae.ba x373.af.af.ag x373.af.af.ap x373.af.af.ao x373.af.br x373.In.bq x373.In.bv x373.In.bf
      ) else (
        bnd (decide (x360=4)) fun x374 =>
        bif x374 then (
         bno (lJ ((⟨(⟨v124,v125,v126,v127,v128,v129,v130,v131,v132⟩:aF),(⟨(⟨v133,v134,v135⟩:aH),v136⟩:aM),(⟨v137,v138,v139⟩:aK)⟩:aG)) x275.N x275.M) fun x376 =>
         bno (mP ((⟨(⟨v140,v141,v142,v143,v144,v145,v146,v147,v148⟩:aF),(⟨(⟨v149,v150,v151⟩:aH),v152⟩:aM),(⟨v153,v154,v155⟩:aK)⟩:aG)) x275.N x275.M) fun x377 =>
         bnd ((decide (x376.2.1.aa=x377.2.1.aa)&&(decide (x376.2.1.To=x377.2.1.To)&&(decide (x376.2.1.bu=x377.2.1.bu)&&((x376.2.1.bx == x377.2.1.bx)&&true))))) fun x378 =>
         bnd (decide (x376.2.2.1=x377.2.2.1)) fun x379 =>
         bnd (x378&&x379) fun x380 =>
         bnd (x376.2.2.2 == x377.2.2.2) fun x381 =>
         bnd (x380&&x381) fun x382 =>
         cJ v123 v124 v125 v126 v127 v128 v129 v130 v131 v132 v133 v134 v135 v136 v137 v138 v139 v140 v141 v142 v143 v144 v145 v146 v147 v148 v149 v150 v151 v152 v153 v154 v155 (bM a0 n0) x382 x376.1.ae.ag x376.1.ae.aj x376.1.ae.ak x376.1.ae.ah x376.1.ae.ay x376.1.ae.aw x376.1.ae.az x376.1.ae.ax x376.1.ae.ba x376.1.af.af.ag x376.1.af.af.ap x376.1.af.af.ao x376.1.af.br x376.1.In.bq x376.1.In.bv x376.1.In.bf x377.1.ae.ag x377.1.ae.aj x377.1.ae.ak x377.1.ae.ah x377.1.ae.ay x377.1.ae.aw x377.1.ae.az x377.1.ae.ax x377.1.ae.ba x377.1.af.af.ag x377.1.af.af.ap x377.1.af.af.ao x377.1.af.br x377.1.In.bq x377.1.In.bv x377.1.In.bf
        ) else (
          bnd (decide (x360=5)) fun x383 =>
          bif x383 then (
           bno (mF ((⟨(⟨v124,v125,v126,v127,v128,v129,v130,v131,v132⟩:aF),(⟨(⟨v133,v134,v135⟩:aH),v136⟩:aM),(⟨v137,v138,v139⟩:aK)⟩:aG)) x275.N) fun x385 =>
           bno (mQ ((⟨(⟨v140,v141,v142,v143,v144,v145,v146,v147,v148⟩:aF),(⟨(⟨v149,v150,v151⟩:aH),v152⟩:aM),(⟨v153,v154,v155⟩:aK)⟩:aG)) x275.N) fun x386 =>
           cJ v123 v124 v125 v126 v127 v128 v129 v130 v131 v132 v133 v134 v135 v136 v137 v138 v139 v140 v141 v142 v143 v144 v145 v146 v147 v148 v149 v150 v151 v152 v153 v154 v155 (bM a0 n0) true x385.ae.ag x385.ae.aj x385.ae.ak x385.ae.ah x385.ae.ay x385.ae.aw x385.ae.az x385.ae.ax x385.ae.ba x385.af.af.ag x385.af.af.ap x385.af.af.ao x385.af.br x385.In.bq x385.In.bv x385.In.bf x386.ae.ag x386.ae.aj x386.ae.ak x386.ae.ah x386.ae.ay x386.ae.aw x386.ae.az x386.ae.ax x386.ae.ba x386.af.af.ag x386.af.af.ap x386.af.af.ao x386.af.br x386.In.bq x386.In.bv x386.In.bf
          ) else (
            bno (mE ((⟨(⟨v124,v125,v126,v127,v128,v129,v130,v131,v132⟩:aF),(⟨(⟨v133,v134,v135⟩:aH),v136⟩:aM),(⟨v137,v138,v139⟩:aK)⟩:aG)) x275.F) fun x387 =>
            bno (mO ((⟨(⟨v140,v141,v142,v143,v144,v145,v146,v147,v148⟩:aF),(⟨(⟨v149,v150,v151⟩:aH),v152⟩:aM),(⟨v153,v154,v155⟩:aK)⟩:aG)) x275.F) fun x388 =>
            bnd (decide (x387.2=x388.2)) fun x389 =>
            cJ v123 v124 v125 v126 v127 v128 v129 v130 v131 v132 v133 v134 v135 v136 v137 v138 v139 v140 v141 v142 v143 v144 v145 v146 v147 v148 v149 v150 v151 v152 v153 v154 v155 (bM a0 n0) x389 x387.1.ae.ag x387.1.ae.aj x387.1.ae.ak x387.1.ae.ah x387.1.ae.ay x387.1.ae.aw x387.1.ae.az x387.1.ae.ax x387.1.ae.ba x387.1.af.af.ag x387.1.af.af.ap x387.1.af.af.ao x387.1.af.br x387.1.In.bq x387.1.In.bv x387.1.In.bf x388.1.ae.ag x388.1.ae.aj x388.1.ae.ak x388.1.ae.ah x388.1.ae.ay x388.1.ae.aw x388.1.ae.az x388.1.ae.ax x388.1.ae.ba x388.1.af.af.ag x388.1.af.af.ap x388.1.af.af.ao x388.1.af.br x388.1.In.bq x388.1.In.bv x388.1.In.bf
          )
        )
      )
    )
   ) else (
     bno (jI) fun x390 =>
     some x390
   )
def fR (a0:(List dB)):Ad Bool :=
 bno (tK a0) fun x1 =>
 bif (!x1) then (
  bno (jI) fun x3 =>
  some x3
 ) else (
   bno (tX) fun x4 =>
   bno (tG) fun x5 =>
   bM a0 fuel 0 x4.ae.ag x4.ae.aj x4.ae.ak x4.ae.ah x4.ae.ay x4.ae.aw x4.ae.az x4.ae.ax x4.ae.ba x4.af.af.ag x4.af.af.ap x4.af.af.ao x4.af.br x4.In.bq x4.In.bv x4.In.bf x5.ae.ag x5.ae.aj x5.ae.ak x5.ae.ah x5.ae.ay x5.ae.aw x5.ae.az x5.ae.ax x5.ae.ba x5.af.af.ag x5.af.af.ap x5.af.af.ao x5.af.br x5.In.bq x5.In.bv x5.In.bf
 )
end Go.Fn
