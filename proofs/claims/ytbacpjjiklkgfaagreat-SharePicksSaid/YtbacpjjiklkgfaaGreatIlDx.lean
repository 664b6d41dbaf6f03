/-
  A part of the proof: rules and plain facts. No condition.
-/
import Derived.Test.YtbacpjjiklkgfaaGreatIlA20D
import Derived.Test.YtbacpjjiklkgfaaGreatIlAr
set_option linter.all false
open Go renaming Program → Ba,Value → AG
open Go.IL.D renaming nomemL → Df,refsInL → AE,renL → BD,renL_id → Eg,ren_id → FU
open Go.IL.Env.le renaming refl → Co
open Go.IL.Rd renaming ren → FI
open Go.IL.RdL renaming nomem → Fw,ren → Cv
open Go.IL.St renaming ent → BA,okn → FJ
open Iff renaming rfl → Dy
open List renaming cons_append → BW,nil_append → Bp,range → By
open Nat renaming blt_eq → BQ,le_refl → AP,le_trans → BG,lt_irrefl → BU,lt_of_lt_of_le → BH,lt_or_ge → Ck,not_lt → EY
open _root_ renaming absurd → Ay,if_neg → Al,if_pos → Ao
namespace Go.IL
def Far(F:List (Nat×Ent)):Prop:=∀ x∈F,2000≤x.1∧∃ e ds,x.2 = .blk e ds∧Df ds=true∧ds≠[]
def Near(H:List (Nat×Ent)):Prop:=∀ x∈H,x.1<2000
theorem aDk{α:Type}{z:α}{i:Nat}{l:List (Nat×α)}(h:∀ x∈l,x.1≠i):look z i l=z:=by
 induction l with
 | nil=>rfl
 | cons x l ih =>
   obtain ⟨j,e⟩:=x;rw [aV,Al (h (j,e) (by simp)),ih fun y hy=>h y (by simp [hy])]
theorem aCM{α:Type}{z:α}{i:Nat}{l m:List (Nat×α)}(h:∀ x∈l,x.1≠i):look z i (l++m)=look z i m:=by
 induction l with
 | nil=>rfl
 | cons x l ih =>
   obtain ⟨j,e⟩:=x;rw [BW,aV,Al (h (j,e) (by simp)),ih fun y hy=>h y (by simp [hy])]
theorem aFx{α:Type}{z:α}{i:Nat}{l m:List (Nat×α)}(h:∀ x∈m,x.1≠i):look z i (l++m)=look z i l:=by
 induction l with
 | nil=>rw [Bp,aDk h]; rfl
 | cons x l ih =>
   obtain ⟨j,e⟩:=x;rw [BW,aV,aV,ih]
theorem tS{H F:List (Nat×Ent)}(hF:Far F){i:Nat}(hi:i<2000):entL (H++F) i=entL H i :=
 aFx fun x hx=>by have:=(hF x hx).1; omega
theorem oU{H F:List (Nat×Ent)}(hH:Near H){i:Nat}(hi:2000≤i):entL (H++F) i=entL F i :=
 aCM fun x hx=>by have:=hH x hx; omega
theorem aHy{H:List (Nat×Ent)}(hH:Near H){i:Nat}(hi:2000≤i):entL H i = .none:=by
 unfold entL;rw [aDk fun x hx=>by have:=hH x hx; omega];unfold defE; rw [Ao (by omega)]
theorem aEf{F:List (Nat×Ent)}(hF:Far F){i:Nat}(hi:2000≤i):entL F i = .none∨∃ e ds,entL F i = .blk e ds∧Df ds=true∧ds≠[]:=by
 unfold entL
 rcases qJ (z:=defE i) (t:=i) (l:=F) with h | h
 · left; rw [h]; unfold defE; rw [Ao (by omega)]
 · right; exact (hF _ h).2
section
variable {P:Ba} {O:bZ} {N:Nat} {S S':St} {Q:Exit→St→Prop}
def bZ.framed(O:bZ)(E:Env)(β:bY)(H:List (Nat×Ent)):bZ :=
 { O with w:=E.w,X:=E.X,foot:=nF β H,given:=fun i=>if 2000≤i then β i else O.given i }
theorem qX.own_swap{O O':bZ}{E:Env}{β:bY}{id:Nat}{e:Ent}(h:qX O E β id e)(ho:∀ b,β id=some b→e.held=true→O.own b→O'.own b)(hk:O'.kv=O.kv∧O'.dv=O.dv∧O'.lv=O.lv∧O'.lc=O.lc):qX O' E β id e:=by
 obtain ⟨k1,k2,k3,k4⟩:=hk;cases e with
 | none=>trivial
 | fresh=>exact h
 | blk e ds =>
   rcases h with h | ⟨b,vs,sp,h1,h2,h3⟩
   · exact .inl h
   · exact .inr ⟨b,vs,sp,h1,ho b h1 rfl h2,h3⟩
 | tail e sz n =>
   rcases h with h | ⟨b,c,h1,h2,h3⟩
   · exact .inl h
   · exact .inr ⟨b,c,h1,ho b h1 rfl h2,h3⟩
 | loop lk ds st pend =>
   obtain ⟨b,r,h1,h2,h3,h4,h5,h6,h7,h8,h9,h10,h11⟩:=h;exact ⟨b,r,h1,ho b h1 rfl h2,h3,h4,by rw [k4]; exact h5,by rw [k4]; exact h6,by rw [k4]; exact h7,h8,h9,by rw [k3]; exact h10,h11⟩
 | mp ks ds =>
   obtain ⟨b,es,cl,h1,h2,h3⟩:=h;exact ⟨b,es,cl,h1,ho b h1 rfl h2,h3⟩
 | kept k ds=>exact ⟨k1 ▸ h.1,fun b hb=>h.2 b (k2 ▸ hb)⟩
theorem qX.own_swap'{O O':bZ}{E:Env}{β:bY}{id:Nat}{e:Ent}(h:qX O E β id e)(ho:∀ b,O.own b→O'.own b){p:Nat→Bool}(hl:e.refsIn p=true):qX O' E β id e:=by
 cases e with
 | none=>trivial
 | fresh=>exact h
 | blk e ds =>
   rcases h with h | ⟨b,vs,sp,h1,h2,h3⟩
   · exact .inl h
   · exact .inr ⟨b,vs,sp,h1,ho b h2,h3⟩
 | tail e sz n =>
   rcases h with h | ⟨b,c,h1,h2,h3⟩
   · exact .inl h
   · exact .inr ⟨b,c,h1,ho b h2,h3⟩
 | loop=>cases hl
 | mp ks ds =>
   obtain ⟨b,es,cl,h1,h2,h3⟩:=h;exact ⟨b,es,cl,h1,ho b h2,h3⟩
 | kept=>cases hl
theorem aHJ{c:Code}(F:List (Nat×Ent))(hF:Far F)(hS:Near S.H)(hQ:∀ e S',Q e S'→Near S'.H)(h:∀ O2:bZ,O2.round=O.round→IWP P O2 N c S Q):IWP P O N c ⟨S.sl,S.H++F⟩ (fun e S1=>∃ S',S1=⟨S'.sl,S'.H++F⟩∧Q e S'):=by
 intro E β a hr;have hsz:=hr.h.size;have hlt:∀ i,i<2000→BA ⟨S.sl,S.H++F⟩ i=S.ent i:=fun i hi=>tS hF hi
 have hge:∀ i,2000≤i→BA ⟨S.sl,S.H++F⟩ i=entL F i:=fun i hi=>oU hS hi
 have hSge:∀ i,2000≤i→S.ent i = .none:=fun i hi=>aHy hS hi
 have hSl:∀ i,(S.ent i).held=true→i<2000:=fun i hi=>by
  rcases Ck i 2000 with h1 | h1
  · exact h1
  · rw [hSge i h1] at hi; cases hi
 let O2:=O.framed E β S.H
 have hfown:∀ b,nF β S.H b→O.own b:=fun b ⟨i,hi,hb⟩=>by
  have h1:=hSl i hi;exact hr.h.own (j:=i) (by rw [hlt i h1]; exact hi) hb
 have hown2:∀ b,O2.own b→O.own b:=fun b hb=>by
  rcases hb with hb | hb
  · exact .inl (BG hsz hb)
  · exact hfown b hb
 have hrel2:Rel O2 N S E β a:=⟨hr.n,hr.nd,{
  os:=rfl,tape:=rfl,output:=rfl,size:=AP _,mbs:=BG hr.h.mbs hsz,block:=fun _ _ _=>rfl,xlt:=hr.h.xlt,xold:=fun _ _ _ _=>Dy
  ent:=fun id=>by
   rcases Ck id 2000 with h1 | h1
   · have:=hr.h.ent id;rw [hlt id h1] at this;exact this.own_swap (fun b hb hh _=>.inr ⟨id,hh,hb⟩) ⟨rfl,rfl,rfl,rfl⟩
   · rw [hSge id h1]; trivial
  inj:=fun i j b hi hj h1 h2=>by
   have:=hSl i hi; have:=hSl j hj;exact hr.h.inj i j b (by rw [hlt i (by omega)]; exact hi) (by rw [hlt j (by omega)]; exact hj) h1 h2
  le:=Co _
  tab:=hr.h.tab.mono hr.h.le
  gid:=fun i b hi=>by
   simp only [O2,bZ.framed] at hi;split at hi
   · omega
   · exact hr.h.gid i b hi
  given:=fun i b hi=>by
   simp only [O2,bZ.framed] at hi;split at hi
   · exact hi
   · exact hr.h.given i b hi },hr.sl⟩
 have h1:=h O2 rfl E β a hrel2;refine wpIn_mono h1 ?_;rintro e a' w' ⟨S',E',β',rfl,hr',hq⟩;have hS':=hQ e S' hq;have hlt':∀ i,i<2000→BA ⟨S'.sl,S'.H++F⟩ i=S'.ent i:=fun i hi=>tS hF hi
 have hge':∀ i,2000≤i→BA ⟨S'.sl,S'.H++F⟩ i=entL F i:=fun i hi=>oU hS' hi
 have hle:E.le E':=hr'.h.le;have hgv:∀ i b,2000≤i→β i=some b→β' i=some b:=fun i b hi hb=>hr'.h.given i b (by simp only [O2,bZ.framed,Ao hi]; exact hb)
 have hnf:∀ k,k<O.w.heap.size→¬ O.foot k→¬ nF β S.H k:=fun k hk hf h=>by
  rcases hfown k h with h2 | h2
  · omega
  · exact hf h2
 have hfar:∀ i b,2000≤i→(entL F i).held=true→β i=some b→b<E.w.heap.size∧¬ nF β S.H b:=fun i b hi hh hb=>by
  refine ⟨hr.h.lt (j:=i) (by rw [hge i hi]; exact hh) hb,fun ⟨j,hj,hbj⟩=>?_⟩;have:=hSl j hj;have:=hr.h.inj i j b (by rw [hge i hi]; exact hh) (by rw [hlt j (by omega)]; exact hj) hb hbj;omega
 have hfb:∀ i b,2000≤i→(entL F i).held=true→β' i=some b→β i=some b:=fun i b hi hh hb=>by
  cases hβ:β i with
  | some b'=>rw [hgv i b' hi hβ] at hb; exact hb
  | none =>
    have h3:=hr.h.ent i;rw [hge i hi] at h3
    rcases aEf hF hi with h4 | ⟨e,ds,h4,_,h5⟩
    · rw [h4] at hh; cases hh
    · rw [h4] at h3
      rcases h3 with ⟨_,g2⟩ | ⟨b',_,_,g1,_⟩
      · exact Ay g2 h5
      · rw [hβ] at g1; cases g1
 refine ⟨⟨S'.sl,S'.H++F⟩,E',β',rfl,⟨hr'.n,hr'.nd,?_,hr'.sl⟩,S',rfl,hq⟩
 exact {
  os:=hr'.h.os.trans hr.h.os,tape:=hr'.h.tape.trans hr.h.tape,output:=hr'.h.output.trans hr.h.output
  size:=BG hsz hr'.h.size,mbs:=hr.h.mbs
  block:=fun k hk hf=>(hr'.h.block k (by show k<E.w.heap.size; omega) (hnf k hk hf)).trans (hr.h.block k hk hf)
  xlt:=hr'.h.xlt
  xold:=fun b o hb hf=>(hr'.h.xold b o (by show b<E.w.heap.size; omega) (hnf b hb hf)).trans (hr.h.xold b o hb hf)
  ent := fun id=>by
   rcases Ck id 2000 with h2 | h2
   · rw [hlt' id h2];exact (hr'.h.ent id).own_swap (fun b _ _ hb=>hown2 b hb) ⟨rfl,rfl,rfl,rfl⟩
   · rw [hge' id h2];have h3:=hr.h.ent id;rw [hge id h2] at h3
     rcases aEf hF h2 with h4 | ⟨e,ds,h4,h5,h7⟩
     · rw [h4]; trivial
     · rw [h4] at h3 ⊢
       rcases h3 with ⟨g1,g2⟩ | ⟨b,vs,sp,g1,g2,g3,g4,g5⟩
       · exact Ay g2 h7
       · have h6:=hfar id b h2 (by rw [h4]; rfl) g1;exact .inr ⟨b,vs,sp,hgv id b h2 g1,g2,(hr'.h.block b h6.1 h6.2).trans g3,fun o=>(hr'.h.xold b o h6.1 h6.2).2 (g4 o),Fw h5 g5⟩
  inj:=fun i j b hi hj h1 h2=>by
   have key:∀ i j,i<2000→2000≤j→(S'.ent i).held=true→(entL F j).held=true→β' i=some b→β' j=some b→False:=fun i j h3 h4 h5 h6 h7 h8=>by
    have h9:=hfar j b h4 h6 (hfb j b h4 h6 h8)
    rcases hr'.h.own (j:=i) h5 h7 with h10 | h10
    · exact BU _ (BH h9.1 h10)
    · exact h9.2 h10
   rcases Ck i 2000 with h3 | h3 <;> rcases Ck j 2000 with h4 | h4
   · rw [hlt' i h3] at hi; rw [hlt' j h4] at hj;exact hr'.h.inj i j b hi hj h1 h2
   · rw [hlt' i h3] at hi; rw [hge' j h4] at hj;exact (key i j h3 h4 hi hj h1 h2).elim
   · rw [hge' i h3] at hi; rw [hlt' j h4] at hj;exact (key j i h4 h3 hj hi h2 h1).elim
   · rw [hge' i h3] at hi; rw [hge' j h4] at hj;exact hr.h.inj i j b (by rw [hge i h3]; exact hi) (by rw [hge j h4]; exact hj) (hfb i b h3 hi h1) (hfb j b h4 hj h2)
  le:=hr.h.le.trans hle
  tab:=hr.h.tab
  gid:=hr.h.gid
  given:=fun i b hi=>by
   have h2:=hr.h.given i b hi
   rcases Ck i 2000 with h3 | h3
   · exact hr'.h.given i b (by simp only [O2,bZ.framed,Al (Nat.not_le.2 h3)]; exact hi)
   · exact hgv i b h3 h2 }
end
end Go.IL
namespace Go.IL
section
variable {P:Ba} {N:Nat}
def lt2(i:Nat):Bool:=Nat.blt i 2000
theorem xX{i:Nat}:lt2 i=true↔i<2000:=by unfold lt2; rw [BQ]
def aB0(H:List (Nat×Ent)):Prop:=∀ x∈H,x.1<2000∧x.2.refsIn lt2=true
theorem aB0.near{H:List (Nat×Ent)}(h:aB0 H):Near H:=fun x hx=>(h x hx).1
theorem RdL.names{E:Env}{β β':bY}{p:Nat→Bool}(hp:∀ i,p i=true→β' i=β i){vs:List AG}{ds:List D}(h:RdL E β vs ds)(hr:AE p ds=true):RdL E β' vs ds :=
 Cv (ρ:=fun i=>i) hp ds (by rw [Eg]; exact h) hr
theorem Rd.names{E:Env}{β β':bY}{p:Nat→Bool}(hp:∀ i,p i=true→β' i=β i){v:AG}{d:D}(h:Rd E β v d)(hr:d.refsIn p=true):Rd E β' v d :=
 FI (ρ:=fun i=>i) hp d (by rw [FU]; exact h) hr
theorem qX.names{O:bZ}{E:Env}{β β':bY}(hp:∀ i,lt2 i=true→β' i=β i){id:Nat}{e:Ent}(hi:β' id=β id)(h:qX O E β id e)(hr:e.refsIn lt2=true):qX O E β' id e:=by
 cases e with
 | none=>trivial
 | fresh=>exact hi.trans h
 | blk e ds =>
   rcases h with ⟨h1,h2⟩ | ⟨b,vs,sp,h1,h2,h3,h4,h5⟩
   · exact .inl ⟨hi.trans h1,h2⟩
   · exact .inr ⟨b,vs,sp,hi.trans h1,h2,h3,h4,h5.names hp hr⟩
 | tail e sz n =>
   rcases h with ⟨h1,h2⟩ | ⟨b,c,h1,h2⟩
   · exact .inl ⟨hi.trans h1,h2⟩
   · exact .inr ⟨b,c,hi.trans h1,h2⟩
 | loop=>cases hr
 | kept=>cases hr
 | mp ks ds =>
   obtain ⟨b,es,cl,h1,h2,h3,h4,h5,h6⟩:=h;exact ⟨b,es,cl,hi.trans h1,h2,h3,h4,h5,h6.names hp hr⟩
theorem aBV{H:List (Nat×Ent)}(h:aB0 H){i:Nat}(hi:2000≤i):entL H i = .none:=aHy h.near hi
theorem yW{H:List (Nat×Ent)}(h:aB0 H)(i:Nat):(entL H i).refsIn lt2=true:=by
 unfold entL
 rcases qJ (z:=defE i) (t:=i) (l:=H) with h1 | h1
 · rw [h1]; unfold defE; split <;> rfl
 · exact (h _ h1).2
theorem aI7{f:FuncId}{ds:List D}{H0 H1:List (Nat×Ent)}{r:D}(hd:AE lt2 ds=true)(h0:aB0 H0)(h1:aB0 H1)(hr:r.refsIn lt2=true)(h:∀ (E:Env) (β:bY) (vs:List AG),E.good→(∀ i b,β i=some b→1000≤i)→(∀ i,2000≤i→β i=none) →
   HOk ⟨E.w,E.X,nF β H0,β,none,fun _=>[],fun _=>0,fun _=>[],fun _=>(#[],.skip,.skip),E.w.heap.size⟩ E β (entL H0)→RdL E β vs ds →
   Calls P f vs.toArray E.w fun e w'=>∃ v,e = .returned v∧∃ E' β',E'.w=w'∧HOk ⟨E.w,E.X,nF β H0,β,none,fun _=>[],fun _=>0,fun _=>[],fun _=>(#[],.skip,.skip),E.w.heap.size⟩ E' β' (entL H1)∧Rd E' β' v r):FnH P f ds H0 r H1:=by
 intro E β vs hX hβ hok hvs
 let β2:bY:=fun i=>if i<2000 then β i else none
 have hp:∀ i,lt2 i=true→β2 i=β i:=fun i hi=>by simp only [β2,Ao (xX.1 hi)]
 have hp':∀ i,i<2000→β2 i=β i:=fun i hi=>hp i (xX.2 hi)
 have hheld:∀ {H:List (Nat×Ent)},aB0 H→∀ i,(entL H i).held=true→i<2000:=fun hH i hi=>by
  rcases Ck i 2000 with h2 | h2
  · exact h2
  · rw [aBV hH h2] at hi; cases hi
 have hfoot:nF β2 H0=nF β H0:=by
  funext b; apply propext; constructor
  · rintro ⟨i,hi,hb⟩; exact ⟨i,hi,by rw [←hp' i (hheld h0 i hi)]; exact hb⟩
  · rintro ⟨i,hi,hb⟩; exact ⟨i,hi,by rw [hp' i (hheld h0 i hi)]; exact hb⟩
 have hg2:∀ i b,β2 i=some b→β i=some b:=fun i b hb=>by
  simp only [β2] at hb;split at hb
  · exact hb
  · cases hb
 have hok2 : HOk ⟨E.w,E.X,nF β2 H0,β2,none,fun _=>[],fun _=>0,fun _=>[],fun _=>(#[],.skip,.skip),E.w.heap.size⟩ E β2 (entL H0):=by
  rw [hfoot]
  exact { os:=hok.os,tape:=hok.tape,output:=hok.output,size:=hok.size,mbs:=hok.mbs,block:=hok.block,xlt:=hok.xlt,xold:=hok.xold
          ent:=fun id=>by
           rcases Ck id 2000 with h2 | h2
           · exact ((hok.ent id).own_swap (O':=⟨E.w,E.X,nF β H0,β2,none,fun _=>[],fun _=>0,fun _=>[],fun _=>(#[],.skip,.skip),E.w.heap.size⟩) (fun b _ _ hb=>hb) ⟨rfl,rfl,rfl,rfl⟩).names hp (hp' id h2) (yW h0 id)
           · rw [aBV h0 h2]; trivial
          inj:=fun i j b hi hj h2 h3=>hok.inj i j b hi hj (hg2 i b h2) (hg2 j b h3)
          le:=hok.le,tab:=hok.tab,gid:=fun i b hb=>hβ i b (hg2 i b hb),given:=fun i b hb=>hb }
 refine (h E β2 vs hX (fun i b hb=>hβ i b (hg2 i b hb)) (fun i hi=>by simp only [β2,Al (EY.2 hi)]) hok2 (hvs.names hp hd)).mono ?_;rintro e w' ⟨v,rfl,E',β',rfl,hok',hrd⟩
 let β3:bY:=fun i=>if i<2000 then β' i else β i
 have hq:∀ i,lt2 i=true→β3 i=β' i:=fun i hi=>by simp only [β3,Ao (xX.1 hi)]
 have hq':∀ i,i<2000→β3 i=β' i:=fun i hi=>hq i (xX.2 hi)
 rw [hfoot] at hok';refine ⟨v,rfl,E',β3,rfl,?_,hrd.names hq hr⟩
 exact { os:=hok'.os,tape:=hok'.tape,output:=hok'.output,size:=hok'.size,mbs:=hok'.mbs,block:=hok'.block,xlt:=hok'.xlt,xold:=hok'.xold
         ent:=fun id=>by
          rcases Ck id 2000 with h2 | h2
          · exact ((hok'.ent id).own_swap (O':=⟨E.w,E.X,nF β H0,β,none,fun _=>[],fun _=>0,fun _=>[],fun _=>(#[],.skip,.skip),E.w.heap.size⟩) (fun b _ _ hb=>hb) ⟨rfl,rfl,rfl,rfl⟩).names hq (hq' id h2) (yW h1 id)
          · rw [aBV h1 h2]; trivial
         inj:=fun i j b hi hj h2 h3=>hok'.inj i j b hi hj (by rw [←hq' i (hheld h1 i hi)]; exact h2) (by rw [←hq' j (hheld h1 j hj)]; exact h3)
         le:=hok'.le,tab:=hok'.tab,gid:=hβ
         given:=fun i b hb=>by
          rcases Ck i 2000 with h2 | h2
          · rw [hq' i h2]; exact hok'.given i b (by show β2 i=some b; rw [hp' i h2]; exact hb)
          · simp only [β3,Al (EY.2 h2)]; exact hb }
theorem aEc{f:FuncId}{fn:Func}{c:Code}{ds rs:List D}{H0 H1:List (Nat×Ent)}(hf:P.funcs[f]? = some fn)(hb:fn.body=some c)(hN:fn.ntmps=N)(hlen:ds.length≤N)(hd:AE lt2 ds=true)(h0:aB0 H0)(h1:aB0 H1)(hr:(retD rs).refsIn lt2=true)(h:∀ O:bZ,O.Plain→(∀ i,2000≤i→O.given i=none)→IWP P O N c ⟨(By ds.length).zip ds,H0⟩ (fun e S=>(e = .normal∨e = .ret)∧∃ ρ,Weak S ⟨[],H1⟩ ρ∧aAQ P S fn.results.toList (BD ρ rs)∧AE (FJ ⟨[],H1⟩) rs=true)):FnH P f ds H0 (retD rs) H1 :=
 aI7 hd h0 h1 hr fun E β vs hX hβ hβ2 hok hvs=>aAP hf hb hN hlen E β vs hX hβ hok hvs fun O hO hg =>
  vJ (h O hO fun i hi=>by rw [hg]; exact hβ2 i hi) fun e S ⟨he,ρ,hw,hr,hi⟩=>⟨he,ρ,hw,⟨_,hr,.refl _⟩,hi⟩
end
end Go.IL
open Go.IL.St renaming held → De
open Nat renaming strongRecOn → Ej
namespace Go.IL
section
variable {P:Ba} {O:bZ} {N:Nat} {S S':St} {Q:Exit→St→Prop}
structure aDL (O:bZ) (S S':St) (ρ:Nat→Nat):Prop where
 sl:AllW (SlW S S' ρ) S'.sl
 ent:AllW (EntW S S' ρ) S'.H
 inj:(S'.H.map fun x=>ρ x.1).Nodup
 fixed:∀ i,1000≤i→ρ i=i∨(S'.held i=true∧O.given i=none)
theorem Rel.weakG{E:Env}{β:bY}{a:Act}(h:Rel O N S E β a){ρ:Nat→Nat}(hw:aDL O S S' ρ):∃ β',Rel O N S' E β' a∧∀ id,S'.okn id=true→β' id=β (ρ id):=by
 let β':bY:=fun id=>if S'.held id=true then β (ρ id) else if 1000≤id then β id else none
 have hp:∀ id,S'.okn id=true→β' id=β (ρ id):=fun id hid=>by
  by_cases hh:S'.held id=true
  · simp [β',hh]
  · have h1:1000≤id:=by simpa [FJ,hh] using hid
    simp [β',hh,h1,(hw.fixed id h1).resolve_right fun h=>hh h.1]
 have hph:∀ id,S'.held id=true→β' id=β (ρ id):=fun id hid=>by simp [β',hid]
 have key:∀ id e,S'.ent id=e→e ≠ .none→e ≠ .fresh→(id,e)∈S'.H:=fun id e he h1 h2=>by
  rcases qJ (z:=defE id) (t:=id) (l:=S'.H) with h4 | h4
  · have h5:S'.ent id=defE id:=h4;rw [he] at h5;unfold defE at h5;split at h5
    · exact Ay h5 h1
    · exact Ay h5 h2
  · rw [←he]; exact h4
 have keyh:∀ id,S'.held id=true→(id,S'.ent id)∈S'.H:=fun id hid=>by
  refine key id _ rfl ?_ ?_ <;> (intro h5; rw [De,h5] at hid; cases hid)
 refine ⟨β',⟨h.n,h.nd,{ h.h with ent:=fun id=>?_,inj:=fun i j b hi hj hbi hbj=>?_,given:=fun i b hi=>?_ },fun t=>?_⟩,hp⟩
 · cases hh : S'.held id with
   | false =>
     cases hE:S'.ent id with
     | none=>trivial
     | fresh =>
       show β' id=none
       by_cases h1000:1000≤id
       · exfalso
         rcases qJ (z:=defE id) (t:=id) (l:=S'.H) with h4 | h4
         · have h5:S'.ent id=defE id:=h4;rw [hE] at h5;simp [defE,h1000] at h5
         · have h5:(id,Ent.fresh)∈S'.H:=by
            have:look (defE id) id S'.H = .fresh:=hE
            rwa [this] at h4
           have:=hw.ent.mem id _ h5;cases this
       · simp [β',hh,h1000]
     | blk=>rw [De,hE] at hh; cases hh
     | tail=>rw [De,hE] at hh; cases hh
     | loop=>rw [De,hE] at hh; cases hh
     | mp=>rw [De,hE] at hh; cases hh
     | kept k ds =>
       have h4:=hw.ent.mem id _ (key id _ hE (by simp) (by simp));have h5:=h.h.ent (ρ id);cases h4 with
       | kept hS hd hr =>
         rw [hS] at h5;subst hd;exact ⟨Cv hp _ h5.1 hr,h5.2⟩
   | true =>
     have h4:=hw.ent.mem id _ (keyh id hh);have hb:β' id=β (ρ id):=hph id hh;have h5:=h.h.ent (ρ id);generalize hE:S'.ent id=e at h4;cases h4 with
     | blk hS hd hr =>
       rw [hS] at h5;subst hd
       rcases h5 with ⟨h6,h7⟩ | ⟨b,vs,sp,h7,h8,h9,h10,h11⟩
       · exact .inl ⟨hb.trans h6,tC h7⟩
       · exact .inr ⟨b,vs,sp,hb.trans h7,h8,h9,h10,Cv hp _ h11 hr⟩
     | sub hS hd hr =>
       rw [hS] at h5
       rcases h5 with ⟨h6,h7⟩ | ⟨b,vs,sp,h7,h8,h9,h10,h11⟩
       · subst h7;generalize hq:BD ρ _=q at hd;cases hd;exact .inl ⟨hb.trans h6,tC hq⟩
       · exact .inr ⟨b,vs,sp,hb.trans h7,h8,h9,h10,Cv hp _ (RdL.subC hd h11) hr⟩
     | cw hS hd hr =>
       rw [hS] at h5
       rcases h5 with ⟨h6,h7⟩ | ⟨b,vs,sp,h7,h8,h9,h10,h11⟩
       · subst h7;generalize hq:BD ρ _=q at hd;cases hd;exact .inl ⟨hb.trans h6,tC hq⟩
       · exact .inr ⟨b,vs,sp,hb.trans h7,h8,h9,h10,Cv hp _ (RdL.wk hd h11) hr⟩
     | tail hS =>
       rw [hS] at h5
       rcases h5 with ⟨h6,h7⟩ | ⟨b,c,h6,h7,h8,h9⟩
       · exact .inl ⟨hb.trans h6,h7⟩
       · exact .inr ⟨b,c,hb.trans h6,h7,h8,h9⟩
     | nils hS =>
       rw [hS] at h5;exact .inl ⟨hb.trans h5,rfl⟩
     | nilb hS =>
       rw [hS] at h5;exact .inl ⟨hb.trans h5,rfl⟩
     | loop hS hd hr =>
       rw [hS] at h5;subst hd;obtain ⟨k,r,h3,h4,h5,h6,h7,h8,h9,h10,h11,h12⟩:=h5;exact ⟨k,r,hb.trans h3,h4,h5,h6,h7,h8,h9,h10,h11,h12.1,Cv hp _ h12.2 hr⟩
     | mp hS hd hr =>
       rw [hS] at h5;subst hd;obtain ⟨k,es,cl,h3,h4,h5,h6,h7,h8⟩:=h5;exact ⟨k,es,cl,hb.trans h3,h4,h5,h6,h7,Cv hp _ h8 hr⟩
     | kept hS hd hr=>rw [De,hE] at hh; cases hh
 · have hi':S'.held i=true:=hi;have hj':S'.held j=true:=hj;have e1:=hph i hi';have e2:=hph j hj';rw [e1] at hbi;rw [e2] at hbj;have heldρ:∀ id b,S'.held id=true→β (ρ id)=some b→(S.ent (ρ id)).held=true:=fun id b hid hb=>by
    have h4:=hw.ent.mem id _ (keyh id hid);have h5:=h.h.ent (ρ id);generalize hE:S'.ent id=e at h4;cases h4 with
    | blk hS=>rw [hS]; rfl
    | sub hS=>rw [hS]; rfl
    | cw hS=>rw [hS]; rfl
    | tail hS=>rw [hS]; rfl
    | nils hS=>rw [hS] at h5; rw [h5] at hb; cases hb
    | nilb hS=>rw [hS] at h5; rw [h5] at hb; cases hb
    | loop hS=>rw [hS]; rfl
    | mp hS=>rw [hS]; rfl
    | kept hS=>rw [De,hE] at hid; cases hid
   have:=h.h.inj (ρ i) (ρ j) b (heldρ i b hi' hbi) (heldρ j b hj' hbj) hbi hbj;exact vG hw.inj (keyh i hi') (keyh j hj') this
 · have h1:=h.h.gid i b hi;have h2:=h.h.given i b hi
   by_cases hh:S'.held i=true
   · simp [β',hh,(hw.fixed i h1).resolve_right fun h=>by (have:=h.2; rw [hi] at this; cases this),h2]
   · simp [β',hh,h1,h2]
 · rcases qJ (z:=D.dead) (t:=t) (l:=S'.sl) with h4 | h4
   · have:S'.get t = .dead:=h4;rw [this]; exact .dead _ _
   · have h5:=hw.sl.mem t _ h4;have h7:=h.sl t;have h8:S'.get t=look D.dead t S'.sl:=rfl;rw [h8];generalize look D.dead t S'.sl=d at h5;cases h5 with
     | same he hr=>rw [he] at h7; exact FI hp _ h7 hr
     | coe he hr=>exact ((he _ _ _ h7).bare hr).up
     | cw he hr=>exact FI hp _ (he _ _ _ h7) hr
     | nilo he =>
       rw [he] at h7;generalize a.tmps.getD t undef=v at h7;cases h7;exact .nosl _ _ _
     | nils he =>
       rw [he] at h7;generalize a.tmps.getD t undef=v at h7;cases h7;exact .ngsl _ _ _
theorem uR{c:Code}(ρ:Nat→Nat)(hw:aDL O S S' ρ)(h:IWP P O N c S' Q):IWP P O N c S Q:=by
 intro E β a hr;obtain ⟨β',hr',_⟩:=hr.weakG hw;exact h E β' a hr'
theorem aDm{α:Type}{c:Code}{Q:Exit→St→Prop}(st:α→St)(inv:α→Prop)(m:α→Nat)(a0:α)(ρ0:Nat→Nat)(h0:aDL O S (st a0) ρ0)(i0:inv a0)(round:∀ x,inv x→IWP P O N c (st x) (aCe (fun S'=>∃ y ρ,aDL O S' (st y) ρ∧inv y∧m y<m x) Q)):IWP P O N (.loop c) S Q:=by
 refine uR ρ0 h0 ?_;intro E β a hr b k cs hro hb hroom
 have key:∀ n x E β a,m x=n→inv x→Rel O N (st x) E β a →
  ∃ e a' w',(∃ S' E' β',E'.w=w'∧Rel O N S' E' β' a'∧Q e S')∧ArrivesIn (Machine.fenced P (fen O.round)) P (lone (b.atR a (.code c :: .inLoop c::k)) cs E.w) b k cs e a' w':=by
  intro n
  induction n using Ej with
  | _ n ih =>
    intro x E β a hn hI hr;obtain ⟨e,a₁,w₁,⟨S₁,E₁,β₁,rfl,hr₁,hq⟩,harr⟩:=round x hI E β a hr b (.inLoop c::k) cs hro hb hroom;cases e with
    | normal =>
      obtain ⟨y,ρ,hw,hI₁,hlt⟩:=hq;obtain ⟨β₂,hr₂,_⟩:=hr₁.weakG hw;obtain ⟨e₂,a₂,w₂,hq₂,harr₂⟩:=ih (m y) (hn ▸ hlt) y E₁ β₂ a₁ rfl hI₁ hr₂;exact ⟨e₂,a₂,w₂,hq₂,.of_steps (StepsIn.trans harr (.one (fenced_calm hb hroom rfl) stepR_inLoop)) harr₂⟩
    | exit id=>exact ⟨_,a₁,_,⟨S₁,E₁,β₁,rfl,hr₁,hq⟩,.pass (x:=.inLoop c) rfl (fun _ _=>.inl (by simp)) harr⟩
    | goto l=>exact ⟨_,a₁,_,⟨S₁,E₁,β₁,rfl,hr₁,hq⟩,.pass (x:=.inLoop c) rfl (fun _ _=>.inl (by simp)) harr⟩
    | ret=>exact ⟨_,a₁,_,⟨S₁,E₁,β₁,rfl,hr₁,hq⟩,.pass (x:=.inLoop c) rfl (fun _ _=>.inl (by simp)) harr⟩
    | panic ch=>exact ⟨_,a₁,_,⟨S₁,E₁,β₁,rfl,hr₁,hq⟩,.pass (x:=.inLoop c) rfl (fun _ _=>.inl (by simp)) harr⟩
    | outgrown=>exact ⟨_,a₁,_,⟨S₁,E₁,β₁,rfl,hr₁,hq⟩,.pass (x:=.inLoop c) rfl (fun _ _=>.inl (by simp)) harr⟩
 obtain ⟨e,a',w',hq,harr⟩:=key _ a0 E β a rfl i0 hr;exact ⟨e,a',w',hq,.of_steps (.one (fenced_calm hb hroom rfl) stepR_loop) harr⟩

theorem aFL{c:Code}(F:List (Nat×Ent))(hF:Far F)(hS:Near S.H)(h:∀ O2:bZ,O2.round=O.round→IWP P O2 N c S (fun e S'=>Near S'.H∧Q e ⟨S'.sl,S'.H++F⟩)):IWP P O N c ⟨S.sl,S.H++F⟩ Q :=
 vJ (aHJ F hF hS (Q:=fun e S'=>Near S'.H∧Q e ⟨S'.sl,S'.H++F⟩) (fun e S' h=>h.1) h) fun e S1 ⟨S',h1,h2⟩=>h1 ▸ h2.2
end
end Go.IL
open Go renaming TypeId → At
open Go.IL.Rd renaming mono → CA
open Go.IL.RdL renaming mono → AW
open List renaming getElem?_append_left → AJ,getElem?_eq_some_iff → Aj,length_eq_zero_iff → AV
open Nat renaming zero_add → Bj
namespace Go.IL
section
variable {P:Ba} {O:bZ} {N:Nat} {S S':St} {Q:Exit→St→Prop}
def aFj(O:bZ)(E:Env)(β:bY)(S:St):Prop:=∀ id e ds,S.ent id = .blk e ds→qX O E β id (.blk e ds)
theorem aCk{E:Env}{β:bY}(h:aFj O E β S){id b:Nat}{e:At}{ds:List D}(he:S.ent id = .blk e ds)(hb:β id=some b) :
 ∃ vs,(E.all β S).row b 0 vs∧RdL E β vs ds:=by
 obtain ⟨vs,sp,_,hh,_,hl⟩:=sZ (h id e ds he) hb;refine ⟨vs,fun k v hk=>⟨?_,fun h3=>h3.2 ⟨id,by rw [he]; rfl,hb⟩⟩,hl⟩
 show E.w.cell? _=_
 have hlt:=(Aj.1 hk).1;rw [Bj,cell_of_row _ _ _ _ _ _ hh]; simpa [AJ hlt] using hk
mutual
theorem Rd.fdX{E:Env}{β:bY}(h:aFj O E β S):∀ {v:AG} {d d':D},FD S d d'→Rd E β v d→Rd (E.all β S) β v d'
 | _,_,_,.refl _,hv=>CA (E.all_le β S) (bY.le.refl _) hv
 | _,_,_,.nils f,.nils _=>.nslice _ f
 | _,_,_,.gsl _ _ _,.gsl _ _ b len cap sz vs _ _ hl hc hz hsz hr hv _ _ _ _ _ _=>.slice _ b 0 len cap sz false vs _ hl hc (fun h=>by cases h) hz hsz ((E.all_le β S).row hr) (AW (E.all_le β S) (bY.le.refl _) hv)
 | _,_,_,.gsl _ _ _,.ngsl _ _ _=>.nslice _ false
 | _,_,_,.osl he hn hz hp,.osl _ _ b _ cap _ hb hcc hsz _ _ _ _ _ _ =>
   let ⟨vs,hr,hv⟩:=aCk h he hb
   .slice _ b 0 _ cap _ false vs _ hn hcc (fun h=>by cases h) hz hsz hr ((AW (E.all_le β S) (bY.le.refl _) hv).bare hp)
 | _,_,_,.osl he hn hz hp,.nosl _ _ _=>by rw [AV.1 hn]; exact .nslice _ false
 | _,_,_,.ref (off:=off) he hd hc hp,.ref _ _ _ b hb =>
   let ⟨vs,hr,hv⟩:=aCk h he hb
   .fptr _ b off (vs.drop off) _ (by have:=hr.drop off; rwa [Bj] at this) ((RdL.fdX h hc (hd ▸ hv.drop off)).bare hp)
 | _,_,_,.osln he hn hz hc hp,.osl _ _ b _ cap _ hb hcc hsz _ _ _ _ _ _ =>
   let ⟨vs,hr,hv⟩:=aCk h he hb
   .slice _ b 0 _ cap _ false vs _ hn hcc (fun h=>by cases h) hz hsz hr ((RdL.fdX h hc hv).bare hp)
 | _,_,_,.osln he hn hz hc hp,.nosl _ _ _=>by rw [AV.1 hn]; exact .nslice _ false
 | _,_,_,.dead _,_=>.dead _ _
 | _,_,_,.agg hc,.agg _ vs _ hv=>.agg _ vs _ (RdL.fdX h hc hv)
 | _,_,_,.tuple hc,.tuple _ vs _ hv=>.tuple _ vs _ (RdL.fdX h hc hv)
 | _,_,_,.fn hc,.fn _ f vs _ hv=>.fn _ f vs _ (RdL.fdX h hc hv)
 | _,_,_,.mv hc,.mv _ f us _ hv=>.mv _ f us _ (RdL.fdX h hc hv)
theorem RdL.fdX{E:Env}{β:bY}(h:aFj O E β S):∀ {vs:List AG} {ds ds':List D},FDL S ds ds'→RdL E β vs ds→RdL (E.all β S) β vs ds'
 | _,_,_,.nil,.nil _=>.nil _
 | _,_,_,.cons h1 t,.cons hv tv=>.cons (Rd.fdX h h1 hv) (RdL.fdX h t tv)
end
end
end Go.IL
open _root_.Array renaming getElem?_setIfInBounds_ne → Bf
open Bool renaming and_eq_true → Av,and_self → Dm
open Go renaming Operand → Am
open Go.IL.D renaming refsIn → BK
open Go.IL.St renaming get → Cf
open List renaming all_eq_true → Bb,mem_cons → Au
open Nat renaming ble → AZ,blt → DS
namespace Go.IL
section
variable {P:Ba} {O:bZ} {N:Nat} {S S':St} {Q:Exit→St→Prop} {o:Oper} {t:Nat}
def Frz(O:bZ)(N:Nat)(S S2:St):Prop:=∀ E β a,Rel O N S E β a→∃ E2 β2,E2.w=E.w∧Rel O N S2 E2 β2 a
theorem aIq{c:Code}(h:IWP P O N c S (fun e S'=>∃ S2,Frz O N S' S2∧Q e S2)):IWP P O N c S Q:=by
 intro E β a hr;refine wpIn_mono (h E β a hr) ?_;rintro e a' w' ⟨S',E',β',rfl,hr',S2,hf,hq⟩;obtain ⟨E2,β2,h1,h2⟩:=hf E' β' a' hr';exact ⟨S2,E2,β2,h1,h2,hq⟩
def FnN(P:Program)(f:FuncId)(ds:List D)(r:D)(H1:List (Nat×Ent)):Prop :=
 ∀ (E:Env) (vs:List AG),E.good→RdL E β0 vs ds →
   Calls P f vs.toArray E.w fun e w'=>∃ v,e = .returned v∧∃ E' β',E'.w=w'∧HOk ⟨E.w,E.X,fun _=>False,β0,none,fun _=>[],fun _=>0,fun _=>[],fun _=>(#[],.skip,.skip),E.w.heap.size⟩ E' β' (entL H1)∧Rd E' β' v r
theorem aFW:nF β0 []=fun _=>False:=by
 funext b; apply propext; constructor
 · rintro ⟨i,_,hi⟩; cases hi
 · exact fun h=>h.elim
theorem aGC{f:FuncId}{fn:Func}{c:Code}{ds rs:List D}{H1:List (Nat×Ent)}(hf:P.funcs[f]? = some fn)(hb:fn.body=some c)(hN:fn.ntmps=N)(hlen:ds.length≤N)(h:∀ O:bZ,O.Plain→O.given=β0→IWP P O N c ⟨(By ds.length).zip ds,[]⟩ (fun e S=>(e = .normal∨e = .ret)∧∃ ρ,Weak S ⟨[],H1⟩ ρ∧aAQ P S fn.results.toList (BD ρ rs)∧AE (FJ ⟨[],H1⟩) rs=true)):FnN P f ds (retD rs) H1:=by
 intro E vs hX hvs;have h0:=aAP (H0:=[]) (H1:=H1) (rs:=rs) hf hb hN hlen E β0 vs hX (fun _ _ h=>by cases h) (by rw [aFW]; exact aC9 hX) hvs fun O hO hg =>
  vJ (h O hO hg) fun e S ⟨he,ρ,hw,hr,hi⟩=>⟨he,ρ,hw,⟨_,hr,.refl _⟩,hi⟩
 rw [aFW] at h0;exact h0
mutual
theorem aFt{p:Nat→Bool}:∀ {d:D},d.nomem=true→d.refsIn p=true
 | .dead,_ | .bool _,_ | .int _ _,_ | .float _ _,_ | .str _,_ | .nils,_ | .nilp,_ | .nilf,_ | .nili,_=>rfl
 | .agg cs,h=>by simp only [D.nomem,BK] at h ⊢; exact vF h
 | .tuple cs,h=>by simp only [D.nomem,BK] at h ⊢; exact vF h
theorem vF{p:Nat→Bool}:∀ {ds:List D},Df ds=true→AE p ds=true
 | [],_=>rfl
 | d::ds,h=>by
   have h':d.nomem=true∧Df ds=true:=by simpa [Df] using h
   simp only [AE,aFt h'.1,vF h'.2,Dm]
end
def pN(k0 i:Nat):Bool:=i == k0||AZ 2000 i
theorem aFB{k0 i:Nat}:pN k0 i=true↔i=k0∨2000≤i:=by simp [pN]
theorem qX.names'{p:Nat→Bool}{O:bZ}{E:Env}{β β':bY}(hp:∀ i,p i=true→β' i=β i){id:Nat}{e:Ent}(hi:β' id=β id)(h:qX O E β id e)(hr:e.refsIn p=true):qX O E β' id e:=by
 cases e with
 | none=>trivial
 | fresh=>exact hi.trans h
 | blk e ds =>
   rcases h with ⟨h1,h2⟩ | ⟨b,vs,sp,h1,h2,h3,h4,h5⟩
   · exact .inl ⟨hi.trans h1,h2⟩
   · exact .inr ⟨b,vs,sp,hi.trans h1,h2,h3,h4,h5.names hp hr⟩
 | tail e sz n =>
   rcases h with ⟨h1,h2⟩ | ⟨b,c,h1,h2⟩
   · exact .inl ⟨hi.trans h1,h2⟩
   · exact .inr ⟨b,c,hi.trans h1,h2⟩
 | loop=>cases hr
 | kept=>cases hr
 | mp ks ds =>
   obtain ⟨b,es,cl,h1,h2,h3,h4,h5,h6⟩:=h;exact ⟨b,es,cl,hi.trans h1,h2,h3,h4,h5,h6.names hp hr⟩
def St.nearB(S:St):Bool:=S.H.all (fun x=>DS x.1 2000&&x.2.refsIn lt2)&&S.sl.all (fun x=>x.2.refsIn lt2)
theorem St.nearB_H{S:St}(h:S.nearB=true):aB0 S.H:=by
 unfold St.nearB at h;rw [Av,Bb] at h;intro x hx;have h1:=h.1 x hx;rw [Av,BQ] at h1;exact h1
theorem St.nearB_sl{S:St}(h:S.nearB=true)(s:Nat):(S.get s).refsIn lt2=true:=by
 unfold St.nearB at h;rw [Av,Bb,Bb] at h;unfold Cf
 rcases qJ (z:=D.dead) (t:=s) (l:=S.sl) with h1 | h1
 · rw [h1]; rfl
 · exact h.2 _ h1
theorem qX.mono2{O:bZ}{E E':Env}{β β':bY}(hle:E.le E')(hβ:β.le β')(hblk:∀ b,b<E.w.heap.size→E'.w.heap[b]? = E.w.heap[b]? ∧ ∀ o,E'.X b o↔E.X b o){id:Nat}{e:Ent}(hn:β id=none→β' id=none)(h:qX O E β id e)(hr:e.refsIn lt2=true):qX O E' β' id e:=by
 cases e with
 | none=>trivial
 | fresh=>exact hn h
 | blk e ds =>
   rcases h with ⟨h1,h2⟩ | ⟨b,vs,sp,h1,h2,h3,h4,h5⟩
   · exact .inl ⟨hn h1,h2⟩
   · have hb:=hblk b (dR h3);exact .inr ⟨b,vs,sp,hβ _ _ h1,h2,hb.1.trans h3,fun o=>(hb.2 o).2 (h4 o),AW hle hβ h5⟩
 | tail e sz n =>
   rcases h with ⟨h1,h2⟩ | ⟨b,c,h1,h2,h3,h4⟩
   · exact .inl ⟨hn h1,h2⟩
   · have hb:=hblk b (dR h3);exact .inr ⟨b,c,hβ _ _ h1,h2,hb.1.trans h3,fun o ho=>(hb.2 o).2 (h4 o ho)⟩
 | loop=>cases hr
 | kept=>cases hr
 | mp ks ds =>
   obtain ⟨b,es,cl,h1,h2,h3,h4,h5,h6⟩:=h;have hb:=hblk b (dR h3);exact ⟨b,es,cl,hβ _ _ h1,h2,hb.1.trans h3,fun o=>(hb.2 o).2 (h4 o),h5,AW hle hβ h6⟩
theorem aHT{f:FuncId}{xs:List Am}{ts:Array At}{ds:List D}{r:D}(k0:Nat){e0:Ent}{F:List (Nat×Ent)}(ho:o.op = .call { callee:=.value (.func f),args:=xs.toArray,argTypes:=ts })(hd:o.dst=some t)(ht:t<N)(hc:bB P f)(hx:SVs S xs ds)(hp:AE noRef ds=true)(hf:FnN P f ds r ((k0,e0)::F))(hk:k0<1000)(hfr:S.ent k0 = .fresh)(hS:S.nearB=true)(hO:∀ i,2000≤i→O.given i=none)(hF:Far F)(he0:e0.refsIn (pN k0)=true)(hr0:r.refsIn (pN k0)=true):IOp P O N o S ⟨(t,r)::S.sl,((k0,e0)::S.H)++F⟩:=by
 intro E β a hr next Q hn;have hargs:=hx.rd hr;have hrun:(execOp a.eval o).run P E.w = .ok (.enter f (xs.map a.eval).toArray) E.w:=by
  simp [execOp,ho,resolve,Deferred.ofValue,Act.eval,invoke,kB hc]
 unfold Oper.wp;rw [hrun];simp only [Oper.upon,hd];refine (hf E _ hr.h.good (hargs.bare hp)).mono ?_;rintro e w' ⟨v,rfl,E',β',rfl,hok,hrd⟩;have hSH:=St.nearB_H hS;have hle:E.le E':=hok.le
 let β1:bY:=fun i=>if i=k0∨2000≤i then β' i else β i
 let βs:bY:=fun i=>if i<2000 then β i else none
 have hk0:β k0=none:=by have:=hr.h.ent k0; rw [hfr] at this; exact this
 have hps:∀ i,lt2 i=true→βs i=β i:=fun i hi=>by simp only [βs,Ao (xX.1 hi)]
 have hβs:βs.le β1:=fun i b hb=>by
  simp only [βs] at hb;split at hb
  · rename_i h1;have:i≠k0:=fun e=>by rw [e,hk0] at hb; cases hb
    simp only [β1,Al (show ¬(i=k0∨2000≤i) by omega)]; exact hb
  · cases hb
 have hpn:∀ i,pN k0 i=true→β1 i=β' i:=fun i hi=>by simp only [β1,Ao (aFB.1 hi)]
 have hblk:∀ b,b<E.w.heap.size→E'.w.heap[b]? = E.w.heap[b]? ∧ ∀ o,E'.X b o↔E.X b o:=fun b hb=>⟨hok.block b hb (fun h=>h),fun o=>hok.xold b o hb (fun h=>h)⟩
 have hown:∀ b,(⟨E.w,E.X,fun _=>False,β0,none,fun _=>[],fun _=>0,fun _=>[],fun _=>(#[],.skip,.skip),E.w.heap.size⟩:bZ).own b→E.w.heap.size≤b:=fun b hb=>hb.resolve_right fun h=>h
 have hl0:entL ((k0,e0)::F) k0=e0:=by show look _ _ _=_; rw [aV,Ao rfl]
 have hlF:∀ i,2000≤i→entL ((k0,e0)::F) i=entL F i:=fun i hi=>by show look _ _ _=_; rw [aV,Al (by omega)]; rfl
 have hS1:∀ i,i<2000→i≠k0→BA ⟨(t,r)::S.sl,((k0,e0)::S.H)++F⟩ i=S.ent i:=fun i hi hik=>by
  show entL (((k0,e0)::S.H)++F) i=_
  rw [tS hF hi]; show look _ _ _=_; rw [aV,Al (Ne.symm hik)]; rfl
 have hS0:BA ⟨(t,r)::S.sl,((k0,e0)::S.H)++F⟩ k0=e0:=by
  show entL (((k0,e0)::S.H)++F) k0=_
  rw [tS hF (by omega)]; show look _ _ _=_; rw [aV,Ao rfl]
 have hSF:∀ i,2000≤i→BA ⟨(t,r)::S.sl,((k0,e0)::S.H)++F⟩ i=entL F i:=fun i hi=>by
  show entL (((k0,e0)::S.H)++F) i=_
  refine oU (fun x hx=>?_) hi
  rcases Au.1 hx with h | h
  · rw [h]; show k0<2000; omega
  · exact (hSH x h).1
 -- each held name: of the call's,or of before
 have hnew:∀ i b,(i=k0∨2000≤i)→(BA ⟨(t,r)::S.sl,((k0,e0)::S.H)++F⟩ i).held=true→β1 i=some b→(entL ((k0,e0)::F) i).held=true∧β' i=some b∧E.w.heap.size≤b:=fun i b hi hh hb=>by
  have hb':β' i=some b:=by rw [←hpn i (aFB.2 hi)]; exact hb
  have h1:(entL ((k0,e0)::F) i).held=true:=by
   rcases hi with rfl | hi
   · rw [hl0]; rw [hS0] at hh; exact hh
   · rw [hlF i hi]; rw [hSF i hi] at hh; exact hh
  exact ⟨h1,hb',hown b (hok.own h1 hb')⟩
 have hold:∀ i b,¬(i=k0∨2000≤i)→(BA ⟨(t,r)::S.sl,((k0,e0)::S.H)++F⟩ i).held=true→β1 i=some b→(S.ent i).held=true∧β i=some b∧b<E.w.heap.size:=fun i b hi hh hb=>by
  rw [hS1 i (by omega) (by omega)] at hh;have hb':β i=some b:=by simp only [β1,Al hi] at hb; exact hb
  exact ⟨hh,hb',hr.h.lt hh hb'⟩
 refine hn E' β1 _ ⟨by simp [Act.put,hr.n],hr.nd.mono (fun b hb=>(hblk b (dR hb)).1.trans hb),?_,?_⟩
 · exact {
    os:=hok.os.trans hr.h.os,tape:=hok.tape.trans hr.h.tape,output:=hok.output.trans hr.h.output,size:=BG hr.h.size hok.size,mbs:=hr.h.mbs
    block:=fun k hk2 hf2=>(hblk k (BH hk2 hr.h.size)).1.trans (hr.h.block k hk2 hf2)
    xlt:=hok.xlt
    xold:=fun b o hb hf2=>((hblk b (BH hb hr.h.size)).2 o).trans (hr.h.xold b o hb hf2)
    ent := fun id=>by
     by_cases hi:id=k0∨2000≤id
     · have h1:=hok.ent id;have hrf:(entL ((k0,e0)::F) id).refsIn (pN k0)=true:=by
        rcases hi with rfl | hi
        · rw [hl0]; exact he0
        · rw [hlF id hi]
          rcases aEf hF hi with h3 | ⟨e,ds,h3,h4,_⟩
          · rw [h3]; rfl
          · rw [h3]; exact vF h4
       have h2:qX O E' β' id (entL ((k0,e0)::F) id):=h1.own_swap' (fun b hb=>.inl (BG hr.h.size (hown b hb))) hrf;have h3:=h2.names' hpn (hpn id (aFB.2 hi)) hrf
       rcases hi with rfl | hi
       · rw [hS0]; rw [hl0] at h3; exact h3
       · rw [hSF id hi]; rw [hlF id hi] at h3; exact h3
     · have h1:=hr.h.ent id;rw [hS1 id (by omega) (by omega)];have h2:=h1.names hps (hps id (xX.2 (by omega))) (yW hSH id);refine h2.mono2 hle hβs hblk (fun h3=>?_) (yW hSH id);simp only [β1,Al hi];rw [←hps id (xX.2 (by omega))]; exact h3
    inj:=fun i j b hi hj h1 h2=>by
     by_cases hi':i=k0∨2000≤i <;> by_cases hj':j=k0∨2000≤j
     · obtain ⟨a1,a2,_⟩:=hnew i b hi' hi h1;obtain ⟨b1,b2,_⟩:=hnew j b hj' hj h2;exact hok.inj i j b a1 b1 a2 b2
     · obtain ⟨_,_,a3⟩:=hnew i b hi' hi h1;obtain ⟨_,_,b3⟩:=hold j b hj' hj h2;omega
     · obtain ⟨_,_,a3⟩:=hold i b hi' hi h1;obtain ⟨_,_,b3⟩:=hnew j b hj' hj h2;omega
     · obtain ⟨a1,a2,_⟩:=hold i b hi' hi h1;obtain ⟨b1,b2,_⟩:=hold j b hj' hj h2;exact hr.h.inj i j b a1 b1 a2 b2
    le:=hr.h.le.trans hle
    tab:=hr.h.tab
    gid:=hr.h.gid
    given:=fun i b hb=>by
     have h1:=hr.h.gid i b hb;have h2:i<2000:=by
      rcases Ck i 2000 with h | h
      · exact h
      · rw [hO i h] at hb; cases hb
     simp only [β1,Al (show ¬(i=k0∨2000≤i) by omega)];exact hr.h.given i b hb }
 · intro s;have hts:t<a.tmps.size:=hr.n ▸ ht
   show Rd E' β1 _ (look .dead s ((t,r)::S.sl))
   rw [aV]
   by_cases hst:t=s
   · subst hst;rw [Ao rfl];have:=hrd.names hpn hr0;simpa [Act.put,hts] using this
   · rw [Al hst];have h1:=(hr.sl s).names hps (St.nearB_sl hS s);have h2:=CA hle hβs h1
     show Rd E' β1 _ (S.get s)
     simpa [Act.put,hst,Bf] using h2
end
end Go.IL
open Bool renaming or_eq_true → BB
open Go.IL.Ent renaming held → DD,held_ren → BT
open Go.IL.RdL renaming fdX → ES,renp → DF
open Go.IL.St renaming set → Bo
open List renaming append_assoc → AA,map_cons → Ai,map_map → BM,mem_cons_of_mem → Bg,mem_cons_self → Cb,mem_map → Ak,mem_range → DT
open Nat renaming ble_eq → BX,le_of_ble_eq_true → Di
open Prod renaming fst → CG
open Go.RowKit (Below)
namespace Go.IL
section
variable {P:Ba} {O:bZ} {N:Nat} {S S':St} {o:Oper} {t:Nat} {Q:Exit→St→Prop}
def sg(k:Nat)(A:List Nat)(i:Nat):Nat:=if 2000≤i then i else sig k A i
def gvB(A:List Nat)(pf:Nat→Bool)(i:Nat):Bool:=fT A i||(AZ 2000 i&&pf i)
def tU(m:Nat)(A:List Nat)(pf:Nat→Bool)(i:Nat):Bool:=DS i m||gvB A pf i
def aFg(k:Nat)(A:List Nat)(H0 H1 H:List (Nat×Ent)):List (Nat×Ent) :=
 (H1.map fun x=>(sg k A x.1,x.2.ren (sg k A)))++((H0.map fun x=>(sg k A x.1,Ent.none))++H)
variable {k m:Nat} {A:List Nat} {pf:Nat→Bool}
theorem gv_of{i:Nat}(h:fT A i=true):gvB A pf i=true:=by unfold gvB; rw [h]; rfl
theorem aDw{i:Nat}(h:2000≤i∧pf i=true):gvB A pf i=true:=by
 have h1:AZ 2000 i=true:=by rw [BX]; exact h.1
 unfold gvB; rw [h1,h.2]; simp
theorem zI{i:Nat}(h:gvB A pf i=true):fT A i=true∨(2000≤i∧pf i=true):=by
 unfold gvB at h
 rcases (BB _ _).mp h with h | h
 · exact .inl h
 · rw [Av,BX] at h; exact .inr h
theorem aDy{i:Nat}:fT A i=true↔1000≤i∧i<1000+A.length:=by simp only [fT,Av,BX,BQ]
theorem aHe{i:Nat}(h:gvB A pf i=true):1000≤i:=by
 rcases zI h with h | h
 · exact (aDy.1 h).1
 · omega
theorem aCX{i:Nat}(h:tU m A pf i=true):i<m∨fT A i=true∨(2000≤i∧pf i=true):=by
 unfold tU at h
 rcases (BB _ _).mp h with h | h
 · exact .inl (by rwa [BQ] at h)
 · exact .inr (zI h)
theorem aCg{i:Nat}(h:2000≤i):sg k A i=i:=Ao h
theorem sg_lo{i:Nat}(h:i<1000):sg k A i=k+i:=by unfold sg; rw [Al (by omega)]; unfold sig; rw [Al (by omega)]
theorem uY{i:Nat}(hl:A.length≤1000)(h:fT A i=true):sg k A i=sig k A i:=Al (by have:=aDy.1 h; omega)
theorem aDD{i:Nat}(hl:A.length≤1000)(h:i∈A):fT A (1000+A.idxOf i)=true∧sg k A (1000+A.idxOf i)=i:=by
 obtain ⟨h1,h2⟩:=wG (k:=k) h;exact ⟨h1,(uY hl h1).trans h2⟩
theorem aJV{i j:Nat}(hn:A.Nodup)(hl:A.length≤1000)(h2:∀ i∈A,i<2000)(hi:gvB A pf i=true)(hj:gvB A pf j=true)(h:sg k A i=sg k A j):i=j:=by
 rcases zI hi with h3 | h3 <;> rcases zI hj with h4 | h4
 · rw [uY hl h3,uY hl h4] at h; exact aA8 hn h3 h4 h
 · rw [uY hl h3,aCg h4.1] at h; have:=h2 _ (qA (k:=k) h3); omega
 · rw [uY hl h4,aCg h3.1] at h; have:=h2 _ (qA (k:=k) h4); omega
 · rw [aCg h3.1,aCg h4.1] at h; exact h
structure HandF (S:St) (k:Nat) (A:List Nat) (pf:Nat→Bool) (H0:List (Nat×Ent)):Prop where
 nd:A.Nodup
 len:A.length≤1000
 lt:∀ i∈A,i<2000
 cov:A.all (fun i=>(H0.map fun x=>sg k A x.1).contains i)=true
 ents:∀ x∈H0,fT A x.1=true∧x.2.held=true∧S.ent (sg k A x.1)=x.2.ren (sg k A)∧x.2.refsIn (gvB A pf)=true
theorem aF4{f:FuncId}{ds ds':List D}{r r':D}{H0 H1 H2:List (Nat×Ent)}(k m:Nat)(A:List Nat)(pf:Nat→Bool)(hd:o.dst=some t)(ht:t<N)(h:∀ E β a,Rel O N S E β a→∃ vs:List AG,(execOp a.eval o).run P E.w = .ok (.enter f vs.toArray) E.w∧RdL E β vs ds')(hds:BD (sg k A) ds=ds')(hp:AE (gvB A pf) ds=true)(hkm:k+m≤1000)(hfar:∀ E β a,Rel O N S E β a→∀ i,2000≤i→pf i=true→β i≠none)(hfr:∀ j,j<m→S.ent (k+j) = .fresh)(hh:HandF S k A pf H0)(hf:FnH P f ds H0 r H1)(hrr:r.ren (sg k A)=r')(hrp:r.refsIn (tU m A pf)=true)(hH1:∀ x∈H1,tU m A pf x.1=true∧x.2.refsIn (tU m A pf)=true)(hH2:aFg k A H0 H1 S.H=H2):IOp P O N o S (Bo ⟨S.sl,H2⟩ t r'):=by
 intro E β a hr next Q hn;obtain ⟨vs,hrun,hv⟩:=h E β a hr;unfold Oper.wp;rw [hrun];simp only [Oper.upon,hd];subst hds hrr hH2
 let βc:bY:=fun i=>if gvB A pf i=true then β (sg k A i) else none
 have hβc:∀ id,gvB A pf id=true→βc id=β (sg k A id):=fun id hid=>by simp [βc,hid]
 have hvc:RdL E βc vs ds:=Cv hβc ds hv hp;have h0:∀ i,(entL H0 i).held=true→gvB A pf i=true∧S.ent (sg k A i)=(entL H0 i).ren (sg k A)∧(entL H0 i).refsIn (gvB A pf)=true:=fun i hi=>by
  have h1:=hh.ents _ (uW hi);exact ⟨gv_of h1.1,h1.2.2.1,h1.2.2.2⟩
 have hcall:HOk ⟨E.w,E.X,nF βc H0,βc,none,fun _=>[],fun _=>0,fun _=>[],fun _=>(#[],.skip,.skip),E.w.heap.size⟩ E βc (entL H0):={
  tab:=hr.h.good.tab,os:=rfl,tape:=rfl,output:=rfl,size:=AP _,mbs:=AP _,block:=fun _ _ _=>rfl,xlt:=hr.h.xlt,xold:=fun _ _ _ _=>Dy,le:=Co _
  gid:=fun i b hi=>by
   by_cases hg:gvB A pf i=true
   · exact aHe hg
   · simp [βc,hg] at hi
  given:=fun _ _ hi=>hi
  ent := fun i=>by
   cases hhe:(entL H0 i).held with
   | true =>
     obtain ⟨h1,h2,h3⟩:=h0 i hhe;have he:=hr.h.ent (sg k A i);rw [h2] at he;have hown:∀ b,βc i=some b→(⟨E.w,E.X,nF βc H0,βc,none,fun _=>[],fun _=>0,fun _=>[],fun _=>(#[],.skip,.skip),E.w.heap.size⟩:bZ).own b:=fun b hb=>.inr ⟨i,hhe,hb⟩
     cases hE:entL H0 i with
     | none=>trivial
     | fresh=>rw [hE] at hhe; cases hhe
     | blk e es =>
       rw [hE] at he h3
       rcases he with ⟨g1,g2⟩ | ⟨b,ws,sp,g1,g2,g3,g4,g5⟩
       · exact .inl ⟨(hβc i h1).trans g1,tC g2⟩
       · exact .inr ⟨b,ws,sp,(hβc i h1).trans g1,hown b ((hβc i h1).trans g1),g3,g4,Cv hβc es g5 h3⟩
     | tail e sz n =>
       rw [hE] at he
       rcases he with ⟨g1,g2⟩ | ⟨b,c,g1,g2,g3,g4⟩
       · exact .inl ⟨(hβc i h1).trans g1,g2⟩
       · exact .inr ⟨b,c,(hβc i h1).trans g1,hown b ((hβc i h1).trans g1),g3,g4⟩
     | loop lk es st pe =>
       rw [hE] at h3; cases h3
     | mp ks es =>
       rw [hE] at he h3;obtain ⟨b,xs,cl,g1,g2,g3,g4,g5,g6⟩:=he;exact ⟨b,xs,cl,(hβc i h1).trans g1,hown b ((hβc i h1).trans g1),g3,g4,g5,Cv hβc es g6 h3⟩
     | kept n es=>rw [hE] at hhe; cases hhe
   | false =>
     cases hE:entL H0 i with
     | none=>trivial
     | fresh =>
       show βc i=none
       by_cases hm:i∈H0.map (·.1)
       · obtain ⟨e,h1,h2⟩:=kP (z:=defE i) hm;have h3:=hh.ents _ h1;have:entL H0 i=e:=h2;rw [hE] at this; rw [←this] at h3; exact Ay h3.2.1 (by simp [DD])
       · have:entL H0 i=defE i:=kE hm;rw [hE] at this;unfold defE at this;split at this
         · cases this
         · rename_i hlt;have:¬ gvB A pf i=true:=fun h=>by have:=aHe h; omega
           simp [βc,this]
     | blk=>rw [hE] at hhe; cases hhe
     | tail=>rw [hE] at hhe; cases hhe
     | loop=>rw [hE] at hhe; cases hhe
     | mp=>rw [hE] at hhe; cases hhe
     | kept n es =>
       exfalso
       by_cases hm:i∈H0.map (·.1)
       · obtain ⟨e,h1,h2⟩:=kP (z:=defE i) hm;have h3:=hh.ents _ h1;have:entL H0 i=e:=h2;rw [hE] at this; rw [←this] at h3; exact Ay h3.2.1 (by simp [DD])
       · have:entL H0 i=defE i:=kE hm;rw [hE] at this;unfold defE at this;split at this <;> cases this
  inj:=fun i j b hi hj h1 h2=>by
   obtain ⟨a1,a2,_⟩:=h0 i hi;obtain ⟨b1,b2,_⟩:=h0 j hj;have h1:β (sg k A i)=some b:=(hβc i a1).symm.trans h1;have h2:β (sg k A j)=some b:=(hβc j b1).symm.trans h2;exact aJV hh.nd hh.len hh.lt a1 b1 (hr.h.inj _ _ b (by rw [a2,BT]; exact hi) (by rw [b2,BT]; exact hj) h1 h2) }
 refine (hf E βc vs hr.h.good hcall.gid hcall hvc).mono ?_;rintro e w' ⟨v,rfl,E',β',rfl,hok,hrd⟩
 -- old blocks that were not handed over
 have hfoot:∀ b,nF βc H0 b→∃ i,gvB A pf i=true∧(S.ent (sg k A i)).held=true∧β (sg k A i)=some b:=fun b ⟨i,hi,hb⟩=>by
  obtain ⟨h1,h2,_⟩:=h0 i hi;exact ⟨i,h1,by rw [h2,BT]; exact hi,by rw [←hβc i h1]; exact hb⟩
 have hfown:∀ b,nF βc H0 b→O.own b:=fun b hb=>by
  obtain ⟨i,_,h2,h3⟩:=hfoot b hb;have he:=hr.h.ent (sg k A i);exact hr.h.own h2 h3
 have hcown:∀ b,(⟨E.w,E.X,nF βc H0,βc,none,fun _=>[],fun _=>0,fun _=>[],fun _=>(#[],.skip,.skip),E.w.heap.size⟩:bZ).own b→O.own b:=fun b hb=>by
  rcases hb with hb | hb
  · exact .inl (BG hr.h.size hb)
  · exact hfown b hb
 have hfrE:∀ i,k≤i∧i<k+m→S.ent i = .fresh:=fun i h1=>by
  have:=hfr (i-k) (by omega)
  rwa [show k+(i-k)=i by omega] at this
 have hfresh:∀ i,k≤i→i<k+m→β i=none:=fun i h1 h2=>by
  have he:=hr.h.ent i;rw [hfrE i ⟨h1,h2⟩] at he; exact he
 let βn:bY:=fun i=>if k≤i∧i<k+m then β' (i-k) else if i∈A then β' (1000+A.idxOf i) else β i
 have hAk:∀ i,i∈A→¬ (k≤i∧i<k+m):=fun i hi hki=>by
  have h1:=Bb.1 hh.cov i hi;obtain ⟨x,hx,hxe⟩:=Ak.1 (by simpa using h1:i∈H0.map (fun x=>sg k A x.1));have h2:=hh.ents x hx;rw [hxe,hfrE i hki] at h2;have h3:(x.2.ren (sg k A)).held=true:=by rw [BT]; exact h2.2.1
  rw [←h2.2.2.1] at h3; cases h3
 have hnA:∀ i,i∈A→βn i=β' (1000+A.idxOf i):=fun i hi=>by simp [βn,hAk i hi,hi]
 have hnO:∀ i,i ∉ A→¬ (k≤i∧i<k+m)→βn i=β i:=fun i h1 h2=>by simp [βn,h1,h2]
 have hβ1:β.le βn:=fun i b hi=>by
  by_cases hki:k≤i∧i<k+m
  · rw [hfresh i hki.1 hki.2] at hi; cases hi
  · by_cases hA:i∈A
    · rw [hnA i hA];obtain ⟨h1,h2⟩:=aDD (k:=k) hh.len hA;exact hok.given _ _ (((hβc _ (gv_of h1)).trans (by rw [h2])).trans hi)
    · rw [hnO i hA hki]; exact hi
 have hβ2:∀ i,tU m A pf i=true→βn (sg k A i)=β' i:=fun i hi=>by
  by_cases hg:fT A i=true
  · rw [uY hh.len hg,hnA _ (qA hg),aA9 hh.nd hg]
  · rcases aCX hi with h | h | h
    · rw [sg_lo (by omega)];simp [βn,h]
    · exact Ay h hg
    · have h2:sg k A i=i:=aCg h.1;cases hb:β i with
      | none=>exact Ay hb (hfar E β a hr i h.1 h.2)
      | some b =>
        rw [h2,hnO i (fun h3=>by have:=hh.lt i h3; omega) (by omega),hb];exact (hok.given i b (by show βc i=some b; rw [hβc i (aDw h),h2]; exact hb)).symm
 have hle:E.le E':=hok.le
 -- the entries behind the call
 have hkey1:∀ i,tU m A pf i=true→∀ j,tU m A pf j=true→sg k A i=sg k A j→i=j:=fun i hi j hj hij=>by
  have key:∀ i,tU m A pf i=true→(i<m∧sg k A i=k+i)∨gvB A pf i=true:=fun i hi=>by
   rcases aCX hi with h | h | h
   · exact .inl ⟨h,sg_lo (by omega)⟩
   · exact .inr (gv_of h)
   · exact .inr (aDw h)
  have mix:∀ i j,i<m→sg k A i=k+i→gvB A pf j=true→sg k A i≠sg k A j:=fun i j h1 h2 h3 h4=>by
   rcases zI h3 with h5 | h5
   · refine hAk (sg k A j) (by rw [uY hh.len h5]; exact qA h5) (by rw [←h4,h2]; omega)
   · rw [h2,aCg h5.1] at h4; omega
  rcases key i hi with h1 | h1 <;> rcases key j hj with h2 | h2
  · rw [h1.2,h2.2] at hij; omega
  · exact Ay hij (mix i j h1.1 h1.2 h2)
  · exact Ay hij.symm (mix j i h2.1 h2.2 h1)
  · exact aJV hh.nd hh.len hh.lt h1 h2 hij
 have hent:∀ i,(Bo ⟨S.sl,aFg k A H0 H1 S.H⟩ t (r.ren (sg k A))).ent i =
  if i∈H1.map (fun x=>sg k A x.1) then (look (defE i) i (H1.map fun x=>(sg k A x.1,x.2.ren (sg k A)))) else if i∈H0.map (fun x=>sg k A x.1) then .none else S.ent i:=fun i=>by
  simp only [BA,entL,Bo,aFg,rU,BM];have e1:(CG ∘ fun x:Nat×Ent=>(sg k A x.1,x.2.ren (sg k A)))=fun x=>sg k A x.1:=rfl
  have e2:(CG ∘ fun x:Nat×Ent=>(sg k A x.1,Ent.none))=fun x=>sg k A x.1:=rfl
  rw [e1,e2];split
  · rfl
  · split
    · rename_i h1 h2;obtain ⟨e,h3,h4⟩:=kP (z:=defE i) (l:=H0.map fun x=>(sg k A x.1,Ent.none)) (by rw [BM,e2]; exact h2);rw [h4];obtain ⟨x,_,hx⟩:=Ak.1 h3;cases hx; rfl
    · rfl
 have hlook1:∀ j,tU m A pf j=true→j∈H1.map (·.1)→look (defE (sg k A j)) (sg k A j) (H1.map fun x=>(sg k A x.1,x.2.ren (sg k A)))=(entL H1 j).ren (sg k A):=by
  intro j hj;unfold entL;have aux:∀ (z z':Ent) (l:List (Nat×Ent)),(∀ x∈l,tU m A pf x.1=true)→j∈l.map (·.1)→look z (sg k A j) (l.map fun x=>(sg k A x.1,x.2.ren (sg k A)))=(look z' j l).ren (sg k A):=by
   intro z z' l
   induction l with
   | nil=>intro _ h; simp at h
   | cons x l ih =>
     obtain ⟨i,e⟩:=x;intro hl hm;simp only [Ai,aV]
     by_cases hij:i=j
     · subst hij; rw [Ao rfl,Ao rfl]
     · rw [Al (fun h=>hij (hkey1 i (hl (i,e) Cb) j hj h)),Al hij];refine ih (fun x hx=>hl x (Bg _ hx)) ?_;simp only [Ai,Au] at hm
       rcases hm with h | h
       · exact Ay h.symm hij
       · exact h
  exact aux _ _ H1 (fun x hx=>(hH1 x hx).1)
 have hH1r:∀ j,j∈H1.map (·.1)→tU m A pf j=true∧(entL H1 j).refsIn (tU m A pf)=true:=fun j hj=>by
  obtain ⟨e,h1,h2⟩:=kP (z:=defE j) hj;have h3:=hH1 _ h1;exact ⟨h3.1,by rw [show entL H1 j=e from h2]; exact h3.2⟩
 have cases1:∀ i,i∈H1.map (fun x=>sg k A x.1)→∃ j,j∈H1.map (·.1)∧tU m A pf j=true∧i=sg k A j:=fun i hi=>by
  obtain ⟨x,hx,rfl⟩:=Ak.1 hi;exact ⟨x.1,Ak.2 ⟨x,hx,rfl⟩,(hH1 x hx).1,rfl⟩
 -- an entry that was not handed over
 have hold:∀ i,i ∉ H1.map (fun x=>sg k A x.1)→i ∉ H0.map (fun x=>sg k A x.1)→(S.ent i).held=true→∀ b,β i=some b→βn i=some b∧b<E.w.heap.size∧¬ nF βc H0 b:=fun i h1 h2 h3 b hb=>by
  refine ⟨hβ1 i b hb,?_,?_⟩
  · exact hr.h.lt h3 hb
  · rintro ⟨j,hj,hbj⟩;obtain ⟨g1,g2,_⟩:=h0 j hj;have:i=sg k A j:=hr.h.inj i (sg k A j) b h3 (by rw [g2,BT]; exact hj) hb (by rw [←hβc j g1]; exact hbj);exact h2 (Ak.2 ⟨_,uW hj,this.symm⟩)
 have hcov:∀ i,i∈A→i∈H0.map (fun x=>sg k A x.1):=fun i hi=>by
  have:=Bb.1 hh.cov i hi;simpa using this
 have hold':∀ i,i ∉ H0.map (fun x=>sg k A x.1)→S.ent i ≠ .fresh→βn i=β i:=fun i h0 hf=>by
  refine hnO i (fun hA=>h0 (hcov i hA)) (fun hki=>hf ?_);exact hfrE i hki
 refine hn E' βn _ ⟨by simp [Act.put,hr.n],hr.nd.mono (fun b hx=>(hok.block b (dR hx) (fun hf=>by obtain ⟨i,_,h2,h3⟩:=hfoot b hf; exact hr.h.nodef h2 h3 _ hx)).trans hx),?_,?_⟩
 · exact {
    tab:=hr.h.tab,os:=hok.os.trans hr.h.os,tape:=hok.tape.trans hr.h.tape,output:=hok.output.trans hr.h.output,size:=BG hr.h.size hok.size,mbs:=hr.h.mbs
    block:=fun j hj hf=>by
     have hnf:¬ nF βc H0 j:=fun h=>by
      rcases hfown j h with h1 | h1
      · omega
      · exact hf h1
     exact (hok.block j (BH hj hr.h.size) hnf).trans (hr.h.block j hj hf)
    xlt:=hok.xlt
    xold:=fun b o hb hf=>by
     have hnf:¬ nF βc H0 b:=fun h=>by
      rcases hfown b h with h1 | h1
      · omega
      · exact hf h1
     exact (hok.xold b o (BH hb hr.h.size) hnf).trans (hr.h.xold b o hb hf)
    le:=hr.h.le.trans hle
    gid:=hr.h.gid
    given:=fun i b hi=>hβ1 i b (hr.h.given i b hi)
    ent := fun i=>by
     rw [hent i]
     by_cases hi1:i∈H1.map (fun x=>sg k A x.1)
     · rw [Ao hi1];obtain ⟨j,hj,hbj,rfl⟩:=cases1 i hi1;rw [hlook1 j hbj hj];have he:=hok.ent j;have hrf:=(hH1r j hj).2;have hb2:=hβ2 j hbj;cases hE:entL H1 j with
       | none=>trivial
       | fresh=>rw [hE] at he; exact hb2.trans he
       | blk e es =>
         rw [hE] at he hrf
         rcases he with ⟨g1,g2⟩ | ⟨b,ws,sp,g1,g2,g3,g4,g5⟩
         · exact .inl ⟨hb2.trans g1,by rw [g2]; rfl⟩
         · exact .inr ⟨b,ws,sp,hb2.trans g1,hcown b g2,g3,g4,DF (fun id b hid hb=>(hβ2 id hid).trans hb) g5 hrf⟩
       | tail e sz n =>
         rw [hE] at he
         rcases he with ⟨g1,g2⟩ | ⟨b,c,g1,g2,g3,g4⟩
         · exact .inl ⟨hb2.trans g1,g2⟩
         · exact .inr ⟨b,c,hb2.trans g1,hcown b g2,g3,g4⟩
       | loop lk es st pe =>
         rw [hE] at hrf; cases hrf
       | mp ks es =>
         rw [hE] at he hrf;obtain ⟨b,xs,cl,g1,g2,g3,g4,g5,g6⟩:=he;exact ⟨b,xs,cl,hb2.trans g1,hcown b g2,g3,g4,g5,DF (fun id b hid hb=>(hβ2 id hid).trans hb) g6 hrf⟩
       | kept n es=>rw [hE] at hrf; cases hrf
     · rw [Al hi1]
       by_cases hi0:i∈H0.map (fun x=>sg k A x.1)
       · rw [Ao hi0]; trivial
       · rw [Al hi0];have he:=hr.h.ent i;have hnb:∀ b,(S.ent i).held=true→β i=some b→βn i=some b∧E'.w.heap[b]? = E.w.heap[b]? ∧ ∀ o,(E'.X b o↔E.X b o):=fun b hhe hb=>by
          obtain ⟨g1,g2,g3⟩:=hold i hi1 hi0 hhe b hb;exact ⟨g1,hok.block b g2 g3,fun o=>hok.xold b o g2 g3⟩
         cases hE:S.ent i with
         | none=>trivial
         | fresh =>
           rw [hE] at he
           show βn i=none
           by_cases hki:k≤i∧i<k+m
           · -- a fresh name of the callee's that is told by nothing
             have hbi:i-k ∉ H1.map (·.1):=fun hm=>by
              have hbb:=(hH1r _ hm).1;refine hi1 ?_;obtain ⟨x,hx,hxe⟩:=Ak.1 hm;refine Ak.2 ⟨x,hx,?_⟩;have hx':x.1=i-k:=hxe;rw [hx'];rw [sg_lo (by omega)];omega
             have h3:=hok.ent (i-k);have h4:entL H1 (i-k)=defE (i-k):=kE hbi;rw [h4,defE,Al (by omega)] at h3;simp only [βn,hki,and_self,if_true];exact h3
           · rw [hnO i (fun hA=>hi0 (hcov i hA)) hki]; exact he
         | blk e es =>
           rw [hE] at he
           rcases he with ⟨g1,g2⟩ | ⟨b,ws,sp,g1,g2,g3,g4,g5⟩
           · exact .inl ⟨(hold' i hi0 (by rw [hE]; exact fun h=>by cases h)).trans g1,g2⟩
           · obtain ⟨f1,f2,f3⟩:=hnb b (by rw [hE]; rfl) g1;exact .inr ⟨b,ws,sp,f1,g2,f2.trans g3,fun o=>(f3 o).2 (g4 o),AW hle hβ1 g5⟩
         | tail e sz n =>
           rw [hE] at he
           rcases he with ⟨g1,g2⟩ | ⟨b,c,g1,g2,g3,g4⟩
           · exact .inl ⟨(hold' i hi0 (by rw [hE]; exact fun h=>by cases h)).trans g1,g2⟩
           · obtain ⟨f1,f2,f3⟩:=hnb b (by rw [hE]; rfl) g1;exact .inr ⟨b,c,f1,g2,f2.trans g3,fun o ho=>(f3 o).2 (g4 o ho)⟩
         | loop lk es st pe =>
           rw [hE] at he;obtain ⟨b,q,g1,g2,g3,g4,g5,g6,g7,g8,g9,g10⟩:=he;obtain ⟨f1,f2,f3⟩:=hnb b (by rw [hE]; rfl) g1;exact ⟨b,q,f1,g2,f2.trans g3,fun o=>(f3 o).2 (g4 o),g5,g6,g7,g8,g9,g10.1,AW hle hβ1 g10.2⟩
         | mp ks es =>
           rw [hE] at he;obtain ⟨b,xs,cl,g1,g2,g3,g4,g5,g6⟩:=he;obtain ⟨f1,f2,f3⟩:=hnb b (by rw [hE]; rfl) g1;exact ⟨b,xs,cl,f1,g2,f2.trans g3,fun o=>(f3 o).2 (g4 o),g5,AW hle hβ1 g6⟩
         | kept n es =>
           rw [hE] at he;exact ⟨AW hle hβ1 he.1,fun c hc=>(hok.block c (dR (he.2 c hc)) (fun hf=>by obtain ⟨i,_,h2,h3⟩:=hfoot c hf; exact hr.h.nodef h2 h3 _ (he.2 c hc))).trans (he.2 c hc)⟩
    inj := fun i j b hi hj hbi hbj=>by
     rw [hent i] at hi;rw [hent j] at hj;have hone:∀ i,i∈H1.map (fun x=>sg k A x.1)→(look (defE i) i (H1.map fun x=>(sg k A x.1,x.2.ren (sg k A)))).held=true→βn i=some b→∃ a,(entL H1 a).held=true∧β' a=some b∧i=sg k A a∧tU m A pf a=true:=fun i hm hh hb=>by
      obtain ⟨a,ha,hba,rfl⟩:=cases1 i hm;rw [hlook1 a hba ha,BT] at hh;exact ⟨a,hh,(hβ2 a hba).symm.trans hb,rfl,hba⟩
     have hown1:∀ a,(entL H1 a).held=true→β' a=some b→E.w.heap.size≤b∨nF βc H0 b:=fun a hh hb=>by
      exact hok.own hh hb
     have hto:∀ i,i ∉ H0.map (fun x=>sg k A x.1)→(S.ent i).held=true→βn i=some b→β i=some b:=fun i h0 hh hb=>by
      rw [←hold' i h0 (fun h=>by rw [h] at hh; cases hh)]; exact hb
     have hmix:∀ i j,i∈H1.map (fun x=>sg k A x.1)→(look (defE i) i (H1.map fun x=>(sg k A x.1,x.2.ren (sg k A)))).held=true→βn i=some b→j ∉ H1.map (fun x=>sg k A x.1)→j ∉ H0.map (fun x=>sg k A x.1)→(S.ent j).held=true→βn j=some b→False:=fun i j h1 h2 h3 h4 h5 h6 h7=>by
      obtain ⟨a,ha,hb,_⟩:=hone i h1 h2 h3;obtain ⟨_,f2,f3⟩:=hold j h4 h5 h6 b (hto j h5 h6 h7)
      rcases hown1 a ha hb with h | h
      · omega
      · exact f3 h
     by_cases hi1:i∈H1.map (fun x=>sg k A x.1)
     · rw [Ao hi1] at hi
       by_cases hj1:j∈H1.map (fun x=>sg k A x.1)
       · rw [Ao hj1] at hj;obtain ⟨a,ha,hab,rfl,_⟩:=hone i hi1 hi hbi;obtain ⟨c,hc,hcb,rfl,_⟩:=hone j hj1 hj hbj;rw [hok.inj a c b ha hc hab hcb]
       · rw [Al hj1] at hj
         by_cases hj0:j∈H0.map (fun x=>sg k A x.1)
         · rw [Ao hj0] at hj; cases hj
         · rw [Al hj0] at hj;exact (hmix i j hi1 hi hbi hj1 hj0 hj hbj).elim
     · rw [Al hi1] at hi
       by_cases hi0:i∈H0.map (fun x=>sg k A x.1)
       · rw [Ao hi0] at hi; cases hi
       · rw [Al hi0] at hi
         by_cases hj1:j∈H1.map (fun x=>sg k A x.1)
         · rw [Ao hj1] at hj;exact (hmix j i hj1 hj hbj hi1 hi0 hi hbi).elim
         · rw [Al hj1] at hj
           by_cases hj0:j∈H0.map (fun x=>sg k A x.1)
           · rw [Ao hj0] at hj; cases hj
           · rw [Al hj0] at hj;exact hr.h.inj i j b hi hj (hto i hi0 hi hbi) (hto j hj0 hj hbj) }
 · intro s;have hts:t<a.tmps.size:=hr.n ▸ ht
   by_cases hst:t=s
   · subst hst;have h1:=Rd.renp (p:=tU m A pf) (fun id b hid hb=>(hβ2 id hid).trans hb) hrd hrp;simpa [Act.put,Cf,Bo,aV,hts] using h1
   · have:=CA hle hβ1 (hr.sl s);simpa [Act.put,Cf,Bo,aV,hst,Bf] using this

theorem aDp{f:FuncId}{xs:List Am}{ts:Array At}{ds ds':List D}{r r':D}{H0 H1 U:List (Nat×Ent)}(k m:Nat)(A:List Nat)(pf:Nat→Bool)(ho:o.op = .call { callee:=.value (.func f),args:=xs.toArray,argTypes:=ts })(hd:o.dst=some t)(ht:t<N)(hc:bB P f)(hx:SVs S xs ds')(hds:BD (sg k A) ds=ds')(hp:AE (gvB A pf) ds=true)(hkm:AZ (k+m) 1000=true)(hfar:∀ E β a,Rel O N S E β a→∀ i,2000≤i→pf i=true→β i≠none)(hfr:∀ e∈(By m).map (fun j=>S.ent (k+j)),e = .fresh)(hh:HandF S k A pf H0)(hf:FnH P f ds H0 r H1)(hrr:r.ren (sg k A)=r')(hrp:r.refsIn (tU m A pf)=true)(hH1:∀ x∈H1,tU m A pf x.1=true∧x.2.refsIn (tU m A pf)=true)(hU:(H1.map fun x=>(sg k A x.1,x.2.ren (sg k A)))++(H0.map fun x=>(sg k A x.1,Ent.none))=U):IOp P O N o S ⟨(t,r')::S.sl,U++S.H⟩:=by
 have h:=aF4 (P:=P) (O:=O) (N:=N) (S:=S) (o:=o) (t:=t) (f:=f) (ds:=ds) (ds':=ds') (r:=r) (r':=r') (H0:=H0) (H1:=H1) (H2:=U++S.H) k m A pf hd ht (fun E β a hr=>⟨xs.map a.eval,by
  simp [execOp,ho,resolve,Deferred.ofValue,Act.eval,invoke,kB hc],hx.rd hr⟩) hds hp (Di hkm) hfar (fun j hj=>hfr _ (Ak.2 ⟨j,DT.2 hj,rfl⟩)) hh hf hrr hrp hH1 (by rw [←hU,aFg,AA])
 exact h
theorem frz_E(Sp:St)(sl2:List (Nat×D))(H2:List (Nat×Ent))(hp:∀ i,(Sp.ent i).held=true→Sp.ent i=S.ent i)(hsl:∀ s,FD Sp (S.get s) (look .dead s sl2))(h2:∀ i,entL H2 i = .none∨((Sp.ent i).held=false∧(entL H2 i=S.ent i∨∃ e ds ds',S.ent i = .blk e ds∧entL H2 i = .blk e ds'∧FDL Sp ds ds'))):Frz O N S ⟨sl2,H2⟩:=by
 intro E β a hr;have hents:aFj O E β Sp:=fun id e ds he=>by
  have h3:=hr.h.ent id;rw [←hp id (by rw [he]; rfl),he] at h3;exact h3
 have hle:=E.all_le β Sp;refine ⟨E.all β Sp,β,rfl,⟨hr.n,hr.nd,?_,fun s=>?_⟩⟩
 · exact {
    os:=hr.h.os,tape:=hr.h.tape,output:=hr.h.output,size:=hr.h.size,mbs:=hr.h.mbs,block:=hr.h.block
    xlt:=fun b o hb=>hr.h.xlt b o hb.1
    xold:=fun b o hb hf=>by
     have h3:=hr.h.xold b o hb hf;refine ⟨fun h4=>h3.1 h4.1,fun h4=>⟨h3.2 h4,fun ⟨i,hi,hbi⟩=>?_⟩⟩;have h5:=hr.h.own (j:=i) (by rw [←hp i hi]; exact hi) hbi
     rcases h5 with h5 | h5
     · omega
     · exact hf h5
    ent := fun id=>by
     rcases h2 id with h3 | ⟨h4,h3⟩
     · show qX O _ β id (entL H2 id); rw [h3]; trivial
     · show qX O _ β id (entL H2 id)
       have he:=hr.h.ent id;have hx:∀ b,(S.ent id).held=true→β id=some b→∀ o,E.X b o→(E.all β Sp).X b o:=fun b hh hb o ho=>⟨ho,fun ⟨i,hi,hbi⟩=>by
        have:=hr.h.inj id i b hh (by rw [←hp i hi]; exact hi) hb hbi;subst this;rw [h4] at hi; cases hi⟩
       rcases h3 with h3 | ⟨e,ds,ds',h3,h3',hf⟩
       case inr =>
        rw [h3'] ; rw [h3] at he hx
        rcases he with ⟨g1,g2⟩ | ⟨b,vs,sp,g1,g2,g3,g4,g5⟩
        · subst g2; cases hf; exact .inl ⟨g1,rfl⟩
        · exact .inr ⟨b,vs,sp,g1,g2,g3,fun o=>hx b rfl g1 o (g4 o),ES hents hf g5⟩
       rw [h3];cases hE:S.ent id with
       | none=>trivial
       | fresh=>rw [hE] at he; exact he
       | blk e ds =>
         rw [hE] at he hx
         rcases he with h5 | ⟨b,vs,sp,g1,g2,g3,g4,g5⟩
         · exact .inl h5
         · exact .inr ⟨b,vs,sp,g1,g2,g3,fun o=>hx b rfl g1 o (g4 o),AW hle (bY.le.refl _) g5⟩
       | tail e sz n =>
         rw [hE] at he hx
         rcases he with h5 | ⟨b,c,g1,g2,g3,g4⟩
         · exact .inl h5
         · exact .inr ⟨b,c,g1,g2,g3,fun o ho=>hx b rfl g1 o (g4 o ho)⟩
       | loop lk es st pe =>
         rw [hE] at he hx;obtain ⟨b,q,g1,g2,g3,g4,g5,g6,g7,g8,g9,g10⟩:=he;exact ⟨b,q,g1,g2,g3,fun o=>hx b rfl g1 o (g4 o),g5,g6,g7,g8,g9,g10.1,AW hle (bY.le.refl _) g10.2⟩
       | mp ks es =>
         rw [hE] at he hx;obtain ⟨b,q,cl,g1,g2,g3,g4,g5,g6⟩:=he;exact ⟨b,q,cl,g1,g2,g3,fun o=>hx b rfl g1 o (g4 o),g5,AW hle (bY.le.refl _) g6⟩
       | kept n es =>
         rw [hE] at he;exact ⟨AW hle (bY.le.refl _) he.1,he.2⟩
    inj:=fun i j b hi hj h3 h4=>by
     have key:∀ i,(entL H2 i).held=true→(S.ent i).held=true:=fun i hi=>by
      rcases h2 i with h5 | ⟨_,h5 | ⟨e,ds,ds',h5,h6,_⟩⟩
      · rw [h5] at hi; cases hi
      · rw [←h5]; exact hi
      · rw [h5]; rfl
     exact hr.h.inj i j b (key i hi) (key j hj) h3 h4
    le:=hr.h.le.trans hle
    tab:=hr.h.tab
    gid:=hr.h.gid
    given:=hr.h.given }
 · exact Rd.fdX hents (hsl s) (hr.sl s)
theorem aBc{c:Code}(Sp:St)(sl2:List (Nat×D))(H2:List (Nat×Ent))(hp:∀ i,(Sp.ent i).held=true→Sp.ent i=S.ent i)(hsl:∀ s,FD Sp (S.get s) (look .dead s sl2))(h2:∀ i,entL H2 i = .none∨((Sp.ent i).held=false∧(entL H2 i=S.ent i∨∃ e ds ds',S.ent i = .blk e ds∧entL H2 i = .blk e ds'∧FDL Sp ds ds')))(h:IWP P O N c ⟨sl2,H2⟩ Q):IWP P O N c S Q:=by
 intro E β a hr;obtain ⟨E2,β2,h3,h4⟩:=frz_E Sp sl2 H2 hp hsl h2 E β a hr;rw [←h3];exact h E2 β2 a h4
theorem aES{c:Code}(b id:Nat){T e:At}{ds ds' l:List D}(hb:S.ent b = .blk T ds)(hi:S.ent id = .blk e l)(hbi:b≠id)(hf:FDL ⟨[],[(id,.blk e l)]⟩ ds ds')(h:IWP P O N c ⟨S.sl,(b,.blk T ds')::(id,.none)::S.H⟩ Q):IWP P O N c S Q:=by
 have hne:∀ i,i≠id→BA ⟨[],[(id,.blk e l)]⟩ i=defE i:=fun i h1=>by
  show look _ _ _=_
  rw [aV,Al (Ne.symm h1)]; rfl
 have hnh:∀ i,i≠id→(BA ⟨[],[(id,.blk e l)]⟩ i).held=false:=fun i h1=>by
  rw [hne i h1]; unfold defE; split <;> rfl
 have hid:BA ⟨[],[(id,.blk e l)]⟩ id = .blk e l:=by
  show look _ _ _=_
  rw [aV,Ao rfl]
 refine aBc ⟨[],[(id,.blk e l)]⟩ S.sl ((b,.blk T ds')::(id,.none)::S.H) (fun i hh=>?_) (fun s=>.refl _) (fun i=>?_) h
 · by_cases h1:i=id
   · subst h1; rw [hid,hi]
   · rw [hnh i h1] at hh; cases hh
 · have e1:entL ((b,.blk T ds')::(id,.none)::S.H) i=if b=i then .blk T ds' else if id=i then .none else S.ent i:=by
    show look _ _ _=_
    rw [aV,aV]; rfl
   by_cases h1:b=i
   · subst h1;exact .inr ⟨hnh _ hbi,.inr ⟨T,ds,ds',hb,by rw [e1,Ao rfl],hf⟩⟩
   · by_cases h2:id=i
     · left; rw [e1,Al h1,Ao h2]
     · exact .inr ⟨hnh i (Ne.symm h2),.inl (by rw [e1,Al h1,Al h2])⟩
end
end Go.IL
open Bool renaming or_true → EP
open Go.IL.D renaming flat → Ac
open Go.IL.EntW renaming lst → FW
open List renaming map_append → Bq,map_congr_left → AF,map_id → CH,mem_append → AM,mem_iff_getElem? → Dk,mem_or_eq_of_mem_set → Ds,mem_singleton → BE,nodup_append → Cu,nodup_nil → Dc,set_cons_succ → Er,set_cons_zero → Fv
open Nat renaming le_add_right → Db
open Option renaming map_eq_some_iff → Cz
open Go Go.IL
namespace Go.Fn
inductive NC
 | far (j n:Nat)
 | fro (l:List aL)
def NC.d:NC→D
 | .far j n=>.osl j 3 n
 | .fro l=>.slice false (l.map aG.d)
def NC.ren(ρ:Nat→Nat):NC→NC
 | .far j n=>.far (ρ j) n
 | .fro l=>.fro l
def NC.ok(p:Nat→Bool):NC→Bool
 | .far j _=>p j
 | .fro _=>true
def eNG:Enc0 (Int×NC):=⟨fun x=>.agg [.int .i64 x.1,x.2.d],2,by decide,fun ⟨_,c⟩=>by cases c <;> exact ⟨rfl,rfl⟩⟩
theorem NC.d_ren(ρ:Nat→Nat)(c:NC):c.d.ren ρ=(c.ren ρ).d:=by
 cases c <;> rfl
theorem NC.d_ok{p:Nat→Bool}{c:NC}(h:c.ok p=true):c.d.refsIn p=true:=by
 cases c with
 | far=>exact h
 | fro=>rfl
theorem rW(x:Int×NC)(xs:List (Int×NC)):Ac ((x::xs).map eNG.d) = .int .i64 x.1::x.2.d::Ac (xs.map eNG.d):=rfl
def rnX(ρ:Nat→Nat)(xs:List (Int×NC)):List (Int×NC):=xs.map fun x=>(x.1,x.2.ren ρ)
theorem aGn{ρ:Nat→Nat}{xs ys:List (Int×NC)}:rnX ρ (xs++ys)=rnX ρ xs++rnX ρ ys:=Bq
theorem aBD{ρ:Nat→Nat}{xs:List (Int×NC)}{k:Nat}{x:Int×NC}:rnX ρ (xs.set k x)=(rnX ρ xs).set k (x.1,x.2.ren ρ):=List.map_set
theorem qL(ρ:Nat→Nat):∀ (xs:List (Int×NC)),BD ρ (Ac (xs.map eNG.d))=Ac ((rnX ρ xs).map eNG.d)
 | []=>rfl
 | x::xs=>by
   show _=Ac (((x.1,x.2.ren ρ)::rnX ρ xs).map eNG.d)
   rw [rW,rW,←qL ρ xs];simp only [BD,D.ren,NC.d_ren]
theorem sN{p:Nat→Bool}:∀ {xs:List (Int×NC)},(∀ x∈xs,x.2.ok p=true)→AE p (Ac (xs.map eNG.d))=true
 | [],_=>rfl
 | x::xs,h=>by
   rw [rW];simp only [AE,Av];exact ⟨rfl,NC.d_ok (h x (by simp)),sN fun y hy=>h y (by simp [hy])⟩
def nc(b:Nat)(l:List aL):NC:=if l.isEmpty then .fro [] else .far b l.length
def outX:Nat→List aH→List (Int×NC)
 | _,[]=>[]
 | b,g::gs=>(g.aa,nc b g.ab)::outX (b+1) gs
def eM(l:List aL):Ent:=.blk 26 (Ac (l.map aG.d))
def fe(b:Nat)(l:List aL):List (Nat×Ent):=if l.isEmpty then [] else [(b,eM l)]
def FAM:Nat→List aH→List (Nat×Ent)
 | _,[]=>[]
 | b,g::gs=>fe b g.ab++FAM (b+1) gs
theorem aFu{b:Nat}{l:List aL}(h:l≠[]):nc b l = .far b l.length:=by
 cases l with
 | nil=>exact Ay rfl h
 | cons=>rfl
theorem tE:∀ {b:Nat} {gs:List aH},(outX b gs).length=gs.length
 | _,[]=>rfl
 | b,g::gs=>by simp [outX,tE]
theorem vD:∀ {b:Nat} {gs:List aH} {k:Nat},(outX b gs)[k]? = gs[k]?.map fun g=>(g.aa,nc (b+k) g.ab)
 | _,[],_=>rfl
 | b,g::gs,0=>rfl
 | b,g::gs,k+1=>by
   show (outX (b+1) gs)[k]? = _
   rw [vD,show b+1+k=b+(k+1) by omega]; rfl
theorem aCt:∀ {b:Nat} {gs:List aH} {g:aH},outX b (gs++[g])=outX b gs++[(g.aa,nc (b+gs.length) g.ab)]
 | _,[],_=>rfl
 | b,x::gs,g=>by
   show (x.aa,nc b x.ab)::outX (b+1) (gs++[g])=_
   rw [aCt,show b+1+gs.length=b+(x::gs).length by simp; omega]; rfl
theorem aFC:∀ {b:Nat} {gs:List aH} {k:Nat} {g:aH},outX b (gs.set k g)=(outX b gs).set k (g.aa,nc (b+k) g.ab)
 | _,[],_,_=>rfl
 | b,x::gs,0,g=>rfl
 | b,x::gs,k+1,g=>by
   show (x.aa,nc b x.ab)::outX (b+1) (gs.set k g)=_
   rw [aFC,show b+1+k=b+(k+1) by omega]; rfl
theorem yY{b:Nat}{gs:List aH}{x:Int×NC}(h:x∈outX b gs):∃ k g,gs[k]? = some g∧x=(g.aa,nc (b+k) g.ab):=by
 obtain ⟨k,hk⟩:=Dk.1 h;rw [vD] at hk;obtain ⟨g,h1,h2⟩:=Cz.1 hk;exact ⟨k,g,h1,h2.symm⟩
theorem aBY:∀ {b:Nat} {gs:List aH} {x:Nat×Ent},x∈FAM b gs→∃ k g,gs[k]? = some g∧g.ab≠[]∧x=(b+k,eM g.ab)
 | _,[],_,h=>by cases h
 | b,g::gs,x,h=>by
   rcases AM.1 h with h | h
   · unfold fe at h;split at h
     · cases h
     · rename_i hn;refine ⟨0,g,rfl,fun e=>hn (by rw [e]; rfl),?_⟩;simpa using h
   · obtain ⟨k,g',h1,h2,h3⟩:=aBY h;exact ⟨k+1,g',h1,h2,by rw [h3]; congr 1; omega⟩
theorem wI{b:Nat}{gs:List aH}{x:Nat×Ent}(h:x∈FAM b gs):b≤x.1:=by
 obtain ⟨k,g,_,_,rfl⟩:=aBY h; exact Db _ _
theorem aCI:∀ (l:List aL),Df (Ac (l.map aG.d))=true
 | []=>rfl
 | x::l=>by
   show (Df ([.int .i64 x.ID,.int .i64 x.ae,.int .i64 x.ag]++Ac (l.map aG.d)))=true
   simp only [BW,Bp,Df,D.nomem,aCI l,Dm]
theorem flat_ne{l:List aL}(h:l≠[]):Ac (l.map aG.d)≠[]:=by
 cases l with
 | nil=>exact Ay rfl h
 | cons x l=>exact fun h=>by cases h
theorem sR{b:Nat}{gs:List aH}(hb:2000≤b):Far (FAM b gs):=fun x hx=>by
 obtain ⟨k,g,_,h2,rfl⟩:=aBY hx;exact ⟨by show 2000≤b+k; omega,26,_,rfl,aCI _,flat_ne h2⟩
theorem aGG{F G:List (Nat×Ent)}{i:Nat}(h:∀ x∈F,x.1≠i):entL (F++G) i=entL G i:=aCM h
theorem aJn{b:Nat}{l:List aL}{x:Nat×Ent}(h:x∈fe b l):x.1=b:=by
 unfold fe at h;split at h
 · cases h
 · simp only [BE] at h; rw [h]
theorem rN:∀ {b:Nat} {gs:List aH} {k:Nat} {g:aH},gs[k]? = some g→g.ab≠[]→entL (FAM b gs) (b+k)=eM g.ab
 | _,[],_,_,h,_=>by cases h
 | b,x::gs,0,g,h,hn=>by
   cases h
   show entL (fe b x.ab++FAM (b+1) gs) b=_
   unfold fe;rw [Al (by cases hx:x.ab with | nil=>exact Ay hx hn | cons=>exact Bool.false_ne_true)]
   show IL.look _ _ ((b,eM x.ab)::FAM (b+1) gs)=_
   rw [aV,Ao rfl]
 | b,x::gs,k+1,g,h,hn=>by
   show entL (fe b x.ab++FAM (b+1) gs) (b+(k+1))=_
   rw [aGG fun y hy=>by have:=aJn hy; omega,show b+(k+1)=b+1+k by omega];exact rN (b:=b+1) (gs:=gs) h hn
theorem aFi:∀ {b:Nat} {gs:List aH},((FAM b gs).map (·.1)).Nodup
 | _,[]=>Dc
 | b,g::gs=>by
   show ((fe b g.ab++FAM (b+1) gs).map (·.1)).Nodup
   rw [Bq,Cu];refine ⟨?_,aFi,fun i hi j hj=>?_⟩
   · unfold fe; split
     · exact Dc
     · simp
   · obtain ⟨x,hx,rfl⟩:=Ak.1 hi;obtain ⟨y,hy,rfl⟩:=Ak.1 hj;have:=aJn hx; have:=wI hy; omega
end Go.Fn
namespace Go.Fn
section
variable {O:bZ} {S S':St} {ρ:Nat→Nat}
def nearL(H:List (Nat×Ent)):Bool:=H.all fun x=>DS x.1 2000
theorem kH{H:List (Nat×Ent)}(h:nearL H=true):Near H:=fun x hx=>by
 have:=Bb.1 h x hx
 rwa [BQ] at this
theorem aDT{α:Type}{a:α}:∀ {xs:List α} {k:Nat},xs[k]? = some a→xs.set k a=xs
 | _::_,0,h=>by cases h; rfl
 | x::xs,k+1,h=>by rw [Er,aDT (xs:=xs) h]
theorem aIC{α:Type}{p:Nat→α→Prop}:∀ {l:List (Nat×α)},(∀ x∈l,p x.1 x.2)→AllW p l
 | [],_=>.nil
 | (i,a)::_,h=>.cons (h (i,a) (by simp)) (aIC fun x hx=>h x (by simp [hx]))
theorem wT{b:Nat}{gs:List aH}(h:∀ k g,gs[k]? = some g→g.ab≠[]→S.ent (ρ (b+k))=eM g.ab):AllW (EntW S S' ρ) (FAM b gs) :=
 aIC fun x hx=>by
  obtain ⟨k,g,h1,h2,rfl⟩:=aBY hx;exact FW (f:=aG) (h k g h1 h2)
theorem aAB{i:Nat}(h:1000≤i):S.okn i=true:=by
 unfold FJ;have:AZ 1000 i=true:=by rw [BX]; exact h
 rw [this,EP]
theorem aBS{b:Nat}{gs:List aH}(hb:1000≤b):AE S.okn (Ac ((outX b gs).map eNG.d))=true:=sN fun x hx=>by
 obtain ⟨k,g,_,rfl⟩:=yY hx
 show (nc (b+k) g.ab).ok _=true
 unfold nc; split
 · rfl
 · exact aAB (by omega)
theorem wL{b:Nat}{gs:List aH}(h:∀ k g,gs[k]? = some g→g.ab≠[]→ρ (b+k)=b+k):rnX ρ (outX b gs)=outX b gs:=by
 refine (AF fun x hx=>?_).trans (CH _);obtain ⟨k,g,h1,rfl⟩:=yY hx
 show (g.aa,(nc (b+k) g.ab).ren ρ)=_
 by_cases h2:g.ab=[]
 · rw [h2]; rfl
 · rw [aFu h2]; show (g.aa,NC.far (ρ (b+k)) _)=_; rw [h k g h1 h2]; rfl
theorem aEp{p:Int}{x y:NC}(h:Wk x.d y.d):∀ (xs:List (Int×NC)),WkL (Ac ((xs++[(p,x)]).map eNG.d)) (Ac ((xs++[(p,y)]).map eNG.d))
 | []=>.cons (Wk.refl _) (.cons h .nil)
 | z::xs=>by
   rw [BW,BW,rW,rW];exact .cons (Wk.refl _) (.cons (Wk.refl _) (aEp h xs))
theorem aIO{i:Nat}:Wk (NC.far i 0).d (NC.fro []).d:=fun E β v h=>by
 cases (show Rd E β v (.osl i 3 0) from h) with
 | osl=>exact .eslice _ _ _ false (fun h=>by cases h)
 | nosl=>exact .nslice _ _
theorem aGm{xs:List (Int×NC)}(hx:∀ x∈xs,x.2.ok (fun i=>AZ 1000 i)=true)(h:∀ i,1000≤i→ρ i=i):rnX ρ xs=xs:=by
 refine (AF fun x hm=>?_).trans (CH _);obtain ⟨p,c⟩:=x;cases c with
 | fro=>rfl
 | far j n =>
   have:=hx _ hm
   show (p,NC.far (ρ j) n)=_
   rw [h j (by have:AZ 1000 j=true:=this; rwa [BX] at this)]; rfl
theorem aCh{pr:Nat→Bool}{xs:List (Int×NC)}{k:Nat}{x:Int×NC}(hx:∀ x∈xs,x.2.ok pr=true)(h:x.2.ok pr=true):∀ y∈xs.set k x,y.2.ok pr=true:=fun y hy=>by
 rcases Ds hy with h1 | h1
 · exact hx y h1
 · rw [h1]; exact h
theorem aBT{p q:Nat→Bool}(h:∀ i,p i=true→q i=true){c:NC}(hc:c.ok p=true):c.ok q=true:=by
 cases c with
 | fro=>rfl
 | far j n=>exact h j hc
theorem aHr{Sp:St}{p:Int}{c c':NC}(h:FD Sp c.d c'.d):∀ {xs:List (Int×NC)} {k:Nat},xs[k]? = some (p,c)→FDL Sp (Ac (xs.map eNG.d)) (Ac ((xs.set k (p,c')).map eNG.d))
 | x::xs,0,hk=>by
   cases hk;rw [Fv,rW,rW];exact .cons (.refl _) (.cons h (uC _))
 | x::xs,k+1,hk=>by
   rw [Er,rW,rW];exact .cons (.refl _) (.cons (.refl _) (aHr h hk))
theorem fd_keep{Sp:St}{sl2:List (Nat×D)}(h:∀ x∈sl2,S.get x.1=x.2)(s:Nat):FD Sp (S.get s) (IL.look .dead s sl2):=by
 rcases qJ (z:=D.dead) (t:=s) (l:=sl2) with h1 | h1
 · rw [h1]; exact .dead _
 · have h2:=h _ h1;simp only at h2;rw [h2]; exact .refl _
theorem aCw{xs:List (Int×NC)}{k c n:Nat}{p:Int}{r:List aL}(hx:∀ x∈xs,x.2.ok (fun i=>AZ 1000 i)=true)(h0:S.ent 1000 = .blk 46 (Ac ((xs.set k (p,NC.far c n)).map eNG.d)))(h1:S.ent c=eM r)(hc:c≠1000) :
 Weak S ⟨[],[(1000,.blk 46 (Ac ((xs.set k (p,NC.far 0 n)).map eNG.d))),(0,eM r)]⟩ (fun i=>if i=0 then c else i):=by
 refine ⟨.nil,.cons (.blk h0 ?_ (sN ?_)) (.cons (FW (f:=aG) h1) .nil),?_,fun i hi=>Al (by omega)⟩
 · rw [qL,aBD,aGm hx fun i hi=>Al (by omega)]; rfl
 · refine aCh (fun x hm=>aBT (fun i hi=>aAB (by rwa [BX] at hi)) (hx x hm)) ?_;rfl
 · show [1000,c].Nodup
   simp [Ne.symm hc]
end
end Go.Fn
open List renaming Nodup → FF,ext_getElem? → FB,getElem?_map → CW,getElem?_set → FE,getElem?_set_ne → Az,getElem?_set_self → Aw,length_map → An,nodup_cons → Bl,pairwise_map → Bi
open Go Go.IL
namespace Go.Fn
section
variable {P:Ba} {O:bZ} {N:Nat} {S S':St} {ρ:Nat→Nat}
theorem zO{α:Type}{p:Nat→α→Prop}:∀ {l m:List (Nat×α)},AllW p l→AllW p m→AllW p (l++m)
 | _,_,.nil,h=>h
 | _,_,.cons h t,k=>.cons h (zO t k)
def rhoC(k c i:Nat):Nat:=bif AZ 2000 i then (if i=2000+k then c else i) else i
theorem aCl{k c i:Nat}(h:i<2000):rhoC k c i=i:=by
 unfold rhoC;have:AZ 2000 i=false:=by
  cases hb:AZ 2000 i with
  | false=>rfl
  | true=>rw [BX] at hb; omega
 rw [this]; rfl
theorem aBF{k c:Nat}:rhoC k c (2000+k)=c:=by
 unfold rhoC;have:AZ 2000 (2000+k)=true:=by rw [BX]; omega
 rw [this]; exact Ao rfl
theorem vW{k c i:Nat}(h:i≠2000+k):rhoC k c i=i:=by
 unfold rhoC;cases AZ 2000 i
 · rfl
 · exact Al h
def but(gs:List aH)(k:Nat)(p:Int):List aH:=gs.set k ⟨p,[]⟩
theorem aH4{gs:List aH}{k:Nat}{p:Int}{j:Nat}{g:aH}(h:(but gs k p)[j]? = some g)(hg:g.ab≠[]):j≠k∧gs[j]? = some g:=by
 unfold but at h
 by_cases hjk:k=j
 · subst hjk;rw [FE] at h;simp only [if_true] at h;split at h
   · cases h; exact Ay rfl hg
   · cases h
 · rw [Az hjk] at h;exact ⟨Ne.symm hjk,h⟩
theorem aEQ{Hn F:List (Nat×Ent)}(h:(Hn.map fun x=>ρ x.1).Nodup)(hF:(F.map fun x=>ρ x.1).Nodup)(hd:∀ x∈Hn,∀ y∈F,ρ x.1≠ρ y.1):((Hn++F).map fun x=>ρ x.1).Nodup:=by
 rw [Bq,Cu];refine ⟨h,hF,fun i hi j hj=>?_⟩;obtain ⟨x,hx,rfl⟩:=Ak.1 hi;obtain ⟨y,hy,rfl⟩:=Ak.1 hj;exact hd x hx y hy
theorem aHt{gs:List aH}(h:∀ i j,2000≤i→2000≤j→ρ i=ρ j→i=j):((FAM 2000 gs).map fun x=>ρ x.1).Nodup:=by
 have:=aFi (b:=2000) (gs:=gs);unfold FF at this ⊢;rw [Bi] at this ⊢;exact this.imp_of_mem fun {a b} ha hb hab he=>hab (h _ _ (wI ha) (wI hb) he)
theorem aI9{gs:List aH}{k:Nat}{g:aH}{Hn:List (Nat×Ent)}{sl:List (Nat×D)}(hn:Near Hn)(h:gs[k]? = some g)(hg:g.ab≠[]):De ⟨sl,Hn++FAM 2000 gs⟩ (2000+k)=true:=by
 unfold De;have:BA ⟨sl,Hn++FAM 2000 gs⟩ (2000+k)=eM g.ab:=(oU hn (by omega)).trans (rN h hg);rw [this]; rfl
theorem aI8{gs:List aH}{k:Nat}{g:aH}{Hn Hr:List (Nat×Ent)}{sl sl':List (Nat×D)}(hk:gs[k]? = some g)(hg:g.ab≠[])(hn:Near Hn)(h5:entL Hn 500 = .blk 46 (Ac ((outX 2000 gs).map eNG.d)))(hsl:AllW (SlW ⟨sl,Hn++FAM 2000 gs⟩ ⟨sl',((500,.blk 46 (Ac (((outX 2000 gs).set k (g.aa,NC.far 600 g.ab.length)).map eNG.d)))::(600,eM g.ab)::Hr)++FAM 2000 (but gs k g.aa)⟩ (fun i=>if i=600 then 2000+k else i)) sl')(hr:AllW (EntW ⟨sl,Hn++FAM 2000 gs⟩ ⟨sl',((500,.blk 46 (Ac (((outX 2000 gs).set k (g.aa,NC.far 600 g.ab.length)).map eNG.d)))::(600,eM g.ab)::Hr)++FAM 2000 (but gs k g.aa)⟩ (fun i=>if i=600 then 2000+k else i)) Hr)(hrn:(Hr.map (·.1)).all (fun i=>DS i 2000&&i != 600&&i != 500)=true)(hrd:(Hr.map (·.1)).Nodup) :
 aDL O ⟨sl,Hn++FAM 2000 gs⟩ ⟨sl',((500,.blk 46 (Ac (((outX 2000 gs).set k (g.aa,NC.far 600 g.ab.length)).map eNG.d)))::(600,eM g.ab)::Hr)++FAM 2000 (but gs k g.aa)⟩ (fun i=>if i=600 then 2000+k else i):=by
 have hrn':∀ x∈Hr,x.1<2000∧x.1≠600∧x.1≠500:=fun x hx=>by
  have:=Bb.1 hrn x.1 (Ak.2 ⟨x,hx,rfl⟩);simp only [Av,BQ,bne_iff_ne] at this;exact ⟨this.1.1,this.1.2,this.2⟩
 have hlen:=(Aj.1 hk).1;refine ⟨hsl,.cons (.blk (ds':=Ac ((outX 2000 gs).map eNG.d)) ?_ ?_ (sN ?_)) (.cons (FW (f:=aG) ?_) (zO hr (wT fun j (g':aH) h1 h2=>?_))),?_,fun i hi=>.inl (Al (by omega))⟩
 · show BA _ (if 500=600 then _ else 500)=_
   rw [Al (by omega)];exact (tS (sR (by decide)) (by omega)).trans h5
 · rw [qL,aBD,wL (ρ:=fun i=>if i=600 then 2000+k else i) fun j g _ _=>Al (by omega)];rw [aDT (by rw [vD,hk]; show some (g.aa,nc (2000+k) g.ab)=_; rw [aFu hg]; rfl)]
 · refine aCh (fun x hx=>?_) rfl;obtain ⟨j,g',_,rfl⟩:=yY hx
   show (nc (2000+j) g'.ab).ok _=true
   unfold nc; split
   · rfl
   · exact aAB (by omega)
 · show BA _ (if 600=600 then 2000+k else 600)=_
   rw [Ao rfl];exact (oU hn (by omega)).trans (rN hk hg)
 · obtain ⟨h3,h4⟩:=aH4 h1 h2
   show BA _ (if 2000+j=600 then _ else 2000+j)=_
   rw [Al (by omega)];exact (oU hn (by omega)).trans (rN h4 h2)
 · refine aEQ (ρ:=fun i=>if i=600 then 2000+k else i) ?_ (aHt (ρ:=fun i=>if i=600 then 2000+k else i) fun i j hi hj h=>?_) fun x hx y hy=>?_
   · have hm:(Hr.map fun x=>if x.1=600 then 2000+k else x.1)=Hr.map (·.1):=AF fun x hx=>Al (hrn' x hx).2.1
     show (500::(2000+k)::(Hr.map fun x=>if x.1=600 then 2000+k else x.1)).Nodup
     rw [hm,Bl,Bl];refine ⟨fun h=>?_,fun h=>?_,hrd⟩
     · rcases Au.1 h with h | h
       · omega
       · obtain ⟨x,hx,he⟩:=Ak.1 h;exact (hrn' x hx).2.2 he
     · obtain ⟨x,hx,he⟩:=Ak.1 h;have:=(hrn' x hx).1; omega
   · rw [Al (by omega),Al (by omega)] at h; exact h
   · obtain ⟨j,g',h1,h2,rfl⟩:=aBY hy;have h3:=(aH4 h1 h2).1
     show (if x.1=600 then 2000+k else x.1)≠if 2000+j=600 then 2000+k else 2000+j
     rw [Al (show ¬2000+j=600 by omega)]
     rcases Au.1 hx with rfl | hx
     · show (if 500=600 then _ else 500)≠_
       rw [Al (by omega)]; omega
     rcases Au.1 hx with rfl | hx
     · show (if 600=600 then _ else 600)≠_
       rw [Ao rfl]; omega
     · have:=hrn' x hx;rw [Al this.2.1]; omega
theorem aHu{gs:List aH}{k n:Nat}{p:Int}{mem:List aL}{Hn Hr:List (Nat×Ent)}{sl sl':List (Nat×D)}(hk:k<gs.length)(hm:mem≠[])(hn:Near Hn)(hl:mem.length=n)(hO:O.given (2000+k)=none)(h5:entL Hn 500 = .blk 46 (Ac (((outX 2000 gs).set k (p,NC.far 601 n)).map eNG.d)))(h6:entL Hn 601=eM mem)(hsl:AllW (SlW ⟨sl,Hn++FAM 2000 (but gs k p)⟩ ⟨sl',((500,.blk 46 (Ac ((outX 2000 (gs.set k ⟨p,mem⟩)).map eNG.d)))::Hr)++FAM 2000 (gs.set k ⟨p,mem⟩)⟩ (rhoC k 601)) sl')(hr:AllW (EntW ⟨sl,Hn++FAM 2000 (but gs k p)⟩ ⟨sl',((500,.blk 46 (Ac ((outX 2000 (gs.set k ⟨p,mem⟩)).map eNG.d)))::Hr)++FAM 2000 (gs.set k ⟨p,mem⟩)⟩ (rhoC k 601)) Hr)(hrn:(Hr.map (·.1)).all (fun i=>DS i 2000&&i != 601&&i != 500)=true)(hrd:(Hr.map (·.1)).Nodup) :
 aDL O ⟨sl,Hn++FAM 2000 (but gs k p)⟩ ⟨sl',((500,.blk 46 (Ac ((outX 2000 (gs.set k ⟨p,mem⟩)).map eNG.d)))::Hr)++FAM 2000 (gs.set k ⟨p,mem⟩)⟩ (rhoC k 601):=by
 have hrn':∀ x∈Hr,x.1<2000∧x.1≠601∧x.1≠500:=fun x hx=>by
  have:=Bb.1 hrn x.1 (Ak.2 ⟨x,hx,rfl⟩);simp only [Av,BQ,bne_iff_ne] at this;exact ⟨this.1.1,this.1.2,this.2⟩
 have hnear:Near ((500,Ent.blk 46 (Ac ((outX 2000 (gs.set k ⟨p,mem⟩)).map eNG.d)))::Hr):=fun x hx=>by
  rcases Au.1 hx with rfl | hx
  · show 500<2000; omega
  · exact (hrn' x hx).1
 refine ⟨hsl,.cons (.blk (ds':=Ac (((outX 2000 gs).set k (p,NC.far 601 n)).map eNG.d)) ?_ ?_ (aBS (by decide))) (zO hr (wT fun j (g':aH) h1 h2=>?_)),?_,fun i hi=>?_⟩
 · rw [aCl (by omega)];exact (tS (sR (by decide)) (by omega)).trans h5
 · rw [qL,aFC,aBD,aFu hm]
   show _=Ac (((rnX (rhoC k 601) (outX 2000 gs)).set k (p,NC.far (rhoC k 601 (2000+k)) mem.length)).map eNG.d)
   rw [aBF,hl]
   congr 2
   refine FB fun j=>?_
   by_cases hj:k=j
   · subst hj;rw [Aw (by rw [tE]; exact hk),Aw (by unfold rnX; rw [An,tE]; exact hk)]
   · rw [Az hj,Az hj];unfold rnX;rw [CW,vD];cases gs[j]? with
     | none=>rfl
     | some g =>
       show some (g.aa,nc (2000+j) g.ab)=some (g.aa,(nc (2000+j) g.ab).ren (rhoC k 601))
       by_cases h2:g.ab=[]
       · rw [h2]; rfl
       · rw [aFu h2]; show _=some (g.aa,NC.far (rhoC k 601 (2000+j)) _)
         rw [vW (by omega)]
 · by_cases hj:k=j
   · subst hj;rw [Aw hk] at h1;cases h1;rw [aBF];exact (tS (sR (by decide)) (by omega)).trans h6
   · rw [Az hj] at h1;rw [vW (by omega)];refine (oU hn (by omega)).trans (rN ?_ h2);unfold but; rw [Az hj]; exact h1
 · refine aEQ ?_ (aHt fun i j hi hj h=>?_) fun x hx y hy=>?_
   · have hmm:(Hr.map fun x=>rhoC k 601 x.1)=Hr.map (·.1):=AF fun x hx=>aCl (hrn' x hx).1
     show (rhoC k 601 500::(Hr.map fun x=>rhoC k 601 x.1)).Nodup
     rw [hmm,aCl (by omega),Bl];refine ⟨fun h=>?_,hrd⟩;obtain ⟨x,hx,he⟩:=Ak.1 h;exact (hrn' x hx).2.2 he
   · by_cases h1:i=2000+k <;> by_cases h2:j=2000+k
     · omega
     · rw [h1,aBF,vW h2] at h; omega
     · rw [h2,aBF,vW h1] at h; omega
     · rw [vW h1,vW h2] at h; exact h
   · have h3:=hnear x hx;rw [aCl h3];have h4:=wI hy;have h5':x.1≠601:=by
      rcases Au.1 hx with rfl | hx
      · show 500≠601; omega
      · exact (hrn' x hx).2.1
     by_cases h1:y.1=2000+k
     · rw [h1,aBF]; exact h5'
     · rw [vW h1]; omega
 · by_cases h1:i=2000+k
   · right; subst h1;exact ⟨aI9 (g:=⟨p,mem⟩) hnear (by rw [Aw hk]) hm,hO⟩
   · left; exact vW h1
end
end Go.Fn
open Bool renaming and_true → Cn,true_and → BF
open Go.IL.D renaming refsInL_mono → Cl
open Go.IL.Ent renaming ren → Bh
open List renaming any_eq_true → Bv,forall_mem_cons → Aa,forall_mem_nil → Ab,getElem?_append_right → Bx,getElem_singleton → EM,length → Em,length_set → Bz,length_singleton → BN,map_nil → Aq,set_set → Es
open _root_ renaming congrArg → AH
set_option maxRecDepth 8000
open Go Go.IL
namespace Go.Fn
section
variable {P:Ba} {O:bZ} {N:Nat} {S S':St} {ρ:Nat→Nat} {o:Oper} {t:Nat} {Q:Exit→St→Prop}
theorem aGq{E:Env}{β:bY}{v:Value}{j s n:Nat}(h:Rd E β v (.osl j s n))(hn:n≠0):β j≠none:=by
 cases h with
 | osl =>
   rename_i hb _ _ _ _;intro h0;simp_all
 | nosl=>exact Ay rfl hn
theorem aJY{E:Env}{β:bY}{j n:Nat}{p:Int}(hn:n≠0):∀ (xs:List (Int×NC)) (vs:List AG),RdL E β vs (Ac (xs.map eNG.d))→(p,NC.far j n)∈xs→β j≠none
 | [],_,_,h=>by cases h
 | x::xs,[],hv,h=>by rw [rW] at hv; cases hv
 | x::xs,[_],hv,h=>by rw [rW] at hv; cases hv with | cons h1 hv=>cases hv
 | x :: xs,v::w::vs,hv,h=>by
   rw [rW] at hv;cases hv with
   | cons h1 hv =>
     cases hv with
     | cons h2 hv =>
       rcases Au.1 h with h | h
       · exact aGq (v:=w) (s:=3) (n:=n) (by rw [←h] at h2; exact h2) hn
       · exact aJY hn xs vs hv h
theorem aJo{E:Env}{β:bY}{a:Act}(hr:Rel O N S E β a){xs:List (Int×NC)}(h5:S.ent 500 = .blk 46 (Ac (xs.map eNG.d))){p:Int}{j n:Nat}(h:(p,NC.far j n)∈xs)(hn:n≠0):β j≠none:=by
 have he:=hr.h.ent 500;rw [h5] at he
 rcases he with ⟨_,h2⟩ | ⟨b,vs,sp,_,_,_,_,h6⟩
 · cases xs with
   | nil=>cases h
   | cons x xs=>rw [rW] at h2; cases h2
 · exact aJY hn _ _ h6 h
def isFar(i:Nat):NC→Bool
 | .far j n=>Nat.beq j i && !Nat.beq n 0
 | .fro _=>false
def pfar(xs:List (Int×NC))(i:Nat):Bool:=xs.any fun x=>isFar i x.2
theorem aEK{xs:List (Int×NC)}{p:Int}{j n:Nat}(h:(p,NC.far j n)∈xs)(hn:n≠0):pfar xs j=true:=by
 refine Bv.2 ⟨_,h,?_⟩
 show (Nat.beq j j && !Nat.beq n 0)=true
 rw [Nat.beq_refl];cases n with
 | zero=>exact Ay rfl hn
 | succ=>rfl
theorem aE7{xs:List (Int×NC)}{i:Nat}(h:pfar xs i=true):∃ p n,(p,NC.far i n)∈xs∧n≠0:=by
 obtain ⟨⟨p,c⟩,h1,h2⟩:=Bv.1 h;cases c with
 | fro=>cases h2
 | far j n =>
   have h3:(Nat.beq j i && !Nat.beq n 0)=true:=h2;rw [Av,Nat.beq_eq] at h3;refine ⟨p,n,h3.1 ▸ h1,fun h4=>?_⟩;rw [h4] at h3; cases h3.2
def eX(xs:List (Int×NC)):Ent:=.blk 46 (Ac (xs.map eNG.d))
theorem aHO{f:FuncId}{ops:List Am}{ts:Array At}{ds:List D}{ys zs:List (Int×NC)}{m0 m1:List aL}(off:Nat)(ho:o.op = .call { callee:=.value (.func f),args:=ops.toArray,argTypes:=ts })(hd:o.dst=some t)(ht:t<N)(hc:bB P f)(hx:SVs S ops (.ref 500 off::ds))(hds:BD (sg 601 [500,600]) ds=ds)(hp:AE noRef ds=true)(h5:S.ent 500=eX (rnX (sg 601 [500,600]) ys))(h6:S.ent 600=eM m0)(h7:S.ent 601 = .fresh)(hy:∀ p j n,(p,NC.far j n)∈ys→j=1001∨(2000≤j∧n≠0))(hz:∀ p j n,(p,NC.far j n)∈zs→j=0∨(2000≤j∧pfar ys j=true))(hf:FnH P f (.ref 1000 off::ds) [(1000,eX ys),(1001,eM m0)] (retD []) [(1000,eX zs),(0,eM m1)]) :
 IOp P O N o S ⟨(t,retD [])::S.sl,[(500,eX (rnX (sg 601 [500,600]) zs)),(601,eM m1),(500,.none),(600,.none)]++S.H⟩:=by
 refine aDp (H0:=[(1000,eX ys),(1001,eM m0)]) (H1:=[(1000,eX zs),(0,eM m1)]) 601 1 [500,600] (pfar ys) ho hd ht hc hx (by rw [←hds]; show _::BD _ (BD _ ds)=_; rw [hds,hds]; rfl) ?_ rfl (fun E β a hr i hi hpf=>?_) (Aa.2 ⟨h7,Ab _⟩) ⟨by decide,by decide,by decide,rfl,Aa.2 ⟨⟨rfl,rfl,?_,(?_:AE _ (Ac (ys.map eNG.d))=true)⟩,Aa.2 ⟨⟨rfl,rfl,?_,?_⟩,Ab _⟩⟩⟩ hf rfl rfl
  (Aa.2 ⟨⟨rfl,(?_:AE _ (Ac (zs.map eNG.d))=true)⟩,Aa.2 ⟨⟨rfl,?_⟩,Ab _⟩⟩) ?_
 · show (gvB _ _ 1000&&AE _ ds)=true
   rw [show gvB [500,600] (pfar ys) 1000=true from rfl,BF];exact Cl ds hp
 · obtain ⟨p,n,h1,h2⟩:=aE7 hpf;refine aJo hr h5 (p:=p) (n:=n) ?_ h2;refine Ak.2 ⟨_,h1,?_⟩
   show (p,NC.far (sg 601 [500,600] i) n)=_
   rw [aCg hi]
 · exact h5.trans (by show _=Ent.blk 46 (BD _ _); rw [qL]; rfl)
 · refine sN ?_;rintro ⟨p,c⟩ hm;cases c with
   | fro=>rfl
   | far j n =>
     rcases hy p j n hm with h1 | h1
     · subst h1; rfl
     · exact aDw ⟨h1.1,aEK hm h1.2⟩
 · exact h6.trans (by show _=Ent.blk 26 (BD _ _); rw [bX aG]; rfl)
 · exact cC aG
 · refine sN ?_;rintro ⟨p,c⟩ hm;cases c with
   | fro=>rfl
   | far j n =>
     rcases hz p j n hm with h1 | h1
     · subst h1; rfl
     · show tU _ _ _ j=true
       unfold tU; rw [aDw h1,EP]
 · exact cC aG
 · simp only [Ai,Aq,eX,eM,Bh,qL,bX]; rfl
theorem aF0{f:FuncId}{ops:List Am}{ts:Array At}{ds:List D}{ys:List (Int×NC)}(off:Nat)(ho:o.op = .call { callee:=.value (.func f),args:=ops.toArray,argTypes:=ts })(hd:o.dst=some t)(ht:t<N)(hc:bB P f)(hx:SVs S ops (.ref 500 off::ds))(hds:BD (sg 601 [500]) ds=ds)(hp:AE noRef ds=true)(h5:S.ent 500=eX ys)(hy:∀ p j n,(p,NC.far j n)∈ys→2000≤j∧n≠0)(hf:FnH P f (.ref 1000 off::ds) [(1000,eX ys)] (retD []) [(1000,eX ys)]) :
 IOp P O N o S ⟨(t,retD [])::S.sl,[(500,eX ys),(500,.none)]++S.H⟩:=by
 have hren:rnX (sg 601 [500]) ys=ys:=by
  refine (AF fun x hm=>?_).trans (CH _);obtain ⟨p,c⟩:=x;cases c with
  | fro=>rfl
  | far j n=>show (p,NC.far (sg 601 [500] j) n)=_; rw [aCg (hy p j n hm).1]; rfl
 have hrefs:∀ {x:Int×NC},x∈ys→x.2.ok (gvB [500] (pfar ys))=true:=fun {x} hm=>by
  obtain ⟨p,c⟩:=x;cases c with
  | fro=>rfl
  | far j n=>exact aDw ⟨(hy p j n hm).1,aEK hm (hy p j n hm).2⟩
 refine aDp (H0:=[(1000,eX ys)]) (H1:=[(1000,eX ys)]) 601 0 [500] (pfar ys) ho hd ht hc hx (by rw [←hds]; show _::BD _ (BD _ ds)=_; rw [hds,hds]; rfl) ?_ rfl (fun E β a hr i hi hpf=>?_) (Ab _) ⟨by decide,by decide,by decide,rfl,Aa.2 ⟨⟨rfl,rfl,?_,(sN (xs:=ys) fun x hm=>hrefs hm:AE _ (Ac (ys.map eNG.d))=true)⟩,Ab _⟩⟩ hf rfl rfl
  (Aa.2 ⟨⟨rfl,(sN (xs:=ys) fun x hm=>aBT (fun i hi=>by unfold tU; rw [hi,EP]) (hrefs hm):AE _ (Ac (ys.map eNG.d))=true)⟩,Ab _⟩) ?_
 · show (gvB _ _ 1000&&AE _ ds)=true
   rw [show gvB [500] (pfar ys) 1000=true from rfl,BF];exact Cl ds hp
 · obtain ⟨p,n,h1,h2⟩:=aE7 hpf;exact aJo hr h5 h1 h2
 · exact h5.trans (by show _=Ent.blk 46 (BD _ _); rw [qL,hren]; rfl)
 · simp only [Ai,Aq,eX,Bh,qL,hren]; rfl
theorem aHs{Sp:St}:∀ {b:Nat} {gs:List aH},(∀ k g,gs[k]? = some g→g.ab≠[]→Sp.ent (b+k)=eM g.ab)→FDL Sp (Ac ((outX b gs).map eNG.d)) (Ac (gs.map aB.d))
 | _,[],_=>.nil
 | b,g::gs,h=>by
   show FDL Sp (.int .i64 g.aa::(nc b g.ab).d::Ac ((outX (b+1) gs).map eNG.d)) (.int .i64 g.aa :: .slice false (g.ab.map aG.d)::Ac (gs.map aB.d))
   refine .cons (.refl _) (.cons ?_ (aHs fun k g' h1 h2=>?_))
   · by_cases hg:g.ab=[]
     · rw [hg]; exact .refl _
     · rw [aFu hg];exact FDT aG (h 0 g rfl hg) rfl
   · rw [show b+1+k=b+(k+1) by omega]; exact h (k+1) g' h1 h2
theorem aD2{Sp:St}{gs:List aH}{n:Nat}(hn:gs.length=n)(h5:Sp.ent 500 = .blk 46 (Ac ((outX 2000 gs).map eNG.d)))(h:∀ i,2000≤i→Sp.ent i=entL (FAM 2000 gs) i) :
 FD Sp (.osl 500 2 n) (.slice false (gs.map aB.d)) :=
 .osln h5 (by rw [An,hn]) (aB.len gs) (aHs fun k g h1 h2=>(h _ (by omega)).trans (rN h1 h2)) (aB.noRef gs)
theorem aEg{gs:List aH}{Hn:List (Nat×Ent)}{sl:List (Nat×D)}{s n:Nat}(hn:Near Hn)(h5:entL Hn 500 = .blk 46 (Ac ((outX 2000 gs).map eNG.d)))(hl:gs.length=n)(hs:IL.look .dead s sl = .osl 500 2 n) :
 Frz O N ⟨sl,Hn++FAM 2000 gs⟩ ⟨[(s,.slice false (gs.map aB.d))],(500,.none)::Hn⟩:=by
 have hne:∀ i,i≠500→i<2000→BA ⟨[],[(500,.blk 46 (Ac ((outX 2000 gs).map eNG.d)))]++FAM 2000 gs⟩ i=defE i:=fun i h1 h2=>by
  refine (tS (sR (by decide)) h2).trans ?_
  show IL.look (defE i) _ _=_
  rw [aV,Al (Ne.symm h1)]; rfl
 have hlo:Near [(500,Ent.blk 46 (Ac ((outX 2000 gs).map eNG.d)))]:=kH rfl;refine frz_E ⟨[],[(500,.blk 46 (Ac ((outX 2000 gs).map eNG.d)))]++FAM 2000 gs⟩ _ _ (fun i hi=>?_) (fun x=>?_) fun i=>?_
 · rcases Ck i 2000 with h1 | h1
   · by_cases h2:i=500
     · subst h2;exact Eq.symm ((tS (sR (by decide)) h1).trans h5)
     · rw [hne i h2 h1] at hi; unfold defE at hi; split at hi <;> cases hi
   · exact (oU hlo h1).trans (oU hn h1).symm
 · show FD _ _ (IL.look _ _ _)
   rw [aV]
   by_cases hx:s=x
   · subst hx;rw [Ao rfl]
     show FD _ (IL.look _ _ _) _
     rw [hs];exact aD2 hl rfl fun i hi=>oU hlo hi
   · rw [Al hx]; exact .dead _
 · by_cases h2:i=500
   · left; subst h2; rfl
   · have h3:entL ((500,Ent.none)::Hn) i=entL Hn i:=by
      show IL.look _ _ _=_
      rw [aV,Al (Ne.symm h2)]; rfl
     rcases Ck i 2000 with h1 | h1
     · right;refine ⟨by rw [hne i h2 h1]; unfold defE; split <;> rfl,.inl ?_⟩;rw [h3]; exact (tS (sR (by decide)) h1).symm
     · left; rw [h3]; exact aHy hn h1
theorem aCT{gs:List aH}{Hn:List (Nat×Ent)}{sl:List (Nat×D)}(hF:∀ i,2000≤i→S.ent i=entL (FAM 2000 gs) i)(hsl:AllW (SlW S ⟨sl,Hn++FAM 2000 gs⟩ (fun i=>i)) sl)(hr:AllW (EntW S ⟨sl,Hn++FAM 2000 gs⟩ (fun i=>i)) Hn)(hn:Near Hn)(hd:(Hn.map (·.1)).Nodup):aDL O S ⟨sl,Hn++FAM 2000 gs⟩ (fun i=>i) :=
 ⟨hsl,zO hr (wT fun k (g:aH) h1 h2=>(hF _ (by omega)).trans (rN h1 h2)),aEQ (ρ:=fun i=>i) hd (aHt (ρ:=fun i=>i) fun i j _ _ h=>h) fun x hx y hy=>by have:=hn x hx; have:=wI hy; omega,fun i hi=>.inl rfl⟩
theorem zL{b:Nat}{gs:List aH}{id:Nat}(hb:1000≤b)(hρ:∀ i,b≤i→ρ i=i)(h:S.ent (ρ id) = .blk 46 (Ac ((outX b gs).map eNG.d))):EntW S S' ρ id (.blk 46 (Ac ((outX b gs).map eNG.d))) :=
 .blk h (by rw [qL,wL fun k g _ _=>hρ _ (by omega)]) (aBS hb)
theorem aCL{α:Type}{xs:List α}{k:Nat}{y x:α}(h:x∈xs.set k y):x=y∨∃ j,j≠k∧xs[j]? = some x:=by
 obtain ⟨j,hj⟩:=Dk.1 h
 by_cases hjk:k=j
 · subst hjk;rw [FE] at hj;simp only [if_true] at hj;split at hj
   · exact .inl (Option.some.inj hj).symm
   · cases hj
 · rw [Az hjk] at hj;exact .inr ⟨j,Ne.symm hjk,hj⟩
theorem aCs{b:Nat}{gs:List aH}{i:Nat}{p:Int}{j n:Nat}(h:(outX b gs)[i]? = some (p,NC.far j n)):j=b+i∧n≠0:=by
 rw [vD] at h;obtain ⟨g,h1,h2⟩:=Cz.1 h;unfold nc at h2;split at h2
 · cases h2
 · rename_i hne;cases h2;refine ⟨rfl,fun h0=>hne ?_⟩;rw [List.isEmpty_iff]; exact AV.1 h0
theorem aGl{gs:List aH}{A:List Nat}{q:Nat}:rnX (sg q A) (outX 2000 gs)=outX 2000 gs:=wL fun k g _ _=>aCg (by omega)
theorem aHP{f:FuncId}{ops:List Am}{ts:Array At}{ds:List D}{gs:List aH}{k n':Nat}{g:aH}{m1:List aL}(off:Nat)(ho:o.op = .call { callee:=.value (.func f),args:=ops.toArray,argTypes:=ts })(hd:o.dst=some t)(ht:t<N)(hc:bB P f)(hx:SVs S ops (.ref 500 off::ds))(hds:BD (sg 601 [500,600]) ds=ds)(hp:AE noRef ds=true)(hk:k<gs.length)(h5:S.ent 500 = .blk 46 (Ac (((outX 2000 gs).set k (g.aa,NC.far 600 g.ab.length)).map eNG.d)))(h6:S.ent 600=eM g.ab)(h7:S.ent 601 = .fresh)(hf:FnH P f (.ref 1000 off::ds) [(1000,.blk 46 (Ac (((outX 2000 gs).set k (g.aa,NC.far 1001 g.ab.length)).map eNG.d))),(1001,eM g.ab)] (retD []) [(1000,.blk 46 (Ac ((((outX 2000 gs).set k (g.aa,NC.far 1001 g.ab.length)).set k (g.aa,NC.far 0 n')).map eNG.d))),(0,eM m1)]) :
 IOp P O N o S ⟨(t,retD [])::S.sl,[(500,.blk 46 (Ac (((outX 2000 gs).set k (g.aa,NC.far 601 n')).map eNG.d))),(601,eM m1),(500,.none),(600,.none)]++S.H⟩:=by
 have e1:rnX (sg 601 [500,600]) ((outX 2000 gs).set k (g.aa,NC.far 1001 g.ab.length))=(outX 2000 gs).set k (g.aa,NC.far 600 g.ab.length):=by
  rw [aBD,aGl]; rfl
 have e2:rnX (sg 601 [500,600]) (((outX 2000 gs).set k (g.aa,NC.far 1001 g.ab.length)).set k (g.aa,NC.far 0 n'))=(outX 2000 gs).set k (g.aa,NC.far 601 n'):=by
  rw [Es,aBD,aGl]; rfl
 have h:=aHO (O:=O) (N:=N) (S:=S) (ys:=(outX 2000 gs).set k (g.aa,NC.far 1001 g.ab.length)) (zs:=((outX 2000 gs).set k (g.aa,NC.far 1001 g.ab.length)).set k (g.aa,NC.far 0 n')) (m0:=g.ab) (m1:=m1) off ho hd ht hc hx hds hp (by rw [e1]; exact h5) h6 h7 (fun p j n hm=>?_) (fun p j n hm=>?_) hf
 · rw [e2] at h; exact h
 · rcases aCL hm with h1 | ⟨i,h1,h2⟩
   · cases h1; exact .inl rfl
   · have:=aCs h2;exact .inr ⟨by omega,this.2⟩
 · rw [Es] at hm
   rcases aCL hm with h1 | ⟨i,h1,h2⟩
   · cases h1; exact .inl rfl
   · have:=aCs h2;refine .inr ⟨by omega,aEK (p:=p) (n:=n) ?_ this.2⟩;refine Dk.2 ⟨i,?_⟩;rw [Az (Ne.symm h1)]; exact h2
theorem aFU{b:Nat}{gs:List aH}{i:Int}{g:aH}(h:gix gs i=some g):gix (outX b gs) i=some (g.aa,nc (b+i.toNat) g.ab):=by
 obtain ⟨h1,h2⟩:=xC h;unfold gix;rw [Ao h1,vD,h2]; rfl
theorem mem_far{b:Nat}{gs:List aH}{p:Int}{j n:Nat}(h:(p,NC.far j n)∈outX b gs):b≤j∧n≠0:=by
 obtain ⟨i,hi⟩:=Dk.1 h;have:=aCs hi;exact ⟨by omega,this.2⟩
theorem aCr{gs:List aH}:∀ x∈outX 2000 gs,x.2.ok (fun i=>AZ 1000 i)=true:=fun x hx=>by
 obtain ⟨k,g,_,rfl⟩:=yY hx
 show (nc (2000+k) g.ab).ok _=true
 unfold nc; split
 · rfl
 · show AZ 1000 (2000+k)=true
   rw [BX]; omega
theorem aHk{Hn:List (Nat×Ent)}{sl:List (Nat×D)}{gs:List aH}{i:Nat}(h:(entL Hn i = .fresh)∧DS i 2000=true):BA ⟨sl,Hn++FAM 2000 gs⟩ i = .fresh :=
 (tS (sR (by decide)) (by have:=h.2; rwa [BQ] at this)).trans h.1
theorem rnX_id'{xs:List (Int×NC)}(h:∀ i,ρ i=i):rnX ρ xs=xs:=by
 refine (AF fun x hm=>?_).trans (CH _);obtain ⟨p,c⟩:=x;cases c with
 | fro=>rfl
 | far j n=>show (p,NC.far (ρ j) n)=_; rw [h j]; rfl
theorem aIZ{gs:List aH}{k c n:Nat}{p:Int}(h:S.okn c=true):AE S.okn (Ac (((outX 2000 gs).set k (p,NC.far c n)).map eNG.d))=true :=
 sN (aCh (fun x hm=>aBT (fun i hi=>aAB (by rwa [BX] at hi)) (aCr x hm)) h)
end
set_option maxHeartbeats 2000000
theorem aIf{O:bZ}(hO:O.given=β0){S:St}{v7:List aH}{p:Int}{mem:List aL}{sl:List (Nat×D)}(h24:S.ent 24 = .blk 46 (Ac ((outX 2000 v7++[(p,NC.far 25 mem.length)]).map eNG.d)))(h25:S.ent 25=eM mem)(hF:∀ i,2000≤i→S.ent i=entL (FAM 2000 v7) i)(hsl:∀ ρ:Nat→Nat,ρ 21=24→AllW (SlW S ⟨sl,(21,.blk 46 (Ac ((outX 2000 (v7++[⟨p,mem⟩])).map eNG.d)))::FAM 2000 (v7++[⟨p,mem⟩])⟩ ρ) sl) :
 ∃ ρ,aDL O S ⟨sl,(21,.blk 46 (Ac ((outX 2000 (v7++[⟨p,mem⟩])).map eNG.d)))::FAM 2000 (v7++[⟨p,mem⟩])⟩ ρ:=by
 have hnd:∀ ρ:Nat→Nat,ρ 21=24→(∀ x∈FAM 2000 (v7++[⟨p,mem⟩]),ρ x.1≠24)→(∀ i j,2000≤i→2000≤j→ρ i=ρ j→i=j) →
  (((21,Ent.blk 46 (Ac ((outX 2000 (v7++[⟨p,mem⟩])).map eNG.d)))::FAM 2000 (v7++[⟨p,mem⟩])).map fun x=>ρ x.1).Nodup:=fun ρ h1 h2 h3=>by
  rw [Ai,Bl];refine ⟨fun hm=>?_,?_⟩
  · obtain ⟨x,hx,he⟩:=Ak.1 hm;exact h2 x hx (he.trans h1)
  · have:=aFi (b:=2000) (gs:=v7++[⟨p,mem⟩]);unfold FF at this ⊢;rw [Bi] at this ⊢;exact this.imp_of_mem fun {a b} ha hb hab he=>hab (h3 _ _ (wI ha) (wI hb) he)
 by_cases hm:mem=[]
 · subst hm;have hg:∀ k (g:aH),(v7++[(⟨p,[]⟩:aH)])[k]? = some g→g.ab≠[]→v7[k]? = some g:=fun k g h1 h2=>by
    by_cases hk:k<v7.length
    · rwa [AJ hk] at h1
    · rw [Bx (by omega)] at h1;obtain ⟨h3,h4⟩:=Aj.1 h1;simp only [EM] at h4;exact Ay (AH aH.ab h4).symm h2
   refine ⟨fun i=>if i=21 then 24 else i,hsl _ rfl,.cons (.cw h24 ?_ (aBS (by decide))) (wT fun k (g:aH) h1 h2=>?_),hnd (fun i=>if i=21 then 24 else i) rfl (fun x hx h=>?_) (fun i j hi hj h=>?_),fun i hi=>.inl (Al (by omega))⟩
   · rw [qL,aCt,aGn,wL (ρ:=fun i=>if i=21 then 24 else i) fun k g _ _=>Al (by omega)];exact aEp aIO _
   · show S.ent (if 2000+k=21 then 24 else 2000+k)=_
     rw [Al (by omega),hF _ (by omega)];exact rN (hg k g h1 h2) h2
   · have:=wI hx;split at h <;> omega
   · rw [Al (by omega),Al (by omega)] at h; exact h
 · have hg:∀ k (g:aH),(v7++[(⟨p,mem⟩:aH)])[k]? = some g→(k=v7.length∧g=⟨p,mem⟩)∨(k<v7.length∧v7[k]? = some g):=fun k g h1=>by
    by_cases hk:k<v7.length
    · exact .inr ⟨hk,by rwa [AJ hk] at h1⟩
    · rw [Bx (by omega)] at h1;obtain ⟨h3,h4⟩:=Aj.1 h1;simp only [EM] at h4;simp only [BN] at h3;exact .inl ⟨by omega,h4.symm⟩
   have hheld:De ⟨sl,(21,.blk 46 (Ac ((outX 2000 (v7++[⟨p,mem⟩])).map eNG.d)))::FAM 2000 (v7++[⟨p,mem⟩])⟩ (2000+v7.length)=true:=by
    unfold De
    show DD (IL.look (defE _) _ _)=true
    rw [aV,Al (by omega)];have:=rN (b:=2000) (gs:=v7++[⟨p,mem⟩]) (k:=v7.length) (g:=⟨p,mem⟩) (by simp) hm;unfold entL at this;rw [this]; rfl
   refine ⟨fun i=>if i=21 then 24 else if i=2000+v7.length then 25 else i,hsl _ rfl,.cons (.blk h24 ?_ (aBS (by decide))) (wT fun k (g:aH) h1 h2=>?_),hnd (fun i=>if i=21 then 24 else if i=2000+v7.length then 25 else i) rfl (fun x hx h=>?_) (fun i j hi hj h=>?_),fun i hi=>?_⟩
   · rw [qL,aCt,aGn,aFu hm,wL (ρ:=fun i=>if i=21 then 24 else if i=2000+v7.length then 25 else i) fun k g h1 _=>by
      have:=(Aj.1 h1).1;simp only [Al (show ¬2000+k=21 by omega),Al (show ¬2000+k=2000+v7.length by omega)]]
     simp only [rnX,Ai,Aq,NC.ren,Al (show ¬2000+v7.length=21 by omega),if_true]
   · show S.ent (if 2000+k=21 then 24 else if 2000+k=2000+v7.length then 25 else 2000+k)=_
     rw [Al (by omega)]
     rcases hg k g h1 with ⟨rfl,rfl⟩ | ⟨h3,h4⟩
     · rw [Ao rfl]; exact h25
     · rw [Al (by omega),hF _ (by omega)];exact rN h4 h2
   · have:=wI hx
     repeat' split at h
     all_goals omega
   · rw [Al (show ¬i=21 by omega),Al (show ¬j=21 by omega)] at h
     repeat' split at h
     all_goals omega
   · by_cases h1:i=2000+v7.length
     · right; subst h1; exact ⟨hheld,by rw [hO]; rfl⟩
     · left; simp only [Al (show ¬i=21 by omega),Al h1]
theorem aIi{S:St}(h1:∀ x∈S.H,x.1<2000∧x.2.refsIn lt2=true)(h2:S.sl.all (fun x=>x.2.refsIn lt2)=true):S.nearB=true:=by
 unfold St.nearB;rw [h2,Cn,Bb];intro x hx;have h3:=h1 x hx;rw [h3.2,Cn,BQ]; exact h3.1
theorem outX_pN{k b:Nat}{gs:List aH}(hb:2000≤b):AE (pN k) (Ac ((outX b gs).map eNG.d))=true:=sN fun x hx=>by
 obtain ⟨j,g,_,rfl⟩:=yY hx
 show (nc (b+j) g.ab).ok _=true
 unfold nc; split
 · rfl
 · exact aFB.2 (.inr (by omega))
theorem more_ne{g:aH}{a b:Int}{r:List aL}(h:jT g a b=some r)(hg:g.ab≠[]):r≠[]:=by
 have hJ:∀ v i,gK v i b=some r→r≠[]:=fun v i h=>by
  unfold gK at h;obtain ⟨y1,hy1,h⟩:=bS h;obtain ⟨y2,hy2,h⟩:=bN h;obtain rfl:=Option.some.inj h;intro h0;have:=(Aj.1 (xC hy1).2).1;have h1:=AH Em h0;rw [Bz] at h1;rw [h1] at this; cases this
 unfold jT at h;obtain ⟨x1,hx1,h⟩:=bS h;obtain ⟨x2,hx2,h⟩:=bN h;cases hb:x2 with
 | true=>rw [hb] at h; obtain rfl:=Option.some.inj h; exact hg
 | false =>
   rw [hb] at h;replace h:=aBv h rfl;obtain ⟨x3,hx3,h⟩:=bS h;obtain ⟨x4,hx4,h⟩:=bN h;obtain ⟨x5,hx5,h⟩:=bN h;cases hb5:x5 with
   | true =>
     rw [hb5] at h;replace h:=aCA h rfl;obtain ⟨x6,hx6,h⟩:=bS h;exact hJ _ _ h
   | false =>
     rw [hb5] at h;exact hJ _ _ (aBv h rfl)
theorem aIl{g:aH}{a b:Int}{r:List aL}(h:jT g a b=some r)(hg:g.ab=[]):r=[]∧∃ x1,bW [] a=some x1∧x1<0:=by
 unfold jT at h;rw [hg] at h;obtain ⟨x1,hx1,h⟩:=bS h;obtain ⟨x2,hx2,h⟩:=bN h;cases hb:x2 with
 | true =>
   rw [hb] at h hx2;exact ⟨(Option.some.inj (aCA h rfl)).symm,x1,hx1,of_decide_eq_true hx2⟩
 | false =>
   rw [hb] at h;replace h:=aBv h rfl;obtain ⟨x3,hx3,h⟩:=bS h;have:=(xC hx3).2;simp at this
end Go.Fn
open _root_.Array renaming any_eq_true' → Fq,getD_eq_getD_getElem? → BI,getElem?_eq_some_iff → Cy
open List renaming length_nil → Cj
open Nat renaming one_shiftLeft → FG,shiftLeft → EF,testBit → Dz
open _root_ renaming decide_eq_true → Ae
namespace Go.IL
def aBt:List Edge→Nat
 | []=>0
 | e::l=>bif Region.binds .any e then Nat.lor (EF 1 e.on) (aBt l) else aBt l
def lexP(n:Node)(m:Nat):Nat→List Node→Bool
 | _,[]=>true
 | i,p::ps=>(Dz m i||p.apart n)&&lexP n m (i+1) ps
def lexS:List Node→List Oper→List Node→Bool
 | _,[],[]=>true
 | prev,o::os,n::ns=>DS (aBt o.after.toList) (EF 1 prev.length)&&lexP n (aBt o.after.toList) 0 prev&&lexS (prev++[n]) os ns
 | _,_,_=>false
section
variable {P:Ba} {O:bZ} {N:Nat} {S S':St} {Q:Exit→St→Prop}
theorem aD4{l:List Edge}{i:Nat}:Dz (aBt l) i=true↔∃ e∈l,Region.binds .any e=true∧e.on=i:=by
 induction l with
 | nil=>simp [aBt]
 | cons e l ih =>
   unfold aBt;cases hb:Region.binds .any e with
   | true =>
     show (Dz (EF 1 e.on ||| aBt l) i=true)↔_
     rw [Nat.testBit_or,BB,ih];have h1:Dz (EF 1 e.on) i=decide (e.on=i):=by
      show Dz (1 <<< e.on) i=_
      rw [FG,Nat.testBit_two_pow]
     rw [h1,decide_eq_true_eq];constructor
     · rintro (h | ⟨e',h1,h2⟩)
       · exact ⟨e,by simp,hb,h⟩
       · exact ⟨e',by simp [h1],h2⟩
     · rintro ⟨e',h1,h2,h3⟩
       rcases Au.1 h1 with rfl | h1
       · exact .inl h3
       · exact .inr ⟨e',h1,h2,h3⟩
   | false =>
     show Dz (aBt l) i=true↔_
     rw [ih];constructor
     · rintro ⟨e',h1,h2⟩; exact ⟨e',by simp [h1],h2⟩
     · rintro ⟨e',h1,h2,h3⟩
       rcases Au.1 h1 with rfl | h1
       · rw [hb] at h2; cases h2
       · exact ⟨e',h1,h2,h3⟩
theorem aHG{n:Node}{m:Nat}:∀ {ps:List Node} {i:Nat},lexP n m i ps=true→∀ j p,ps[j]? = some p→Dz m (i+j)=true∨p.apart n=true
 | [],_,_,j,p,h=>by cases h
 | q::ps,i,h,0,p,hp=>by
   cases hp;unfold lexP at h;rw [Av,BB] at h;exact h.1
 | q::ps,i,h,j+1,p,hp=>by
   unfold lexP at h;rw [Av] at h;rw [show i+(j+1)=i+1+j by omega];exact aHG h.2 j p hp
theorem aHF:∀ {os:List Oper} {ns prev:List Node},lexS prev os ns=true→os.length=ns.length∧∀ j o,os[j]? = some o →
 (∀ e∈o.after,Region.binds .any e=true→e.on<prev.length+j)∧∀ i p n,(prev++ns)[i]? = some p→ns[j]? = some n→i<prev.length+j→(∃ e∈o.after,Region.binds .any e=true∧e.on=i)∨p.apart n=true
 | [],[],_,_=>⟨rfl,fun j o h=>by cases h⟩
 | [],_::_,_,h=>by cases h
 | _::_,[],_,h=>by cases h
 | o :: os,n::ns,prev,h=>by
   unfold lexS at h;rw [Av,Av,BQ] at h;obtain ⟨⟨h1,h2⟩,h3⟩:=h;obtain ⟨g1,g2⟩:=aHF h3;refine ⟨by simp [g1],fun j o' ho=>?_⟩;cases j with
   | zero =>
     cases ho;refine ⟨fun e he hb=>?_,fun i p n' hp hn hi=>?_⟩
     · have h4:Dz (aBt o.after.toList) e.on=true:=aD4.2 ⟨e,by simpa using he,hb,rfl⟩
       rcases Ck e.on prev.length with h5 | h5
       · omega
       · exfalso;have h6:aBt o.after.toList<2 ^ e.on:=by
          refine BH h1 ?_
          show 1 <<< prev.length≤_
          rw [FG];exact Nat.pow_le_pow_right (by omega) h5
         rw [Nat.testBit_lt_two_pow h6] at h4; cases h4
     · cases hn;rw [AJ (by omega)] at hp
       rcases aHG h2 i p hp with h4 | h4
       · rw [Bj] at h4;obtain ⟨e,h5,h6⟩:=aD4.1 h4;exact .inl ⟨e,by simpa using h5,h6⟩
       · exact .inr h4
   | succ j =>
     obtain ⟨k1,k2⟩:=g2 j o' ho;have hl:(prev++[n]).length=prev.length+1:=by simp
     rw [hl] at k1 k2;refine ⟨fun e he hb=>by have:=k1 e he hb; omega,fun i p n' hp hn hi=>k2 i p n' (by rw [AA]; exact hp) hn (by omega)⟩
theorem lexS_il{l:List Oper}{nds:List Node}(h:lexS [] l nds=true):∀ (n k:Nat) (listed:Array Bool),k+n=l.length→listed.size=l.length→(∀ i,i<l.length→listed.getD i true=decide (i<k))→aCz l.toArray nds n k listed=true:=by
 obtain ⟨hlen,hat⟩:=aHF h;intro n
 induction n with
 | zero =>
   intro k listed hk hs hl;unfold aCz;cases hr:Region.ready .any l.toArray listed with
   | nil=>rfl
   | cons i t =>
     exfalso;have hi:i∈Region.ready .any l.toArray listed:=by rw [hr]; simp
     obtain ⟨h1,o,ho,_⟩:=mem_ready.1 hi;have h2:i<l.length:=by have:=(Cy.1 ho).1; simpa using this
     rw [hl i h2] at h1;simp at h1; omega
 | succ n ih =>
   intro k listed hk hs hl;have hkl:k<l.length:=by omega
   obtain ⟨a1,a2⟩:=hat k l[k] (by simp [hkl]);unfold aCz;rw [Av,Av];refine ⟨⟨?_,?_⟩,ih (k+1) _ (by omega) (by simpa using hs) fun i hi=>?_⟩
   · rw [List.contains_iff_mem];refine mem_ready.2 ⟨by rw [hl k hkl]; simp,l[k],by simp [hkl],fun e he hb=>?_⟩;have h1:=a1 e he hb;simp only [Cj,Bj] at h1;have h2:=hl e.on (by omega);simp only [h1,decide_true] at h2;rw [BI,Array.getElem?_eq_getElem (by omega)] at h2 ⊢;exact h2
   · rw [Bb];intro j hj;rw [DT] at hj;have hj':j<l.length:=by simpa using hj
     rcases Nat.lt_trichotomy j k with h1 | h1 | h1
     · rw [hl j hj',Ae h1]; simp
     · rw [h1]; simp
     · have hoj:l.toArray[j]? = some l[j]:=by simp [hj']
       rw [hoj];obtain ⟨_,b2⟩:=hat j l[j] (by simp [hj']);have hg1:nds.getD k ⟨[],[],[],[]⟩=nds[k]:=by simp [show k<nds.length by omega]
       have hg2:nds.getD j ⟨[],[],[],[]⟩=nds[j]:=by simp [show j<nds.length by omega]
       rcases b2 k nds[k] nds[j] (by simp) (by simp) (by simp; omega) with ⟨e,h2,h3,h4⟩ | h2
       · have h5:(l[j].after.any fun e=>Region.binds .any e&&e.on == k)=true:=Fq.2 ⟨e,h2,by rw [h3,h4]; simp⟩;simp [h5]
       · rw [hg1,hg2,h2]; simp
   · by_cases hik:k=i
     · subst hik;simp [BI,hs,hkl]
     · rw [getD_set_ne true hik,hl i hi];exact decide_eq_decide.2 (by omega)
theorem aHK{id:Nat}{l:List Oper}(hm:P.follows .mixedOrders=true)(nds:List Node)(hlen:nds.length=l.length)(hd:DSeq P O N l.toArray 0 S nds)(hchk:lexS [] l nds=true)(hQ:Q .normal (seqS S nds)):IWP P O N (.region id l.toArray true) S Q :=
 jL hm nds hlen hd (lexS_il hchk l.length 0 _ (by omega) (by simp) fun i hi=>by simp [BI,hi]) hQ
theorem zC{id:Nat}{l:List Oper}{y:Code}(hm:P.follows .mixedOrders=true)(nds:List Node)(hlen:nds.length=l.length)(hd:DSeq P O N l.toArray 0 S nds)(hchk:lexS [] l nds=true)(h:IWP P O N y (seqS S nds) Q):IWP P O N (.seq (.region id l.toArray true) y) S Q :=
 aQ (aHK hm nds hlen hd hchk h)
end
end Go.IL
