/-
  A part of the proof: rules and plain facts. No condition.
-/
import Derived.Test.YtbacpjjiklkgfaaGreatIlP98
import Derived.Test.YtbacpjjiklkgfaaGreatIlA20D
import Derived.Test.YtbacpjjiklkgfaaGreatIlAr
import Derived.ProofKit
import Derived.OpenShut
set_option linter.all false
open Bool renaming false_and → Bu,false_eq_true → CF,not_false → AL,not_true → AD,or_self → Et,true_and → BF
open List renaming append_assoc → AA,append_of_mem → BR,length_append → AO,length_cons → AR,map_append → Bq,map_cons → Ai,mem_append → AM,mem_cons → Au,mem_cons_of_mem → Bg,mem_filter → AN,mem_map → Ak,pairwise_append → Bk,pairwise_cons → AI
open _root_ renaming absurd → Ay,decide_eq_false → Ad,decide_eq_true → Ae,if_neg → Al,if_pos → Ao
open Go Go.IL
namespace Go.Fn
section
variable {N:List Nd} {R K:Int} {E:List Int}
theorem aEa{x:Int}{w:Ws}(h0:∀ n∈N,n.ID≠0){y:Nd}(hy:y∈N)(hyx:y.ID=x)(hso:N.Pairwise (fun a b=>a.ID<b.ID)){r:Int→Nat}(hr:∀ n∈N,n.aa≠0→r n.aa<r n.ID)(hpa:∀ n∈N,n.aa=0∨∃ m∈N,m.ID=n.aa) :
 qE N x w=aHb N x (pY N w).dep (pY N w).weight (pY N w).only (decide (x∈fL N (N.length+1) (pY N w).dep)) y.aa:=by
 have hpar:tD N x=some y.aa:=by rw [←hyx]; exact yM hso hy
 unfold qE upN aHb
 by_cases hd:(pY N w).dep=0
 · rw [Al (fun hh=>hh.1 hd),hd,path_0 h0,Ad (by intro h; cases h),bJ]
 · have hex:∃ n∈N,n.ID=(pY N w).dep:=by
    refine Classical.byContradiction fun hn=>?_
    unfold pY at hd hn
    by_cases hc:w.dep≠0∧∀ m∈N,m.ID≠w.dep
    · rw [Ao hc] at hd; exact hd rfl
    · rw [Al hc] at hd hn;exact hc ⟨hd,fun m hm e=>hn ⟨m,hm,e⟩⟩
   have hp:=yL hso hr hpa hex 1;rw [hp]
   by_cases hx:x∈fL N N.length (pY N w).dep
   · rw [Ao ⟨hd,hx⟩,Ae hx,bO,hpar]; rfl
   · rw [Al (fun hh=>hx hh.2),Ad hx,bJ]
theorem aCC(w:Ws):(w.dep=0∨∃ n∈N,n.ID=w.dep)∧(pY N w).dep=w.dep∧(pY N w).weight=w.weight∧(pY N w).only=w.only∨(w.dep≠0∧∀ n∈N,n.ID≠w.dep)∧(pY N w).dep=0∧(pY N w).weight=16∧(pY N w).only=false:=by
 unfold pY
 by_cases h:w.dep≠0∧∀ m∈N,m.ID≠w.dep
 · rw [Ao h]; exact .inr ⟨h,rfl,rfl,rfl⟩
 · rw [Al h];refine .inl ⟨?_,rfl,rfl,rfl⟩
   by_cases h0:w.dep=0
   · exact .inl h0
   · exact .inr (Classical.byContradiction fun hn=>h ⟨h0,fun m hm e=>hn ⟨m,hm,e⟩⟩)
theorem rput{a b:Int}(h:FV a ⟨24,b,N,E⟩){x:Int}(hx:∃ n∈N,n.ID=x)(w:Ws):eW ⟨R,K,N,E⟩ x w.dep w.weight w.only=some ⟨R,K,qE N x w,E⟩:=by
 have hok:Ok34 N:=h.ok;have hn0:∀ n∈N,n.ID≠0:=fun n hn=>by have:=hok.ra n hn; omega
 obtain ⟨y,hy,hyx⟩:=hx;obtain ⟨A,C,hN⟩:=BR hy;obtain ⟨r,hrk⟩:∃ r:Int→Nat,∀ n∈N,n.aa≠0→r n.aa<r n.ID:=h.rk;have:=put19 (R:=R) (K:=K) (E:=E) h.so hok.ln hn0 hN hyx (aCC (N:=N) w);rw [this,←aEa hn0 hy hyx h.so hrk h.pa]
theorem aI2{A C:List Nd}{x q d w:Int}{o:Bool}:(A++(⟨x,q,16,false⟩:Nd)::C).map (pO x d w o)=(A++(⟨x,0,16,false⟩:Nd)::C).map (pO x d w o):=by
 rw [Bq,Bq,Ai,Ai]
 congr 2
 unfold pO;rw [Ao rfl,Ao rfl]
theorem rins{a b:Int}(h:FV a ⟨24,b,N,E⟩){x:Int}(hid:1≤x∧x≤1048576)(hno:∀ n∈N,n.ID≠x){w:Ws}(hne:w.dep≠x)(hd:0≤w.dep):gR x w.dep w.weight w.only R K N E=some (⟨R,K,qE (newS N x) x w,E⟩,0):=by
 have hok:Ok34 N:=h.ok;have hso:N.Pairwise (fun a b=>a.ID<b.ID):=h.so;have hln:N.length≤24:=h.ln;have hsp:=yZ hso hno;have hnew:newS N x=lowN N x++(⟨x,0,16,false⟩:Nd)::aDu N x:=rfl;have hA:∀ a∈lowN N x,a.ID<x:=fun a ha=>of_decide_eq_true (AN.1 ha).2
 have hC:∀ c∈aDu N x,x<c.ID:=fun c hc=>of_decide_eq_true (AN.1 hc).2
 have hmA:∀ a∈lowN N x,a∈N:=fun a ha=>(AN.1 ha).1
 have hmC:∀ c∈aDu N x,c∈N:=fun c hc=>(AN.1 hc).1
 generalize hAe:lowN N x=A at *;generalize hCe:aDu N x=C at *;have hlen:A.length+C.length=N.length:=by rw [hsp,AO]
 have hsoq:∀ q:Int,(A++(⟨x,q,16,false⟩:Nd)::C).Pairwise (fun a b=>a.ID<b.ID):=fun q=>by
  rw [hsp] at hso;obtain ⟨s1,s2,s3⟩:=Bk.1 hso;refine Bk.2 ⟨s1,AI.2 ⟨fun c hc=>hC c hc,s2⟩,fun a ha c hc=>?_⟩
  rcases Au.1 hc with rfl | hc
  · exact hA a ha
  · exact s3 a ha c hc
 have hmq:∀ (q:Int) n,n∈A++(⟨x,q,16,false⟩:Nd)::C→n=⟨x,q,16,false⟩∨n∈N:=fun q n hn=>by
  rcases AM.1 hn with hn | hn
  · exact .inr (hmA n hn)
  · rcases Au.1 hn with rfl | hn
    · exact .inl rfl
    · exact .inr (hmC n hn)
 have hr:=aJW (R:=R) (K:=K) (E:=E) (x:=x) (dep:=w.dep) (w:=w.weight) (o:=w.only) hsp (by omega) hA hC A [] fuel rfl (dK (by omega));have hlq:(A++(⟨x,-1,16,false⟩:Nd)::C).length≤1000:=by rw [AO,AR]; omega
 have h0q:∀ n∈A++(⟨x,-1,16,false⟩:Nd)::C,n.ID≠0:=fun n hn=>by
  rcases hmq _ n hn with rfl | hn
  · show x≠0; omega
  · have:=hok.ra n hn; omega
 have hws:pY (A++(⟨x,-1,16,false⟩:Nd)::C) w=pY (newS N x) w:=by
  rw [hnew];unfold pY;have:(w.dep≠0∧∀ m∈A++(⟨x,-1,16,false⟩:Nd)::C,m.ID≠w.dep)↔(w.dep≠0∧∀ m∈A++(⟨x,0,16,false⟩:Nd)::C,m.ID≠w.dep):=by
   simp only [AM,Au];constructor
   · rintro ⟨g1,g2⟩;refine ⟨g1,fun m hm=>?_⟩
     rcases hm with hm | rfl | hm
     · exact g2 m (.inl hm)
     · exact fun e=>hne e.symm
     · exact g2 m (.inr (.inr hm))
   · rintro ⟨g1,g2⟩;refine ⟨g1,fun m hm=>?_⟩
     rcases hm with hm | rfl | hm
     · exact g2 m (.inl hm)
     · exact fun e=>hne e.symm
     · exact g2 m (.inr (.inr hm))
  by_cases hc:w.dep≠0∧∀ m∈A++(⟨x,-1,16,false⟩:Nd)::C,m.ID≠w.dep
  · rw [Ao hc,Ao (this.1 hc)]
  · rw [Al hc,Al (fun hh=>hc (this.2 hh))]
 have hdx:(pY (newS N x) w).dep≠x:=by
  unfold pY;split
  · show (0:Int)≠x; omega
  · exact hne
 have hnp:∀ q:Int,q≠x→∀ n∈A++(⟨x,q,16,false⟩:Nd)::C,n.ID≠x→n.aa≠x:=fun q hq n hn hx=>by
  rcases hmq q n hn with rfl | hn
  · exact Ay rfl hx
  · rcases h.pa n hn with e | ⟨m,hm,e⟩
    · rw [e]; omega
    · rw [←e]; exact hno m hm
 have hput:=put19 (R:=R) (K:=K) (E:=E) (hsoq (-1)) hlq h0q (A:=A) (C:=C) (y:=⟨x,-1,16,false⟩) rfl rfl (aCC (N:=A++(⟨x,-1,16,false⟩:Nd)::C) w);rw [hws,Ad (aEO (hnp (-1) (by omega)) _ _ hdx)] at hput;have hg:qE (newS N x) x w=(newS N x).map (pO x (pY (newS N x) w).dep (pY (newS N x) w).weight (pY (newS N x) w).only):=by
  unfold qE upN;rw [Al];rintro ⟨_,hh⟩;rw [hnew] at hh hdx;exact aEO (hnp 0 (by omega)) _ _ hdx hh
 unfold gR;refine hr.trans ?_;rw [AA]
 show bno (eW ⟨R,K,A++(⟨x,-1,16,false⟩:Nd)::C,E⟩ x w.dep w.weight w.only) _=_
 rw [hput,bnoS,hg];unfold aHb;rw [bJ,aI2,←hnew]
theorem aAy(id:Int)(w:Ws):aJF id w.dep w.weight=yE id w:=by
 unfold aJF yE
 by_cases h:fitW id w
 · obtain ⟨h1,h2,h3⟩:=h;have hf:fitW id w:=⟨h1,h2,h3⟩;rw [Ad (show ¬id<1 by omega),Ad (show ¬1048576<id by omega),Ad (show ¬w.dep<0 by omega),Ad (show ¬1048576<w.dep by omega),Ad (show ¬w.weight<1 by omega),Ad (show ¬256<w.weight by omega)];simp only [Et,CF,if_false,Ao hf]
 · simp only [Al h];rw [Ao]
   by_cases c1:id<1 <;> by_cases c2:1048576<id <;> by_cases c3:w.dep<0 <;> by_cases c4:1048576<w.dep <;> by_cases c5:w.weight<1 <;> by_cases c6:256<w.weight <;> simp [c1,c2,c3,c4,c5,c6]
   exact h ⟨⟨by omega,by omega⟩,⟨by omega,by omega⟩,⟨by omega,by omega⟩⟩
theorem roff{a b:Int}(h:FV a ⟨24,b,N,E⟩){id:Int}(hid:∃ n∈N,n.ID=id):fN ⟨R,K,N,E⟩ id=some ⟨R,K,offT N id,E.filter fun y=>!decide (y=id)⟩:=by
 obtain ⟨y,hy,rfl⟩:=hid;obtain ⟨A,C,hN⟩:=BR hy;have hln:N.length≤24:=h.ln;have hel:(E.length:Int)≤a:=h.el;have ha:a≤24:=h.kp.2.2;obtain ⟨r,hrk⟩:∃ r:Int→Nat,∀ n∈N,n.aa≠0→r n.aa<r n.ID:=h.rk;have hne:y.aa≠y.ID:=fun e=>by
  have h1:=(h.ra y hy).1;have:=hrk y hy (by omega);rw [e] at this; omega
 have hso:N.Pairwise (fun a b=>a.ID<b.ID):=h.so;rw [roff19 (R:=R) (K:=K) (E:=E) hso (by omega) (by omega) (fun n hn=>(h.ra n hn).2) hN hne,aG1 hso hN rfl]
theorem vX{a b:Int}(h:FV a ⟨24,b,N,E⟩)(id:Int):∃ i,bP ⟨R,K,N,E⟩ id=some i∧(hasN N id→0≤i)∧(¬hasN N id→i = -1):=by
 have hln:N.length≤24:=h.ln;obtain ⟨i,hi,hp⟩:=aBK (t:=⟨R,K,N,E⟩) (by show N.length≤1000; omega) id;refine ⟨i,hi,?_⟩;have hp:Pl N id i:=hp;cases hp with
 | yes A y C hN e _=>exact ⟨fun _=>by omega,fun hn=>Ay ⟨y,by rw [hN]; simp,e⟩ hn⟩
 | no hno=>exact ⟨fun ⟨m,hm,e⟩=>Ay e (hno m hm),fun _=>rfl⟩
theorem aIK{a b:Int}(h:FV a ⟨24,b,N,E⟩)(id:Int)(w:Ws):gV ⟨R,K,N,E⟩ id w.dep w.weight w.only=some (⟨R,K,(uK R N E id w).2.1,(uK R N E id w).2.2⟩,(uK R N E id w).1):=by
 obtain ⟨i,hi,hi1,hi2⟩:=vX (R:=R) (K:=K) h id;unfold gV uK
 by_cases hc:yE id w=0
 · obtain ⟨w1,w2,w3,w4⟩:=yD hc;rw [Ao hc];simp only [aDI,aAy,hc,bnoS,hi,bndD,decide_true,AD,bJ]
   by_cases hx:hasN N id
   · rw [Ao hx,Ae (hi1 hx),bO]
   · have hno:∀ m∈N,m.ID≠id:=fun m hm e=>hx ⟨m,hm,e⟩
     rw [Al hx,hi2 hx,show decide (0≤(-1:Int))=false from rfl,bJ];unfold insS
     by_cases hlt:(N.length:Int)<R
     · rw [Ao hlt,Ad (show ¬R≤(N.length:Int) by omega),Bu,bJ,bJ];exact rins h w1 hno w2 w3
     · rw [Al hlt,Ae (show R≤(N.length:Int) by omega),BF,bO];cases E with
       | nil=>rfl
       | cons z F =>
         have hz:decide (((z::F).length:Int)=0)=false:=Ad (by simp only [AR]; omega);have hg:gix (z::F) 0=some z:=rfl;have hzN:∃ n∈N,n.ID=z:=h.es z (by show z∈z::F; simp);obtain ⟨y,hy,hyz⟩:=hzN;obtain ⟨A,C,hN⟩:=BR hy;have hoff:=aJm h hN;have hT:offS A y C=offT N z:=aG1 h.so hN hyz;rw [hT,hyz] at hoff;rw [hz,bJ,hg,bnoS,roff h ⟨y,hy,hyz⟩,bnoS];refine rins hoff w1 (fun m hm e=>?_) w2 w3;rw [←hT] at hm;obtain ⟨n,hn,rfl⟩:=Ak.1 hm;rw [wB] at e;refine hno n ?_ e;rw [hN]
         rcases AM.1 hn with hn | hn
         · exact AM.2 (.inl hn)
         · exact AM.2 (.inr (Bg _ hn))
 · rw [Al hc];simp only [aDI,aAy,bnoS,bndD,Ad hc,AL,bO]
theorem MoveR{a b:Int}(h:FV a ⟨24,b,N,E⟩)(id:Int)(w:Ws):jY ⟨R,K,N,E⟩ id w.dep w.weight w.only=some (⟨R,K,(aDN R N E id w).2.1,(aDN R N E id w).2.2⟩,(aDN R N E id w).1):=by
 obtain ⟨i,hi,hi1,hi2⟩:=vX (R:=R) (K:=K) h id;have hI:=aIK (R:=R) (K:=K) h id w;unfold jY aDN
 by_cases hc:yE id w=0
 · rw [Ao hc];simp only [aDI,aAy,hc,bnoS,hi,bndD,decide_true,AD,bJ]
   by_cases hx:hasN N id
   · rw [Ao hx,Ad (show ¬i<0 by have:=hi1 hx; omega),bJ,rput h hx,bnoS]
   · rw [Al hx,hi2 hx,show decide ((-1:Int)<0)=true from rfl,bO,hI];unfold uK;rw [Ao hc,Al hx,bnoS]
 · rw [Al hc];simp only [aDI,aAy,bnoS,bndD,Ad hc,AL,bO]
theorem RemoveR{a b:Int}(h:FV a ⟨24,b,N,E⟩)(id:Int):kN ⟨R,K,N,E⟩ id=some (⟨R,K,(vL N E id).2.1,(vL N E id).2.2⟩,(vL N E id).1):=by
 obtain ⟨i,hi,hi1,hi2⟩:=vX (R:=R) (K:=K) h id;unfold kN vL;rw [hi,bnoS,bndD]
 by_cases hx:hasN N id
 · rw [Ao hx,Ad (show ¬i<0 by have:=hi1 hx; omega),bJ,roff h hx,bnoS]
 · rw [Al hx,hi2 hx,show decide ((-1:Int)<0)=true from rfl,bO]
end
end Go.Fn
open List renaming length_singleton → BN,nil_append → Bp
open Go Go.IL
namespace Go.Fn
section
variable {N:List Nd} {R K:Int} {E:List Int}
theorem CloseR{a b:Int}(h:FV a ⟨24,b,N,E⟩)(id:Int):kV ⟨R,K,N,E⟩ id=some (⟨R,K,(zR K N E id).2.1,(zR K N E id).2.2⟩,(zR K N E id).1):=by
 have hln:N.length≤24:=h.ln;have hel:(E.length:Int)≤a:=h.el;have ha:a≤24:=h.kp.2.2;have hb:b=a:=h.kp.1;subst hb;have hso:N.Pairwise (fun a b=>a.ID<b.ID):=h.so;unfold kV zR
 by_cases hx:hasN N id
 · obtain ⟨y,hy,rfl⟩:=hx;obtain ⟨A,C,hN⟩:=BR hy;have hs2:=hso;rw [hN] at hs2;obtain ⟨hA,hC⟩:=aBx hs2;have hpl:=aDa (t:=⟨R,K,N,E⟩) (by show N.length≤1000; omega) hN rfl hA;have hwi:=aJR (t:=⟨R,K,N,E⟩) (by show N.length≤1000; omega) hN (z:=⟨y.ID,y.aa,y.ae,true⟩) rfl hA;have hg:gix N (A.length:Int)=some y:=dL hN;have hmap:=map_cl hs2;rw [←hN] at hmap;have hsh:aGc N y.ID↔y.af=true:=by
    constructor
    · rintro ⟨m,hm,e1,e2⟩;rw [←sT hso hm hy e1]; exact e2
    · exact fun hc=>⟨y,hy,rfl,hc⟩
   rw [Ao ⟨y,hy,rfl⟩,hpl,bnoS,bndD,Ad (show ¬(A.length:Int)<0 by omega),bJ,hg,bnoS]
   by_cases hc:y.af=true
   · rw [hc,bO,Ao (hsh.2 hc)]
   · have hcf:y.af=false:=Bool.not_eq_true _ |>.mp hc
     rw [hcf,bJ,Al (fun hh=>hc (hsh.1 hh)),hwi,bnoS]
     show bno (app 8 ([]:List Int) E) (fun x7=>bno (app 8 x7 [y.ID]) fun x8=>bnd (decide (K<(x8.length:Int))) fun x9=>bif x9 then (bno (gix x8 0) fun x11=>bno (fN (⟨R,K,A++(⟨y.ID,y.aa,y.ae,true⟩:Nd)::C,x8⟩:aM) x11) fun x12=>some (x12,(0:Int))) else some ((⟨R,K,A++(⟨y.ID,y.aa,y.ae,true⟩:Nd)::C,x8⟩:aM),0))=_
     rw [kI (l:=([]:List Int)) (by simp; omega) (by simp; omega),bnoS,Bp,kI (by rw [BN]; omega) (by rw [BN]; omega),bnoS,bndD]
     show (bif decide (K<((E++[y.ID]).length:Int)) then (bno (gix (E++[y.ID]) 0) fun x11=>bno (fN (⟨R,K,A++(⟨y.ID,y.aa,y.ae,true⟩:Nd)::C,E++[y.ID]⟩) x11) fun x12=>some (x12,(0:Int))) else some ((⟨R,K,A++(⟨y.ID,y.aa,y.ae,true⟩:Nd)::C,E++[y.ID]⟩:aM),0))=_
     rw [←hmap]
     by_cases hk:K<((E++[y.ID]).length:Int)
     · rw [Ae hk,bO,Ao hk];obtain ⟨v1,v2⟩:=aHj (aDE h (K':=24) (by omega) (by omega)) hy hcf;have v1:FV 24 ⟨24,24,N.map (clN y.ID),E++[y.ID]⟩:=v1;cases hE:E++[y.ID] with
       | nil=>simp at hE
       | cons z F =>
         rw [hE] at v1;have hg0:gix (z::F) 0=some z:=rfl;rw [hg0,bnoS,roff v1 (v1.es z (by show z∈z::F; simp)),bnoS]; rfl
     · rw [Ad hk,bJ,Al hk]
 · have hno:∀ m∈N,m.ID≠id:=fun m hm e=>hx ⟨m,hm,e⟩
   rw [Al hx,pl_no (t:=⟨R,K,N,E⟩) (by show N.length≤1000; omega) hno,bnoS,bndD,show decide ((-1:Int)<0)=true from rfl,bO]
def DoS(R K:Int)(N:List Nd)(E:List Int)(a:dB):Int×List Nd×List Int :=
 if a.am % 6=0∨a.am % 6=1 then uK R N E a.ID ⟨a.aq,a.ae,a.ao⟩ else if a.am % 6=2∨a.am % 6=3 then aDN R N E a.ID ⟨a.aq,a.ae,a.ao⟩ else if a.am % 6=4 then zR K N E a.ID else vL N E a.ID
theorem Do_tsS{A:AS}{ns:List Nk}{first:Int}{cl:List Int}(h:TS A ns first cl R K N E){a:dB}(h0:0≤a.am) :
 ∃ A' ns' first' cl',pA a R K A.Cells A.Free A.Used ns first cl=some ((DoS R K N E a).1,R,K,A'.Cells,A'.Free,A'.Used,ns',first',cl')∧TS A' ns' first' cl' R K (DoS R K N E a).2.1 (DoS R K N E a).2.2:=by
 have hr:remI a.am 6=some (a.am % 6):=aJX h0 (by decide);obtain ⟨A1,ns1,f1,cl1,i1,i2⟩:=aIJ h a.ID a.aq a.ae a.ao;obtain ⟨A2,ns2,f2,cl2,m1,m2⟩:=Move_ts h a.ID a.aq a.ae a.ao;obtain ⟨A3,ns3,f3,cl3,c1,c2⟩:=aJO h a.ID;obtain ⟨A4,ns4,f4,cl4,r1,r2⟩:=aIG h a.ID;unfold pA DoS;rw [hr,bnoS,bndD];unfold mR mQ;generalize a.am % 6=r
 by_cases e:r=0
 · rw [Ae e,bO,bO,i1,bnoS,Ao (.inl e)];exact ⟨_,_,_,_,rfl,i2⟩
 · rw [Ad e,bJ,bndD]
   by_cases e1:r=1
   · rw [Ae e1,bO,i1,bnoS,Ao (.inr e1)];exact ⟨_,_,_,_,rfl,i2⟩
   · rw [Ad e1,bJ,bndD,Al (fun hh=>hh.elim e e1)]
     by_cases e2:r=2
     · rw [Ae e2,bO,bO,m1,bnoS,Ao (.inl e2)];exact ⟨_,_,_,_,rfl,m2⟩
     · rw [Ad e2,bJ,bndD]
       by_cases e3:r=3
       · rw [Ae e3,bO,m1,bnoS,Ao (.inr e3)];exact ⟨_,_,_,_,rfl,m2⟩
       · rw [Ad e3,bJ,bndD,Al (fun hh=>hh.elim e2 e3)]
         by_cases e4:r=4
         · rw [Ae e4,bO,c1,bnoS,Ao e4];exact ⟨_,_,_,_,rfl,c2⟩
         · rw [Ad e4,bJ,r1,bnoS,Al e4];exact ⟨_,_,_,_,rfl,r2⟩
theorem ModelR{a b:Int}(h:FV a ⟨24,b,N,E⟩){d:dB}(h0:0≤d.am):oH ⟨R,K,N,E⟩ d=some (⟨R,K,(DoS R K N E d).2.1,(DoS R K N E d).2.2⟩,(DoS R K N E d).1):=by
 have hr:remI d.am 6=some (d.am % 6):=aJX h0 (by decide);have i1:=aIK (R:=R) (K:=K) h d.ID ⟨d.aq,d.ae,d.ao⟩;have m1:=MoveR (R:=R) (K:=K) h d.ID ⟨d.aq,d.ae,d.ao⟩;have c1:=CloseR (R:=R) (K:=K) h d.ID;have r1:=RemoveR (R:=R) (K:=K) h d.ID;have i1:gV ⟨R,K,N,E⟩ d.ID d.aq d.ae d.ao=_:=i1;have m1:jY ⟨R,K,N,E⟩ d.ID d.aq d.ae d.ao=_:=m1;unfold oH DoS;rw [hr,bnoS,bndD];unfold lZ lY;generalize d.am % 6=r
 by_cases e:r=0
 · rw [Ae e,bO,bO,i1,bnoS,Ao (.inl e)]
 · rw [Ad e,bJ,bndD]
   by_cases e1:r=1
   · rw [Ae e1,bO,i1,bnoS,Ao (.inr e1)]
   · rw [Ad e1,bJ,bndD,Al (fun hh=>hh.elim e e1)]
     by_cases e2:r=2
     · rw [Ae e2,bO,bO,m1,bnoS,Ao (.inl e2)]
     · rw [Ad e2,bJ,bndD]
       by_cases e3:r=3
       · rw [Ae e3,bO,m1,bnoS,Ao (.inr e3)]
       · rw [Ad e3,bJ,bndD,Al (fun hh=>hh.elim e2 e3)]
         by_cases e4:r=4
         · rw [Ae e4,bO,c1,bnoS,Ao e4]
         · rw [Ad e4,bJ,r1,bnoS,Al e4]
theorem PathR{a b:Int}(h:FV a ⟨24,b,N,E⟩)(id:Int):gN ⟨R,K,N,E⟩ id=some (if hasN N id then fL N N.length id else []):=by
 have hok:Ok34 N:=h.ok;obtain ⟨r,hrk⟩:∃ r:Int→Nat,∀ n∈N,n.aa≠0→r n.aa<r n.ID:=h.rk;rw [rpath (t:=⟨R,K,N,E⟩) hok.ln (fun n hn=>by have:=hok.ra n hn; omega) id]
 by_cases hx:hasN N id
 · rw [Ao hx]
   show some (fL N (N.length+1) id)=_
   rw [yL h.so hrk h.pa hx 1]
 · rw [Al hx]
   show some (fL N (N.length+1) id)=_
   unfold fL;rw [aFA fun m hm e=>hx ⟨m,hm,e⟩]
end
end Go.Fn
open Go Go.IL
namespace Go.Fn
section
variable {N:List Nd} {R K:Int} {E:List Int}
end
end Go.Fn
open Bool renaming and_eq_true → Av,and_false → Ct,and_true → Cn,eq_iff_iff → DI,false_or → Cd,true_or → DB
open List renaming any_cons → DL,append_nil → Ax,concat_eq_append → EX,eq_nil_or_concat → EW,length_eq_zero_iff → AV
open _root_ renaming Option → Ag,beq_self_eq_true → AQ
open Go Go.IL
namespace Go.Fn
def aAT:Option Mb→List Mb→Bool
 | _,[]=>true
 | none,m::s=>aAT (some m) s
 | some x,m::s=>decide (x.ID<m.ID)&&aAT (some m) s
theorem aEu:∀ (s:List Mb) (x:Mb),aAT (some x) s=rP (x::s)
 | [],_=>rfl
 | y::s,x=>by
   show (decide (x.ID<y.ID)&&aAT (some y) s)=(decide (x.ID<y.ID)&&rP (y::s))
   rw [aEu s y]
theorem aEH(s:List Mb):aAT none s=rP s:=by
 cases s with
 | nil=>rfl
 | cons x s=>exact aEu s x
theorem right20(m:Mb)(k:Bool→Option Int):(bno (jR m.ID 1 1048576) fun x225 =>
 bno (gd ((!x225) == false) (jR m.ae 1 256) default) fun x226 =>
 bnd ((!x225)||(!x226)) fun x227 =>
 bno (gd (x227 == false) (jR m.ag 0 1099511627776) default) fun x228 =>
 bnd (x227||(!x228)) fun x229=>k x229)=k (!uM m):=by
 unfold uM;simp only [xI,bnoS,bndD];cases inB m.ID 1 1048576 <;> cases inB m.ae 1 256 <;> rfl
theorem aAq{α:Type}(q:List α)(x:α):(q++[x]).getLast? = some x:=by simp
theorem aJq{l:List Gr}(hl:l.length≤1000){p r:List Gr}{g:Gr}(h:l=p++g::r)(hg:g.ab.length≤1000)(kk:Bool→Int→Ag Int):∀ (s q:List Mb) (f:Nat) (o:Bool),g.ab=q++s→s.length<f →
 gC l (p.length:Int) kk f o (q.length:Int)=bif s.any (fun m=>!uM m) then some 8 else kk (o&&aAT q.getLast? s) ((p++[g]).length:Int)
 | _,_,0,_,_,hf=>Ay hf (by omega)
 | [],q,f+1,o,hq,hf=>by
   rw [gC,dL h,bnoS,bndD,oO hq,bJ,bndD,w_at h (by omega)]
   show _=kk (o&&aAT q.getLast? []) _
   unfold aAT;rw [Cn]
 | m :: s,q,f+1,o,hq,hf=>by
   have hrec:=fun o=>aJq hl h hg kk s (q++[m]) f o (eO hq) (by simp at hf ⊢; omega)
   rw [gC,dL h,bnoS,bndD,lJ hq,bO,bnoS,dL hq,bnoS,right20];rw [DL];cases hr:uM m with
   | false=>rfl
   | true =>
     rw [show (!true)=false from rfl,bJ,Cd,bndD]
     rcases EW q with e | ⟨q',x,e⟩
     · subst e;rw [show decide ((([]:List Mb).length:Int)=0)=true from rfl,show ((true == false):Bool)=false from rfl,Ct,gdff,bnoS,bndD,gdff,bnoS,bndD,DB,bndD,bndD,Cn];rw [w_at hq (by omega)];exact hrec _
     · rw [EX] at e;subst e;rw [Ad (show ¬(((q'++[x]).length:Int)=0) by simp; omega),AQ,Cn];cases o with
       | false =>
         rw [show ((false == true):Bool)=false from rfl,gdff,bnoS,bndD,gdff,bnoS,bndD,bndD,bndD,bndD,Bu,w_at hq (by omega),hrec];rfl
       | true =>
         rw [AQ,gdtt,bnoS,bndD,gdtt,aAw hq (by omega),bnoS,bndD,bndD,bndD,bndD,Cd,BF,w_at hq (by omega),hrec,aAq,aAq];rfl
theorem aJr{l:List Gr}(h:fitG l):∀ (r p:List Gr) (f:Nat) (o:Bool),l=p++r→r.length<f→eH l f o (p.length:Int)=bif r.any sS then some 8 else some (bif o&&ordF p.getLast? r then 0 else 10)
 | _,_,0,_,_,hf=>Ay hf (by omega)
 | [],p,f+1,o,hp,hf=>by
   rw [eH,bndD,oO hp,bJ]
   show _=some (bif o&&ordF p.getLast? [] then (0:Int) else 10)
   unfold ordF;cases o <;> rfl
 | g :: r,p,f+1,o,hp,hf=>by
   have hg:=h.2 g (by rw [hp]; simp);have hrec:=fun o=>aJr h r (p++[g]) f o (eO hp) (by simp at hf ⊢; omega)
   have h2:=fun o=>aJq h.1 hp hg (eH l f) g.ab [] fuel o rfl (dK (by omega))
   rw [eH,bndD,lJ hp,bO,dL hp,bnoS,xI,bnoS,DL];cases hi:inB g.aa 0 1048576 with
   | false =>
     rw [show sS g=true by unfold sS; rw [hi]; rfl]; rfl
   | true =>
     have hw:sS g=g.ab.any fun m=>!uM m:=by unfold sS; rw [hi]; rfl
     rw [show (!true)=false from rfl,bJ,bndD,bndD,hw];have key:∀ o':Bool,gC l (p.length:Int) (eH l f) fuel o' 0=bif (g.ab.any fun m=>!uM m)||r.any sS then some 8 else some (bif o'&&rP g.ab&&ordF (some g) r then 0 else 10):=fun o'=>by
      have h2':=h2 o';rw [show ((([]:List Mb).length:Nat):Int)=0 from rfl,hrec,show (([]:List Mb).getLast?)=none from rfl,aEH,aAq] at h2';rw [h2'];cases (g.ab.any fun m=>!uM m) <;> rfl
     rcases EW p with e | ⟨p',x,e⟩
     · subst e;rw [show decide ((([]:List Gr).length:Int)=0)=true from rfl,show ((true == false):Bool)=false from rfl,Ct,gdff,bnoS,gdff,bnoS,bndD,bndD,DB,bndD,Cn,key,Bool.and_assoc];rfl
     · rw [EX] at e;subst e;rw [Ad (show ¬(((p'++[x]).length:Int)=0) by simp; omega),AQ,Cn];cases o with
       | false =>
         rw [show ((false == true):Bool)=false from rfl,gdff,bnoS,gdff,bnoS,bndD,bndD,bndD,Bu,key,Bu,Bu,Bu]
       | true =>
         rw [AQ,gdtt,aAw hp (by have:=h.1; omega),bnoS,gdtt,bnoS,bndD,bndD,Cd,bndD,BF,key,aAq,BF];rfl
theorem aJs{l:List Gr}(h:fitG l):∀ (r p:List Gr) (f:Nat),l=p++r→r.length<f→iG l f (p.length:Int)=bif r.any (fun g=>decide (24<(g.ab.length:Int))) then some 5 else eH l fuel true 0
 | _,_,0,_,hf=>Ay hf (by omega)
 | [],p,f+1,hp,hf=>by rw [iG,bndD,oO hp,bJ]; rfl
 | g::r,p,f+1,hp,hf=>by
   have hrec:=aJs h r (p++[g]) f (eO hp) (by simp at hf ⊢; omega);rw [iG,bndD,lJ hp,bO,dL hp,bnoS,bndD,bndD,w_at hp (by have:=h.1; omega),hrec,DL];cases decide (24<(g.ab.length:Int)) <;> rfl
theorem aIL{l:List Gr}(h:fitG l):kZ l=some (uD l):=by
 have h0:=aJs h l [] fuel rfl (dK (by have:=h.1; omega));have h1:=aJr h l [] fuel true rfl (dK (by have:=h.1; omega));rw [show ((([]:List Gr).length:Nat):Int)=0 from rfl] at h0 h1;unfold kZ uD;rw [bndD,h0,h1,show (([]:List Gr).getLast?)=none from rfl,BF];cases decide (25<(l.length:Int)) <;> cases (l.any fun g=>decide (24<(g.ab.length:Int))) <;> cases l.any sS <;> rfl
theorem aG9{l:List Gr}(hl:l.length≤1000){p r:List Gr}{g:Gr}(h:l=p++g::r)(hg:g.ab.length≤1000)(v:List Gr)(hv:v.length≤1000)(kk:List Gr→Int→Ag (List Gr)):∀ (s q:List Mb) (f:Nat),g.ab=q++s→s.length<f →
 gL l v (p.length:Int) kk g f (q.length:Int) q=kk (v++[g]) ((p++[g]).length:Int)
 | _,_,0,_,hf=>Ay hf (by omega)
 | [],q,f+1,hq,hf=>by
   rw [gL,dL h,bnoS,bndD,oO hq,bJ,kI (by simp; omega) (by simp; omega),bnoS,bndD,w_at h (by omega)];rw [Ax] at hq;rw [←hq]
 | m::s,q,f+1,hq,hf=>by
   have hql:q.length≤1000:=by rw [hq] at hg; simp at hg; omega
   rw [gL,dL h,bnoS,bndD,lJ hq,bO,bnoS,dL hq,bnoS,kI (by simp; omega) (by simp; omega),bnoS,bndD,w_at hq (by omega)];exact aG9 hl h hg v hv kk s (q++[m]) f (eO hq) (by simp at hf ⊢; omega)
theorem aHA{l:List Gr}(h:fitG l):∀ (r p:List Gr) (f:Nat),l=p++r→r.length<f→eU l f p (p.length:Int)=some l
 | _,_,0,_,hf=>Ay hf (by omega)
 | [],p,f+1,hp,hf=>by
   rw [eU,bndD,oO hp,bJ,hp,Ax]
 | g::r,p,f+1,hp,hf=>by
   have hg:=h.2 g (by rw [hp]; simp);have hpl:p.length≤1000:=by have:=h.1; rw [hp] at this; simp at this; omega
   rw [eU,bndD,lJ hp,bO,dL hp,bnoS];refine (aG9 h.1 hp hg p hpl (eU l f) g.ab [] fuel rfl (dK (by omega))).trans ?_;exact aHA h r (p++[g]) f (eO hp) (by simp at hf ⊢; omega)
theorem lown{l:List Gr}(h:fitG l):rB l=some l:=aHA h l [] fuel rfl (dK (by have:=h.1; omega))
theorem aH8(l v:List Gr)(i:Int)(k1 k2:List Gr→Int→Ag (List Gr))(hk:k1=k2)(x:Gr):∀ (f:Nat) (j:Int) (w:List Mb),jW l v i k1 x f j w=gL l v i k2 x f j w
 | 0,_,_=>rfl
 | f+1,j,w=>by
   subst hk;rw [jW,gL];simp only [aH8 l v i k1 k1 rfl x f]
theorem aH9(l:List Gr):∀ (f:Nat) (v:List Gr) (i:Int),gW l f v i=eU l f v i
 | 0,_,_=>rfl
 | f+1,v,i=>by
   rw [gW,eU];simp only [aH8 l v i (gW l f) (eU l f) (by funext v i; exact aH9 l f v i)]
theorem lback{l:List Gr}(h:fitG l):jU l=some l:=(aH9 l fuel [] 0).trans (lown h)
theorem gr_eq(a b:Gr):decide (a=b)=(decide (a.aa=b.aa)&&decide (a.ab=b.ab)):=by
 obtain ⟨a1,a2⟩:=a;obtain ⟨b1,b2⟩:=b;rw [DI];simp [Av]
theorem aGf{l m:List Gr}(hl:l.length≤1000){p r s t:List Gr}{g k:Gr}(h:l=p++g::r)(hm:m=s++k::t)(hps:p.length=s.length)(hg:g.ab.length≤1000)(hgk:g.ab.length=k.ab.length)(kk:Int→Ag Bool) :
 gT l m (p.length:Int) kk fuel 0=bif !decide (g.ab=k.ab) then some false else kk ((p++[g]).length:Int):=by
 have hm':gix m (p.length:Int)=some k:=by rw [hps]; exact dL hm
 have key:∀ (r' t' p' s':List Mb) (f:Nat),g.ab=p'++r'→k.ab=s'++t'→p'.length=s'.length→r'.length<f→gT l m (p.length:Int) kk f (p'.length:Int)=bif !decide (r'=t') then some false else kk ((p++[g]).length:Int):=by
  intro r'
  induction r' with
  | nil =>
    intro t' p' s' f e1 e2 e3 hf;obtain ⟨f,rfl⟩:∃ n,f=n+1:=⟨f-1,by simp at hf; omega⟩;have:t'=[]:=by rw [e1,e2] at hgk; simp at hgk; exact AV.1 (by omega)
    subst this;rw [gT,dL h,bnoS,bndD,oO e1,bJ,bndD,w_at h (by omega),Ae rfl]; rfl
  | cons x r' ih =>
    intro t' p' s' f e1 e2 e3 hf;obtain ⟨f,rfl⟩:∃ n,f=n+1:=⟨f-1,by simp at hf; omega⟩;cases t' with
    | nil=>rw [e1,e2] at hgk; simp at hgk; omega
    | cons y t' =>
      have e2':gix k.ab (p'.length:Int)=some y:=by rw [e3]; exact dL e2
      have hr:=ih t' (p'++[x]) (s'++[y]) f (eO e1) (eO e2) (by simp [e3]) (by simpa using hf);rw [gT,dL h,bnoS,bndD,lJ e1,bO,bnoS,dL e1,bnoS,hm',bnoS,e2',bnoS,mb_eq,bndD,bndD,w_at e1 (by omega),hr]
      by_cases hxy:x=y
      · subst hxy;rw [Ae rfl,AD,bJ]
        congr 2
        rw [decide_eq_decide]; simp
      · rw [Ad hxy,Ad (fun e=>hxy (List.cons.inj e).1)]; rfl
 exact key g.ab k.ab [] [] fuel rfl rfl rfl (dK (by omega))
theorem aJL{l m:List Gr}(h:fitG l):gE l m=some (decide (l=m)):=by
 unfold gE;rw [aBq (L:=gU l m) (z:=true) (by have:=h.1; omega) ?_ ?_,Cn]
 · intro p g r s k t f h1 h2 h3;have hg:=h.2 g (by rw [h1]; simp);have hm':gix m (p.length:Int)=some k:=by rw [h3]; exact dL h2
   rw [gU,bndD,lJ h1,bO,dL h1,bnoS,hm',bnoS,bndD,gr_eq]
   by_cases e1:g.aa=k.aa
   · rw [Ae e1,AD,AQ,gdtt,bnoS,gdtt,bnoS,bndD,bndD,Cd,BF]
     by_cases e2:g.ab.length=k.ab.length
     · rw [Ae (by omega),AD,bJ];exact aGf h.1 h1 h2 h3 hg e2 _
     · rw [Ad (by omega),AL,bO,Ad (fun e=>e2 (by rw [e]))]; rfl
   · rw [Ad e1,AL,tf,gdff,bnoS,gdff,bnoS,bndD,bndD,DB,bO,Bu]; rfl
 · intro h1 f;rw [gU,bndD,pQ,bJ]
end Go.Fn
open Bool renaming or_eq_true → BB
open List renaming any_append → DK,any_eq_false → BJ,any_eq_true → Bv,cons_append → BW,filter_append → BO,filter_cons → CI,filter_cons_of_neg → Be,filter_cons_of_pos → BC,filter_eq_nil_iff → Cs,filter_eq_self → BP,length_filter_le → Bs,length_map → An
open Nat renaming le_refl → AP
open _root_ renaming decide_eq_true_iff → Cq
open Go Go.IL
namespace Go.Fn
def headIs(x:Int):List Gr→Bool
 | []=>false
 | y::_=>decide (y.aa=x)
theorem aDZ{l a b:List Gr}(hl:l.length≤1000)(h:l=a++b){x:Int}(ha:∀ y∈a,y.aa<x)(hb:∀ y c,b=y::c→x≤y.aa):∀ (r q:List Gr) (f:Nat),a=q++r→r.length<f →
 iD l x f (q.length:Int)=some ((a.length:Int),headIs x b)
 | _,_,0,_,hf=>Ay hf (by omega)
 | [],q,f+1,hq,hf=>by
   rw [Ax] at hq;subst hq;rw [iD,bndD];cases b with
   | nil =>
     rw [oO h,ft,gdff,bnoS,bndD,Bu,bndD,bJ,bndD,ft,gdff,bnoS,bndD,Bu,bndD];rfl
   | cons y c =>
     have hy:=hb y c rfl;rw [lJ h,AQ,gdtt,dL h,bnoS,bndD,Ad (show ¬y.aa<x by omega),Ct,bndD,bJ,bndD,AQ,gdtt,bnoS,bndD,BF,bndD];rfl
 | y::r,q,f+1,hq,hf=>by
   have hy:=ha y (by rw [hq]; simp);have hl2:l=q++y::(r++b):=by rw [h,hq]; simp
   rw [iD,bndD,lJ hl2,AQ,gdtt,dL hl2,bnoS,bndD,Ae hy,Cn,bndD,bO,bndD,w_at hl2 (by omega)];exact aDZ hl h ha hb r (q++[y]) f (eO hq) (by simp at hf ⊢; omega)
theorem aGy{l:List Gr}(h:pH l)(x:Int):iC l x=some (((l.filter fun y=>decide (y.aa<x)).length:Int),l.any fun y=>decide (y.aa=x)):=by
 have hs:l=l.filter (fun y=>decide (y.aa<x))++l.filter (fun y=>decide (x≤y.aa)):=by
  have:=h.so;clear h
  induction l with
  | nil=>rfl
  | cons z l ih =>
    obtain ⟨s1,s2⟩:=AI.1 this;have ih:=ih s2
    by_cases hz:z.aa<x
    · rw [BC (by simpa using hz),Be (by simp; omega),BW,←ih]
    · have e:l.filter (fun y=>decide (y.aa<x))=[]:=Cs.2 fun y hy=>by have:=s1 y hy; simp; omega
      rw [e,Bp] at ih;rw [Be (by simpa using hz),e,Bp,BC (by simp; omega),←ih]
 have ha:∀ y∈l.filter (fun y=>decide (y.aa<x)),y.aa<x:=fun y hy=>of_decide_eq_true (AN.1 hy).2
 have hb:∀ y∈l.filter (fun y=>decide (x≤y.aa)),x≤y.aa:=fun y hy=>of_decide_eq_true (AN.1 hy).2
 have hsb:(l.filter (fun y=>decide (x≤y.aa))).Pairwise (fun a b=>a.aa<b.aa):=h.so.filter _;have hln:=h.ln;unfold iC;have:=aDZ (by omega) hs ha (fun y c e=>hb y (by rw [e]; simp)) (l.filter (fun y=>decide (y.aa<x))) [] fuel rfl (dK (by have:=Bs (fun y:Gr=>decide (y.aa<x)) l; omega));rw [show ((([]:List Gr).length:Nat):Int)=0 from rfl] at this;rw [this]
 congr 2
 conv=>rhs; rw [hs]
 rw [DK,BJ.2 (fun y hy=>by have:=ha y hy; simp; omega),Cd];cases hc:l.filter (fun y=>decide (x≤y.aa)) with
 | nil=>rfl
 | cons y c =>
   show decide (y.aa=x)=(decide (y.aa=x)||c.any fun y=>decide (y.aa=x))
   by_cases e:y.aa=x
   · rw [Ae e]; rfl
   · rw [hc] at hsb hb;have h1:=hb y (by simp);rw [Ad e,Cd];exact (BJ.2 fun z hz=>by have:=(AI.1 hsb).1 z hz; simp; omega).symm
theorem aCp{l a c:List Gr}{y:Gr}(h:pH l)(hl:l=a++y::c):iC l y.aa=some ((a.length:Int),true):=by
 have hso:=h.so;rw [hl,Bk] at hso;have h1:l.filter (fun z=>decide (z.aa<y.aa))=a:=by
  rw [hl,BO,CI,Ad (show ¬y.aa<y.aa by omega),BP.2 (fun z hz=>Ae (hso.2.2 z hz y (by simp))),Cs.2 (fun z hz=>by have:=(AI.1 hso.2.1).1 z hz; simp; omega)]
  simp
 rw [aGy h,h1,Bv.2 ⟨y,by rw [hl]; simp,Ae rfl⟩]
theorem aE3{l:List Gr}(h:pH l){x:Int}(hx:∀ y∈l,y.aa≠x):iC l x=some (((l.filter fun y=>decide (y.aa<x)).length:Int),false):=by
 rw [aGy h,BJ.2 (fun y hy=>by simpa using hx y hy)]
theorem alike20{x g:Gr}(hx:x.ab.length≤1000)(hb:iQ g.ab=g.ab):oE x g=some (decide (iQ x.ab=g.ab)):=by
 have hx2:(iQ x.ab).length=x.ab.length:=by simp [iQ]
 have key : ∀ (r t p s:List Mb) (f:Nat),x.ab=p++r→g.ab=s++t→p.length=s.length→r.length=t.length→r.length<f→iE x g f (p.length:Int)=some (decide (iQ r=iQ t)):=by
  intro r
  induction r with
  | nil =>
    intro t p s f e1 e2 e3 e4 hf;obtain ⟨f,rfl⟩:∃ n,f=n+1:=⟨f-1,by simp at hf; omega⟩;have:t=[]:=AV.1 (by simpa using e4.symm);subst this;rw [iE,bndD,oO e1,bJ,Ae rfl]
  | cons m r ih =>
    intro t p s f e1 e2 e3 e4 hf;obtain ⟨f,rfl⟩:∃ n,f=n+1:=⟨f-1,by simp at hf; omega⟩;cases t with
    | nil=>simp at e4
    | cons k t =>
      have hr:=ih t (p++[m]) (s++[k]) f (eO e1) (eO e2) (by simp [e3]) (by simpa using e4) (by simpa using hf);have hk:gix g.ab (p.length:Int)=some k:=by rw [e3]; exact dL e2
      rw [iE,bndD,lJ e1,bO,dL e1,bnoS,hk,bnoS,bndD]
      show _=some (decide ((⟨m.ID,m.ae,0⟩:Mb)::iQ r=⟨k.ID,k.ae,0⟩::iQ t))
      by_cases c1:m.ID=k.ID
      · rw [Ae c1,AD,AQ,gdtt,bnoS,gdtt,bnoS,bndD,bndD,Cd]
        by_cases c2:m.ae=k.ae
        · rw [Ae c2,AD,bJ,bndD,w_at e1 (by omega),hr,c1,c2]
          congr 1
          rw [decide_eq_decide]; simp
        · rw [Ad c2,AL,bO,Ad (show ¬((⟨m.ID,m.ae,0⟩:Mb)::iQ r=⟨k.ID,k.ae,0⟩::iQ t) from fun e=>by have:=(List.cons.inj e).1; simp at this; exact c2 this.2)]
      · rw [Ad c1,AL,tf,gdff,bnoS,gdff,bnoS,bndD,bndD,DB,bO,Ad (show ¬((⟨m.ID,m.ae,0⟩:Mb)::iQ r=⟨k.ID,k.ae,0⟩::iQ t) from fun e=>by have:=(List.cons.inj e).1; simp at this; exact c1 this.1)]
 unfold oE;rw [bndD]
 by_cases hl:x.ab.length=g.ab.length
 · rw [Ae (by omega),AD,bJ];have:=key x.ab g.ab [] [] fuel rfl rfl rfl hl (dK (by omega));rw [hb] at this;exact this
 · rw [Ad (by omega),AL,bO,Ad (fun e=>hl (by rw [←hx2,e]))]
theorem made20{l:List Gr}(h:pH l){g:Gr}(hp:0≤g.aa∧g.aa≤1048576)(hb:iQ g.ab=g.ab):oY l g=some (nC l g):=by
 obtain ⟨a,b,h1,h2,h3,h4⟩:=aFY h hp;have hln:=h.ln;unfold oY nC;rw [←h2,←h3]
 rcases h4 with ⟨y,c,e1,e2,e3⟩ | ⟨e1,e2⟩
 · have hl:l=a++y::c:=by rw [h1,e1]
   have hy:y∈l:=by rw [hl]; simp
   have hal:app 32 ([]:List Gr) l=some l:=by rw [kI (by simp; omega) (by simp; omega)]; rfl
   rw [←e2,aCp h hl,bnoS,e1];simp only [bO,if_true];rw [dL hl,bnoS,alike20 (by have:=h.ml y hy; omega) hb,bnoS]
   by_cases hbb:iQ y.ab=g.ab
   · rw [Ae hbb,Ao hbb];simp only [bO]; rw [←hl]
   · rw [Ad hbb,Al hbb];simp only [bJ];rw [hal,bnoS,dL hl,bnoS,sP hl,bnoS,bndD,hl,uE]
 · rw [aE3 h e1,bnoS,←h2];simp only [bJ];have hal:a.length≤l.length:=by rw [h1]; simp
   have hbl:b.length≤l.length:=by rw [h1]; simp
   rw [aFb h1,bnoS,kI (by simp; omega) (by simp; omega),bnoS,kI (by simp; omega) (by simp; omega),bnoS,aFa h1,bnoS,kI (by simp; omega) (by simp; omega),bnoS,Bp,AA];cases hb2:b with
   | nil=>rfl
   | cons y c =>
     have hy:y∈l:=by rw [h1,hb2]; simp
     simp only [Al (e1 y hy)];rfl
theorem aBp{g:Gr}(hl:g.ab.length≤1000000)(ho:∀ m∈g.ab,okM m):∀ (r p:List Mb) (b:Mb) (f:Nat),okM b→g.ab=p++r→r.length<f→gB g f (p.length:Int) b.ID b.ae b.ag=some (uI b r)
 | _,_,_,0,_,_,hf=>Ay hf (by omega)
 | [],p,b,f+1,hb,h,hf=>by rw [gB,bndD,oO h,bJ]; rfl
 | x :: r,p,b,f+1,hb,h,hf=>by
   have hx:=ho x (by rw [h]; simp);have e1:=aFF (x:=x.ag) (w:=b.ae) (k:=1099511627776) (m:=256) (by have:=hx.2.2; omega) (by have:=hx.2.2; omega) (by have:=hb.2.1; omega) (by have:=hb.2.1; omega) (by omega);have e2:=aFF (x:=b.ag) (w:=x.ae) (k:=1099511627776) (m:=256) (by have:=hb.2.2; omega) (by have:=hb.2.2; omega) (by have:=hx.2.1; omega) (by have:=hx.2.1; omega) (by omega);rw [gB,bndD,lJ h,bO,dL h,bnoS,bndD,bndD,bndD,w64 (by omega) (by omega),w64 (by omega) (by omega),w_at h hl];unfold uI
   by_cases hc:x.ag*b.ae<b.ag*x.ae
   · rw [Ae hc,bO,Ao hc,bndD];exact aBp hl ho r (p++[x]) x f hx (eO h) (by simp at hf ⊢; omega)
   · rw [Ad hc,bJ,Al hc,bndD];exact aBp hl ho r (p++[x]) b f hb (eO h) (by simp at hf ⊢; omega)
theorem first20{g:Gr}{b:Mb}{l:List Mb}(hg:g.ab=b::l)(hl:l.length≤1000)(ho:∀ m∈g.ab,okM m):oD g=some (uI b l):=by
 unfold oD;rw [show gix g.ab 0=some b by rw [hg]; rfl,bnoS];exact aBp (by rw [hg]; simp; omega) ho l [b] b fuel (ho b (by rw [hg]; simp)) hg (dK (by omega))
section
variable {N:List Nd} {R K:Int} {E:List Int}
theorem aC0{a b:Int}(h:FV a ⟨24,b,N,E⟩){l:List Gr}(hl:l.length≤1000):∀ (r q:List Gr) (f:Nat) (acc:List Gr),l=q++r→r.length<f→acc.length≤q.length →
 gS l ⟨R,K,N,E⟩ f acc (q.length:Int)=some (acc++wC N r)
 | _,_,0,_,_,hf,_=>Ay hf (by omega)
 | [],q,f+1,acc,hq,hf,ha=>by
   rw [gS,bndD,oO hq,bJ]
   show _=some (acc++[])
   rw [Ax]
 | g :: r,q,f+1,acc,hq,hf,ha=>by
   have hql:q.length+1≤1000:=by rw [hq] at hl; simp at hl; omega
   have h1:=aC0 h hl r (q++[g]) f acc (eO hq) (by simp at hf ⊢; omega) (by simp; omega);have h2:=aC0 h hl r (q++[g]) f (acc++[g]) (eO hq) (by simp at hf ⊢; omega) (by simp; omega);have hk:wC N (g::r)=if g.aa=0∨hasN N g.aa then g::wC N r else wC N r:=by
    unfold wC;rw [CI]
    by_cases c1:g.aa=0
    · rw [Ae c1,Ao (show g.aa=0∨hasN N g.aa from .inl c1)]; rfl
    · by_cases c2:hasN N g.aa
      · rw [Ad c1,(aBy N _).2 c2,Ao (show g.aa=0∨hasN N g.aa from .inr c2)]; rfl
      · have:(N.any fun n=>decide (n.ID=g.aa))=false:=by
         cases hh:N.any fun n=>decide (n.ID=g.aa) with
         | true=>exact Ay ((aBy N _).1 hh) c2
         | false=>rfl
        rw [Ad c1,this,Al (show ¬(g.aa=0∨hasN N g.aa) by rintro (c | c); exact c1 c; exact c2 c)]; rfl
   rw [gS,bndD,lJ hq,bO,dL hq,bnoS,bndD,hk]
   by_cases c1:g.aa=0
   · rw [Ae c1,tf,gdff,bnoS,gdff,bnoS,bndD,bndD,DB,bO,bnoS,kI (by simp; omega) (by simp; omega),bnoS,bndD,w_at hq (by omega),h2,Ao (show g.aa=0∨hasN N g.aa from .inl c1),AA]; rfl
   · obtain ⟨i,i1,i2,i3⟩:=vX (R:=R) (K:=K) h g.aa;rw [Ad c1,AQ,gdtt,bnoS,gdtt,i1,bnoS,bndD,bndD,Cd]
     by_cases c2:hasN N g.aa
     · rw [Ae (i2 c2),bO,bnoS,kI (by simp; omega) (by simp; omega),bnoS,bndD,w_at hq (by omega),h2,Ao (show g.aa=0∨hasN N g.aa from .inr c2),AA]; rfl
     · rw [i3 c2,show decide (0≤(-1:Int))=false from rfl,bJ,bndD,w_at hq (by omega),h1,Al (show ¬(g.aa=0∨hasN N g.aa) by rintro (c | c); exact c1 c; exact c2 c)]
theorem kept20{a b:Int}(h:FV a ⟨24,b,N,E⟩){l:List Gr}(hl:l.length≤1000):qH l ⟨R,K,N,E⟩=some (wC N l):=aC0 h hl l [] fuel [] rfl (dK (by omega)) (AP _)
theorem aFd{l:List Int}(hso:N.Pairwise (fun a b=>a.ID<b.ID)){y:Nd}(hy:y∈N):askB N l y.ID=askN l y:=by
 unfold askB;cases hc:askN l y with
 | true=>exact Bv.2 ⟨y,hy,by rw [hc,Ae rfl]; rfl⟩
 | false =>
   refine BJ.2 fun m hm hh=>?_
   rw [Av,Cq] at hh;have:=sT hso hm hy hh.1;subst this;rw [hc] at hh; cases hh.2
theorem aDH{a b:Int}(h:FV a ⟨24,b,N,E⟩){l:List Int}(hl:l.length≤1000)(id:Int):kL ⟨R,K,N,E⟩ l id=some (askB N l id):=by
 have hln:N.length≤24:=h.ln;have hso:N.Pairwise (fun a b=>a.ID<b.ID):=h.so;obtain ⟨i,hi,hp⟩:=aBK (t:=⟨R,K,N,E⟩) (by show N.length≤1000; omega) id;have hp:Pl N id i:=hp;unfold kL;rw [hi,bnoS,bndD];cases hp with
 | yes A y C hN e _ =>
   have hg:gix N (A.length:Int)=some y:=dL hN;have hy:y∈N:=by rw [hN]; simp
   rw [Ae (show 0≤(A.length:Int) by omega),AQ,gdtt]
   show bno (gix N (A.length:Int)) _=_
   rw [hg,bnoS,bndD,BF,in19 (by omega),←e,aFd hso hy];unfold askN;cases y.af <;> rfl
 | no hno =>
   rw [show decide (0≤(-1:Int))=false from rfl,ft,gdff,bnoS,bndD,Bu,ft,gdff,bnoS,bndD,Bu]
   congr 1
   refine (BJ.2 fun m hm hh=>?_).symm;rw [Av,Cq] at hh;exact hno m hm hh.1
theorem aCZ{a b:Int}(h:FV a ⟨24,b,N,E⟩){l:List Int}(hl:l.length≤1000)(id:Int):∀ (r q:List Nd) (f:Nat),N=q++r→r.length<f →
 gM ⟨R,K,N,E⟩ l id f (q.length:Int)=some (r.any fun n=>askN l n&&decide (id∈fL N N.length n.ID))
 | _,_,0,_,hf=>Ay hf (by omega)
 | [],q,f+1,hq,hf=>by
   rw [gM,bndD]
   show (bif decide ((q.length:Int)<(N.length:Int)) then _ else _)=_
   rw [oO hq,bJ]; rfl
 | n :: r,q,f+1,hq,hf=>by
   have hln:N.length≤24:=h.ln;have hso:N.Pairwise (fun a b=>a.ID<b.ID):=h.so;have hn:n∈N:=by rw [hq]; simp
   obtain ⟨rk,htr⟩:∃ rk,Tr N rk:=h.tr;obtain ⟨p1,p2⟩:=qU htr.so htr.rk htr.pa N.length n.ID ⟨n,hn,rfl⟩;have p3:=sD p1 p2;rw [AR,An] at p3;have hrec:=aCZ h hl id r (q++[n]) f (eO hq) (by simp at hf ⊢; omega);rw [gM,bndD]
   show (bif decide ((q.length:Int)<(N.length:Int)) then bno (gix N (q.length:Int)) _ else _)=_
   rw [lJ hq,bO,dL hq,bnoS,aDH h hl,bnoS,aFd hso hn,DL];cases hk:askN l n with
   | false =>
     rw [ft,gdff,bnoS,gdff,bnoS,gdff,bnoS,bndD,Bu,bJ,bndD,w_at hq (by omega),hrec,Bu,Cd]
   | true =>
     rw [AQ,gdtt,bnoS,gdtt,PathR h,Ao ⟨n,hn,rfl⟩,bnoS,gdtt,in19 (by omega),bnoS,bndD,BF];cases decide (id∈fL N N.length n.ID) with
     | true=>rfl
     | false=>rw [bJ,bndD,w_at hq (by omega),hrec,Cd]
theorem aJK{a b:Int}(h:FV a ⟨24,b,N,E⟩){l:List Int}(hl:l.length≤1000)(id:Int):nL ⟨R,K,N,E⟩ l id=some (actQ N l N id):=by
 have hln:N.length≤24:=h.ln;have hL:=aCZ (R:=R) (K:=K) h hl id N [] fuel rfl (dK (by omega));rw [show ((([]:List Nd).length:Nat):Int)=0 from rfl] at hL;unfold nL;rw [aDH h hl,bnoS,hL];have e:actQ N l N id=(askB N l id||N.any fun n=>askN l n&&decide (id∈fL N N.length n.ID)):=by
  unfold actQ askB;rw [DI,BB];simp only [Bv,Av,BB,decide_eq_true_eq];constructor
  · rintro ⟨n,h1,h2,h3 | h3⟩
    · exact .inl ⟨n,h1,h3,h2⟩
    · exact .inr ⟨n,h1,h2,h3⟩
  · rintro (⟨n,h1,h2,h3⟩ | ⟨n,h1,h2,h3⟩)
    · exact ⟨n,h1,h3,.inl h2⟩
    · exact ⟨n,h1,h2,.inr h3⟩
 rw [e];cases askB N l id <;> rfl
theorem aBo{a b:Int}(h:FV a ⟨24,b,N,E⟩){l:List Int}(hl:l.length≤1000)(at_:Int):∀ (r q:List Nd) (f:Nat) (acc:List Mb),N=q++r→r.length<f→acc.length≤q.length →
 gA ⟨R,K,N,E⟩ l at_ f (q.length:Int) acc=some ⟨at_,acc++(r.filter fun n=>decide (n.aa=at_)&&actQ N l N n.ID).map mkM⟩
 | _,_,0,_,_,hf,_=>Ay hf (by omega)
 | [],q,f+1,acc,hq,hf,ha=>by
   rw [gA,bndD]
   show (bif decide ((q.length:Int)<(N.length:Int)) then _ else _)=_
   rw [oO hq,bJ]
   show _=some (⟨at_,acc++[]⟩:Gr)
   rw [Ax]
 | n :: r,q,f+1,acc,hq,hf,ha=>by
   have hln:N.length≤24:=h.ln;have hql:q.length+1≤24:=by rw [hq] at hln; simp at hln; omega
   have h1:=aBo h hl at_ r (q++[n]) f acc (eO hq) (by simp at hf ⊢; omega) (by simp; omega);have h2:=aBo h hl at_ r (q++[n]) f (acc++[mkM n]) (eO hq) (by simp at hf ⊢; omega) (by simp; omega);rw [gA,bndD]
   show (bif decide ((q.length:Int)<(N.length:Int)) then bno (gix N (q.length:Int)) _ else _)=_
   rw [lJ hq,bO,dL hq,bnoS,bndD,aJK h hl,CI]
   by_cases c1:n.aa=at_
   · rw [Ae c1,AQ,gdtt,bnoS,bndD,BF];cases actQ N l N n.ID with
     | true =>
       rw [bO]
       show bno (app 24 acc [mkM n]) _=_
       rw [kI (by simp; omega) (by simp; omega),bnoS,bndD,w_at hq (by omega),h2,AA]; rfl
     | false=>rw [bJ,bndD,w_at hq (by omega),h1]; rfl
   · rw [Ad c1,ft,gdff,bnoS,bndD,Bu,bJ,bndD,w_at hq (by omega),h1]; rfl
theorem aHl{a b:Int}(h:FV a ⟨24,b,N,E⟩){l:List Int}(hl:l.length≤1000)(at_:Int):oC ⟨R,K,N,E⟩ l at_=some ⟨at_,grpM N l at_⟩:=by
 have hln:N.length≤24:=h.ln;exact aBo h hl at_ N [] fuel [] rfl (dK (by omega)) (AP _)
end
end Go.Fn
open Nat renaming le_of_lt → FL,le_trans → BG
open _root_ renaming congrArg → AH
open Go Go.IL
namespace Go.Fn
section
variable {N:List Nd} {R K:Int} {E:List Int}
theorem aI3{l:List Int}(h:∀ n∈N,askN l n=false)(at_:Int):grpM N l at_=[]:=by
 unfold grpM;rw [Cs.2 fun n hn=>?_]; rfl;have:actQ N l N n.ID=false:=BJ.2 fun m hm=>by rw [h m hm]; simp
 rw [this]; simp
theorem aFS{r:Int→Nat}(hT:Tr N r){l:List Int}{at_:Int}(h:∃ m∈N,m.aa=at_∧actQ N l N m.ID=true):grpM N l at_≠[]:=by
 obtain ⟨m,h1,h2,h3⟩:=h;intro h0;have:mkM m∈grpM N l at_:=Ak.2 ⟨m,AN.2 ⟨h1,by rw [Ae h2,h3]; rfl⟩,rfl⟩;rw [h0] at this; cases this
theorem aE6{a b:Int}(h:FV a ⟨24,b,N,E⟩){b':Int}(hF:FV b' ⟨24,b',N,E⟩){r:Int→Nat}(hT:Tr N r){l:List Int}(hl:l.length≤1000) :
 ∀ (k f turn:Nat) (out:List Gr) (at_:Int),pH out→PIn N out→AtI N l at_→muR N r at_≤k→turn+k=N.length+1→k≤f → 
 jV ⟨R,K,N,E⟩ l f out at_ (turn:Int)=zX N l k out at_
 | 0,f,turn,out,at_,_,_,_,hk,_,_=>by exfalso; unfold muR at hk; split at hk <;> omega
 | k+1,0,turn,out,at_,_,_,_,_,_,hf=>by omega
 | k + 1,f+1,turn,out,at_,hg,hp,ha,hk,ht,hf=>by
   have hln:N.length≤24:=h.ln;have hat:hasN N at_∨at_=0:=by
    by_cases h0:at_=0
    · exact .inr h0
    · exact .inl (ha.nd h0)
   have hr:0≤at_∧at_≤1048576:=by
    rcases hat with ⟨m,hm,e⟩ | e
    · have:=(h.ra m hm).1; omega
    · omega
   obtain ⟨hm1,hm2⟩:=aDx hF l at_;have hne:grpM N l at_≠[]:=aFS hT ha.ac;obtain ⟨g1,g2,pa,x,pc,g3,g4,g5,g6,g7⟩:=aBZ hln hg hp hat hr hm1 hm2;have hgr:grpG (nC out ⟨at_,grpM N l at_⟩) at_=x.ab:=by
    rw [g3,←g4]; exact aHf fun y hy=>by rw [g4]; exact g6 y hy
   have hx:x∈nC out ⟨at_,grpM N l at_⟩:=by rw [g3]; simp
   have hxl:=g1.ml x hx;have hnl:(grpM N l at_).length≠0:=fun e=>hne (AV.1 e)
   have hplc:iC (nC out ⟨at_,grpM N l at_⟩) at_=some ((pa.length:Int),true):=by rw [←g4]; exact aCp (g4.symm ▸ g1) (by rw [g4]; exact g3)
   rw [jV,bndD]
   show (bif decide ((turn:Int)≤(N.length:Int)) then _ else _)=_
   rw [Ae (by omega),bO,aHl h hl,bnoS,bndD]
   show (bif decide (((grpM N l at_).length:Int)=0) then _ else _)=_
   rw [Ad (by omega),bJ,made20 hg (g:=⟨at_,grpM N l at_⟩) hr hm2,bnoS,hplc,bnoS]
   show bno (gix (nC out ⟨at_,grpM N l at_⟩) (pa.length:Int)) _=_
   rw [dL g3,bnoS];cases hm2':x.ab with
   | nil =>
     rw [hm2'] at g5;exact Ay g5.symm hne
   | cons y c =>
     have hlr:c.length≤1000:=by rw [hm2'] at hxl; simp at hxl; omega
     have hbm:uI y c∈x.ab:=by
      rw [hm2']
      rcases aA0 c y with e | e
      · rw [e]; simp
      · exact Bg _ e
     obtain ⟨n,hn,en⟩:∃ n∈N.filter (fun n=>decide (n.aa=at_)&&actQ N l N n.ID),mkM n=⟨(uI y c).ID,(uI y c).ae,0⟩:=by
      have:(⟨(uI y c).ID,(uI y c).ae,0⟩:Mb)∈grpM N l at_:=by rw [←g5]; exact Ak.2 ⟨_,hbm,rfl⟩
      exact Ak.1 this
     have hid:n.ID=(uI y c).ID:=AH aL.ID en;obtain ⟨hnN,hnP⟩:=AN.1 hn;rw [Av,decide_eq_true_eq] at hnP;have htop:topM (grpG (nC out ⟨at_,grpM N l at_⟩) at_)=n.ID:=by rw [hgr,hm2',hid]; rfl
     rw [first20 hm2' hlr (g1.mr x hx),bnoS,←hid,aDH h hl,bnoS];unfold zX
     show (bif askB N l n.ID then some (nC out ⟨at_,grpM N l at_⟩,n.ID) else _)=(bif askB N l (topM (grpG (nC out ⟨at_,grpM N l at_⟩) at_)) then some (nC out ⟨at_,grpM N l at_⟩,topM (grpG (nC out ⟨at_,grpM N l at_⟩) at_)) else zX N l k (nC out ⟨at_,grpM N l at_⟩) (topM (grpG (nC out ⟨at_,grpM N l at_⟩) at_)))
     rw [htop];have hpath:(fL N N.length n.ID).any (askI N l)=false:=by
      rw [xK hT hnN,hnP.1]
      by_cases h0:at_=0
      · rw [Ao h0]; rfl
      · obtain ⟨n1,n2⟩:=ha.nk h0;rw [Al h0,DL,n1,n2]; rfl
     cases hq:askB N l n.ID with
     | true=>rfl
     | false =>
       rw [bJ,bJ,bndD,w64 (by omega) (by omega)];have hmu:=aJf hT hnN;rw [hnP.1] at hmu;exact aE6 h hF hT hl k f (turn+1) _ n.ID g1 g2 ⟨fun _=>⟨n,hnN,rfl⟩,aIE hT hnP.2 hq,fun _=>⟨by rw [←aIA]; exact hq,hpath⟩⟩ (by omega) (by omega) (by omega)
theorem aCH{l:List Int}:∀ (k j:Nat) (out:List Gr) (at_:Int) (x:List Gr×Int),zX N l k out at_=some x→k≤j→zX N l j out at_=some x
 | 0,_,_,_,_,h,_=>by cases h
 | k+1,0,_,_,_,_,hj=>by omega
 | k+1,j+1,out,at_,x,h,hj=>by
   unfold zX at h ⊢
   revert h
   show (bif askB N l (topM (grpG (nC out ⟨at_,grpM N l at_⟩) at_)) then some (nC out ⟨at_,grpM N l at_⟩,topM (grpG (nC out ⟨at_,grpM N l at_⟩) at_)) else zX N l k (nC out ⟨at_,grpM N l at_⟩) (topM (grpG (nC out ⟨at_,grpM N l at_⟩) at_)))=some x→(bif askB N l (topM (grpG (nC out ⟨at_,grpM N l at_⟩) at_)) then some (nC out ⟨at_,grpM N l at_⟩,topM (grpG (nC out ⟨at_,grpM N l at_⟩) at_)) else zX N l j (nC out ⟨at_,grpM N l at_⟩) (topM (grpG (nC out ⟨at_,grpM N l at_⟩) at_)))=some x
   cases askB N l (topM (grpG (nC out ⟨at_,grpM N l at_⟩) at_)) with
   | true=>exact fun h=>h
   | false=>exact fun h=>aCH k j _ _ x h (by omega)
theorem PickR{A:AS}{ns:List Nk}{first:Int}{cl:List Int}{R' K':Int}(h:TS A ns first cl R' K' N E){l:List Int}(hl:l.length≤1000){st:List Gr}(hst:fitG st):nG st ⟨R,K,N,E⟩ l=aIH N l st:=by
 obtain ⟨out,id,h1,h2,h3⟩:=aDM h 0 0 hl hst;have hln:N.length≤24:=h.fv.ln;obtain ⟨r,hT⟩:∃ r,Tr N r:=h.fv.tr;unfold nG;rw [aIL hst,bnoS,bndD,aHl h.fv hl,kept20 h.fv (by have:=hst.1; omega)];rw [h2]
 rcases h3 with ⟨k1,k2,k3,k4,k5,k6⟩ | ⟨k1,k2,k3⟩
 · have hne:=aFS hT (aDK hT k2);have hnl:(grpM N l 0).length≠0:=fun e=>hne (AV.1 e)
   obtain ⟨q1,q2⟩:=aDl (N:=N) k1;have hmu:=aJg N r 0;have hat:AtI N l 0:=⟨fun h0=>Ay rfl h0,aDK hT k2,fun h0=>Ay rfl h0⟩;have hL:=aE6 (R:=R) (K:=K) h.fv h.fv hT hl (N.length+1) fuel 0 (wC N st) 0 q1 q2 hat hmu (by omega) (FL (dK (by omega)));rw [Ae (pT.2 k1),AD,bJ,bnoS,bndD]
   show (bif decide (((grpM N l 0).length:Int)=0) then _ else _)=_
   rw [Ad (by omega),bJ,bnoS];refine hL.trans ?_;obtain ⟨w33,w34,w35,hI,_⟩:=aCy h 0 0 hl st st N [] fuel [] [] [] rfl (dK (by omega)) (aJi N l);obtain ⟨o2,i2,_,e2,_⟩:=aEJ h hT 0 0 hI (N.length+1) fuel (wC N st) 0 q1 q2 hat hmu (BG hmu (FL (dK (by omega))));have h25:=aCH (N.length+1) 25 _ _ _ e2 (by omega);rw [e2];unfold aIH at h2;rw [Ae (pT.2 k1),Bv.2 k2] at h2;have h2':zX N l 25 (wC N st) 0=some (out,id):=h2;rw [←h2',h25]
 · rw [k1,k2]
   rcases k3 with k3 | k3
   · rw [Ad (fun e=>k3 (pT.1 e))]; rfl
   · cases hc:decide (uD st=0) with
     | false=>rfl
     | true =>
       rw [AD,bJ,bnoS,bndD]
       show (bif decide (((grpM N l 0).length:Int)=0) then _ else _)=_
       rw [aI3 k3]; rfl
end
end Go.Fn
open Go.IntKind renaming wrap → Af
open List renaming find?_append → CX,find?_eq_none → Cc,mem_singleton → BE,not_mem_nil → Bc
open Go Go.IL
namespace Go.Fn
theorem aEs(kk:Int→List Mb→Ag (List Gr))(n:Int):∀ (r p:List Mb) (f:Nat),p.length+r.length≤1000→r.length<f→iW kk n f (p.length:Int) (iQ p++r)=kk (Af .i64 (n+1)) (iQ p++iQ r)
 | _,_,0,_,hf=>Ay hf (by omega)
 | [],p,f+1,hl,hf=>by
   have e:(p.length:Int)=((iQ p).length:Int):=by simp [iQ]
   rw [iW,bndD,Ax,e,pQ,bJ,bndD]
   show _=kk _ (iQ p++[])
   rw [Ax]
 | x::r,p,f+1,hl,hf=>by
   have e:(p.length:Int)=((iQ p).length:Int):=by simp [iQ]
   have h1:=aEs kk n r (p++[x]) f (by simp at hl ⊢; omega) (by simp at hf ⊢; omega);have e2:iQ (p++[x])++r=iQ p++(⟨x.ID,x.ae,0⟩:Mb)::r:=by simp [iQ]
   have e3:iQ (p++[x])++iQ r=iQ p++iQ (x::r):=by simp [iQ]
   have e4:Af .i64 (((iQ p).length:Int)+1)=((p++[x]).length:Int):=by
    rw [←e,w64 (by simp at hl; omega) (by simp at hl; omega)]; simp
   rw [iW,bndD,e,lJ rfl,bO,dL rfl,bnoS,sP rfl,bnoS,bndD,uE,bndD,e4,←e2,h1,e3]
theorem rmore20{l:List Gr}(h:pH l){p:Int}(hp:0≤p∧p≤1048576)(id:Int){b:Int}(hb:0≤b∧b≤1048576):oX l p id b=some (yX l p id b):=by
 have hln:=h.ln;unfold oX
 by_cases hex:∃ y∈l,y.aa=p
 · obtain ⟨y,hy,rfl⟩:=hex;obtain ⟨a,c,hl⟩:=BR hy;have hgm:=h.mem hy;have hml:=hgm.ln;have hso:=h.so;rw [hl,Bk] at hso;have hmg:yX l y.aa id b=a++⟨y.aa,aAD y.ab id b⟩::c:=by
    unfold yX;rw [hl,Bq,Ai,Ao rfl,uA (fun z hz=>Al (by have:=hso.2.2 z hz y (by simp); omega)),uA (fun z hz=>Al (by have:=(AI.1 hso.2.1).1 z hz; omega))]
   have hal:app 32 ([]:List Gr) l=some l:=by rw [kI (by simp; omega) (by simp; omega)]; rfl
   rw [aCp h hl,bnoS];simp only [AD,bJ];rw [dL hl,bnoS,kI (by simp; omega) (by simp; omega),bnoS,Bp,hmg]
   -- the loop over the members
   have key:∀ (r q:List Mb) (f:Nat),y.ab=q++r→r.length<f→(∀ m∈q,m.ID≠id)→iX l y.aa id b ((a.length:Int),true) y.ab f (q.length:Int)=some (a++⟨y.aa,aAD y.ab id b⟩::c):=by
    intro r
    induction r with
    | nil =>
      intro q f e hf hq;obtain ⟨f,rfl⟩:∃ n,f=n+1:=⟨f-1,by simp at hf; omega⟩;have hM:aAD y.ab id b=y.ab:=by
       unfold aAD;rw [Ax] at e;rw [Cc.2 fun m hm=>by rw [e] at hm; simpa using hq m hm]
      rw [iX,bndD,oO e,bJ,hM];exact AH some hl
    | cons m r ih =>
      intro q f e hf hq;obtain ⟨f,rfl⟩:∃ n,f=n+1:=⟨f-1,by simp at hf; omega⟩;rw [iX,bndD,lJ e,bO,dL e,bnoS,sP e,bnoS,bndD]
      by_cases hid:m.ID=id
      · have hm:m∈y.ab:=by rw [e]; simp
        obtain ⟨_,_,hs1,hs2⟩:=hgm.ok m hm;have hq':∀ z∈q,z.ID≠m.ID:=by rw [hid]; exact hq
        have hr':∀ z∈r,z.ID≠m.ID:=fun z hz=>by
         have:=hgm.so;rw [e,Bk] at this;have:=(AI.1 this.2.1).1 z hz; omega
        have hf2:y.ab.find? (fun m=>decide (m.ID=id))=some m:=by
         rw [e,CX,Cc.2 (fun z hz=>by simpa using hq z hz)]; simp [hid]
        have hql:q.length≤24:=by rw [e] at hml; simp at hml; omega
        rw [Ae hid,AD,bJ];have hM:aAD y.ab id b=addM (if 1099511627776-b<m.ag then iQ y.ab else y.ab) id b:=by unfold aAD; rw [hf2]
        -- the end of it: some members whose Sent has room
        have fin:∀ (q2 r2:List Mb) (m2:Mb) (g:Nat) (n:Int),q2.length=q.length→m2.ID=id→(∀ z∈q2,z.ID≠m2.ID)→(∀ z∈r2,z.ID≠m2.ID)→0≤m2.ag→m2.ag+b≤1099511627776 →
         fI l y.aa b ((a.length:Int),true) (q.length:Int) (g+1) n (q2++m2::r2)=some (a++⟨y.aa,addM (q2++m2::r2) id b⟩::c):=by
         intro q2 r2 m2 g n k1 k2 k3 k4 k5 k6;have g1:gix (q2++m2::r2) (q.length:Int)=some m2:=by rw [←k1]; exact dL rfl
         have g2:(q2++m2::r2)[((q.length:Nat):Int).toNat]? = some m2:=by rw [←k1]; exact sP rfl
         have g3:(q2++m2::r2).set ((q.length:Nat):Int).toNat (⟨m2.ID,m2.ae,m2.ag+b⟩:Mb)=addM (q2++m2::r2) id b:=by rw [←k1,uE,←k2,aCY k3 k4]
         have hw:Af .i64 (m2.ag+b)=m2.ag+b:=w64 (by omega) (by omega);rw [fI,g1,g2,bndD];cases hd:decide (n<((q2++m2::r2).length:Int)) with
         | false =>
           rw [ft,gdff,bnoS,bnoS,bndD,bndD,bndD,Bu,bJ,bnoS,bnoS,hw,bndD,bnoS,bnoS,g3,bndD,hal,bnoS,dL hl,bnoS,sP hl,bnoS,bndD]
           congr 1
           rw [hl]; exact uE
         | true =>
           rw [AQ,gdtt,bnoS,bnoS,bndD,hw,bndD,Ad (show ¬1099511627776<m2.ag+b by omega),bndD,Ct,bJ,bnoS,bnoS,hw,bndD,bnoS,bnoS,g3,bndD,hal,bnoS,dL hl,bnoS,sP hl,bnoS,bndD]
           congr 1
           rw [hl]; exact uE
        rw [hM];have hfu:∃ g:Nat,fuel=g+1+1:=⟨2 ^ 64-2,rfl⟩;obtain ⟨g,hg⟩:=hfu
        by_cases hc:1099511627776-b<m.ag
        · rw [Ao hc,hg,fI,bndD,Ae (show (0:Int)<(y.ab.length:Int) by rw [e]; simp; omega),AQ,gdtt,dL e,bnoS,gdtt,sP e,bnoS,bndD,w64 (by omega) (by omega),bndD,Ae (show 1099511627776<m.ag+b by omega),bndD,BF,bO];have h2:=aEs (fI l y.aa b ((a.length:Int),true) (q.length:Int) (g+1)) 0 y.ab [] fuel (by simp; omega) (dK (by omega));refine h2.trans ?_
          show fI l y.aa b ((a.length:Int),true) (q.length:Int) (g+1) _ (iQ y.ab)=_
          rw [e,aBw];exact fin (iQ q) (iQ r) ⟨m.ID,m.ae,0⟩ g _ (by simp [iQ]) hid (aA1 hq') (aA1 hr') (by show (0:Int)≤0; omega) (by show 0+b≤_; omega)
        · rw [Al hc,hg,e];exact fin q r m (g+1) 0 rfl hid hq' hr' hs1 (by omega)
      · rw [Ad hid,AL,bO,bndD,w_at e (by omega)];exact ih (q++[m]) f (eO e) (by simpa using hf) fun z hz=>by
         rcases AM.1 hz with hz | hz
         · exact hq z hz
         · rw [BE.1 hz]; exact hid
   exact key y.ab [] fuel rfl (dK (by omega)) (fun _ hm=>(Bc hm).elim)
 · have hno:∀ y∈l,y.aa≠p:=fun y hy e=>hex ⟨y,hy,e⟩
   rw [aE3 h hno,bnoS]
   show some l=_
   congr 1
   exact (uA fun z hz=>Al (hno z hz)).symm
section
variable {N:List Nd} {R K:Int} {E:List Int}
theorem aGs{a b':Int}(h:FV a ⟨24,b',N,E⟩){rk:Int→Nat}(hT:Tr N rk){b:Int}(hb:0≤b∧b≤1048576){X:List Int}(hX:X.length≤1000):∀ (j:Nat) (n:Nd) (q:List Int) (f:Nat) (st:List Gr),n∈N→rk n.ID≤j→X=q++(n.ID::fL N N.length n.ID)→X.length<f+q.length→pH st →
 eL ⟨R,K,N,E⟩ b X f st (q.length:Int)=some (yC b st n.ID (fL N N.length n.ID++[0])):=by
 have hln:N.length≤24:=h.ln;have hso:N.Pairwise (fun a b=>a.ID<b.ID):=h.so;have step:∀ (n:Nd) (q t:List Int) (f:Nat) (st:List Gr),n∈N→X=q++n.ID::t→pH st→eL ⟨R,K,N,E⟩ b X (f+1) st (q.length:Int)=eL ⟨R,K,N,E⟩ b X f (yX st n.aa n.ID b) ((q++[n.ID]).length:Int):=by
  intro n q t f st hn hq hg;obtain ⟨i,hi,hp⟩:=aBK (t:=⟨R,K,N,E⟩) (by show N.length≤1000; omega) n.ID;have hp:Pl N n.ID i:=hp;have hr:0≤n.aa∧n.aa≤1048576:=by
   rcases h.pa n hn with e | ⟨m,hm,e⟩
   · omega
   · have:=(h.ra m hm).1; omega
  rw [eL,bndD,lJ hq,bO,dL hq,bnoS,hi,bnoS];cases hp with
  | yes A y C hN e _ =>
    have hy:y∈N:=by rw [hN]; simp
    have:=sT hso hy hn e;subst this
    show bno (gix N (A.length:Int)) _=_
    rw [dL hN,bnoS,bnoS,rmore20 hg hr _ hb,bnoS,bndD,w_at hq (by omega)]
  | no hno=>exact Ay rfl (hno n hn)
 have fin:∀ (n:Nd) (q:List Int) (f:Nat) (st:List Gr),n∈N→n.aa=0→X=q++(n.ID::fL N N.length n.ID)→X.length<f+q.length→pH st→eL ⟨R,K,N,E⟩ b X f st (q.length:Int)=some (yC b st n.ID (fL N N.length n.ID++[0])):=by
  intro n q f st hn h0 hq hf hg;have hpt:fL N N.length n.ID=[]:=by rw [xK hT hn,Ao h0]
  rw [hpt] at hq ⊢;have hXl:X.length=q.length+1:=by rw [hq]; simp
  obtain ⟨f,rfl⟩:∃ g,f=g+1+1:=⟨f-2,by omega⟩;rw [step n q [] (f+1) st hn hq hg,eL,bndD,oO (eO hq),bJ,h0];rfl
 intro j
 induction j with
 | zero =>
   intro n q f st hn hj hq hf hg
   by_cases h0:n.aa=0
   · exact fin n q f st hn h0 hq hf hg
   · have:=hT.rk n hn h0; omega
 | succ j ih =>
   intro n q f st hn hj hq hf hg
   by_cases h0:n.aa=0
   · exact fin n q f st hn h0 hq hf hg
   · have hpt:fL N N.length n.ID=n.aa::fL N N.length n.aa:=by rw [xK hT hn,Al h0]
     have hrk:=hT.rk n hn h0
     rcases h.pa n hn with e | ⟨m,hm,e⟩
     · exact Ay e h0
     · rw [hpt] at hq ⊢;rw [←e] at hq hrk ⊢;have hXl:q.length+2≤X.length:=by rw [hq]; simp
       obtain ⟨f,rfl⟩:∃ g,f=g+1:=⟨f-1,by omega⟩;rw [step n q _ f st hn hq hg,←e];exact ih m (q++[n.ID]) f _ hm (by omega) (by rw [hq]; simp) (by simp; omega) (aAE hg _ _ hb)
theorem aIM{a b':Int}(h:FV a ⟨24,b',N,E⟩){st:List Gr}(hst:fitG st)(id b:Int):kM st ⟨R,K,N,E⟩ id b=some (rZ N st id b):=by
 have hln:N.length≤24:=h.ln;obtain ⟨rk,hT⟩:∃ rk,Tr N rk:=h.tr;unfold kM rZ;rw [aIL hst,bnoS,bndD];cases hc:decide (uD st=0) with
 | false =>
   rw [AL,tf,gdff,bnoS,bndD,bndD,DB,tf,gdff,bnoS,bndD]; rfl
 | true =>
   have hg:=pT.1 (of_decide_eq_true hc);obtain ⟨i,i1,i2,i3⟩:=vX (R:=R) (K:=K) h id;rw [AD,AQ,gdtt,i1,bnoS,bndD,bndD,Cd]
   by_cases hh:hasN N id
   · rw [Ad (show ¬i<0 by have:=i2 hh; omega),AQ,gdtt,xI,bnoS,bndD,Cd,(aBy N id).2 hh,BF,Cn];cases hb:inB b 0 1048576 with
     | false=>rfl
     | true =>
       have hbr:=yB.1 hb;obtain ⟨p1,p2⟩:=qU hT.so hT.rk hT.pa N.length id hh;have p3:=sD p1 p2;rw [AR,An] at p3;rw [AD,bJ,bO,PathR h,Ao hh,bnoS,kI (by simp; omega) (by simp; omega),bnoS];obtain ⟨n,hn,rfl⟩:=hh;exact aGs h hT hbr (X:=[n.ID]++fL N N.length n.ID) (by simp; omega) (rk n.ID) n [] fuel st hn (AP _) rfl (dK (by simp; omega)) hg
   · have hany:(N.any fun n=>decide (n.ID=id))=false:=by
      cases hx:N.any fun n=>decide (n.ID=id) with
      | true=>exact Ay ((aBy N id).1 hx) hh
      | false=>rfl
     rw [i3 hh,show decide ((-1:Int)<0)=true from rfl,tf,gdff,bnoS,bndD,DB,bO,hany,Ct]; rfl
theorem NextR{A:AS}{ns:List Nk}{first:Int}{cl:List Int}{R' K':Int}(h:TS A ns first cl R' K' N E){l:List Int}(hl:l.length≤1000){st:List Gr}(hst:fitG st)(b:Int):oZ st ⟨R,K,N,E⟩ l b=aJM N l b st:=by
 obtain ⟨out,id,h1,h2,h3⟩:=aDM h 0 0 hl hst;unfold oZ aJM;rw [PickR h hl hst,h2,bnoS,bndD,bnoS]
 by_cases h0:id=0
 · rw [Ae h0]; rfl
 · have hf:fitG out:=by
    rcases h3 with ⟨_,_,k,_⟩ | ⟨_,k,_⟩
    · exact k.fit
    · exact Ay k h0
   rw [Ad h0]
   show bno (kM out ⟨R,K,N,E⟩ id b) _=_
   rw [aIM h.fv hf,bnoS]; rfl
end
end Go.Fn
open Go Go.IL
namespace Go.Fn
theorem same20P{l m:List Gr}(h:fitG l):qS l m=some (decide (l=m)):=by
 unfold qS cT;rw [aBq (L:=bF l m) (z:=true) (by have:=h.1; omega) ?_ ?_,Cn,bnoS]
 · intro p g r s k t f h1 h2 h3;have hg:=h.2 g (by rw [h1]; simp);have hm':gix m (p.length:Int)=some k:=by rw [h3]; exact dL h2
   have hs:sF g k=some (decide (g=k)):=by
    unfold sF;rw [bndD,aHw (by omega),gr_eq];cases decide (g.aa=k.aa) <;> rfl
   rw [bF,bndD,lJ h1,bO,dL h1,bnoS,hm',bnoS,hs,bnoS,bndD,w_at h1 (by have:=h.1; omega)]
 · intro h1 f;rw [bF,bndD,pQ,bJ]
theorem aHE{l:List Gr}(hl:l.length≤30):∀ (r q:List Gr) (f:Nat),l=q++r→r.length<f→∃ b,iF l f (q.length:Int)=some b∧(b=true→∀ g∈r,g.ab.length≤30)
 | _,_,0,_,hf=>Ay hf (by omega)
 | [],q,f+1,hq,hf=>⟨true,by rw [iF,bndD,oO hq,bJ],fun _ g hg=>(by cases hg)⟩
 | g :: r,q,f+1,hq,hf=>by
   obtain ⟨b,b1,b2⟩:=aHE hl r (q++[g]) f (eO hq) (by simp at hf ⊢; omega);rw [iF,bndD,lJ hq,bO,dL hq,bnoS,bndD]
   by_cases c:30<g.ab.length
   · rw [Ae (by omega),bO];exact ⟨false,rfl,fun h=>(by cases h)⟩
   · rw [Ad (by omega),bJ,bndD,w_at hq (by omega)];refine ⟨b,b1,fun h z hz=>?_⟩
     rcases Au.1 hz with rfl | hz
     · omega
     · exact b2 h z hz
theorem light20(l:List Gr):∃ b,oF l=some b∧(b=true→fitG l):=by
 unfold oF;rw [bndD]
 by_cases h:30<l.length
 · rw [Ae (by omega),bO]; exact ⟨false,rfl,fun h=>(by cases h)⟩
 · obtain ⟨b,b1,b2⟩:=aHE (l:=l) (by omega) l [] fuel rfl (dK (by omega));rw [Ad (by omega),bJ];exact ⟨b,b1,fun hb=>⟨by omega,fun g hg=>by have:=b2 hb g hg; omega⟩⟩
theorem aEo{N:List Nd}{st:List Gr}(h:fitG st)(id b:Int):fitG (rZ N st id b):=by
 by_cases hg:uD st=0
 · exact (aAd (pT.1 hg) id b).fit
 · unfold rZ;rw [Ad hg]; exact h
theorem aE4{A:AS}{ns:List Nk}{first:Int}{cl:List Int}{R K:Int}{N:List Nd}{E:List Int}(h:TS A ns first cl R K N E){asks:List (List Int)}(hk:asks.length≤12) :
 ∀ (r q:List (List Int)) (f:Nat) (st:List Gr),asks=q++r→r.length<f→fitG st→fC asks R K A.Cells A.Free A.Used ns first cl R K N E f st st (q.length:Int)=some true
 | _,_,0,_,_,hf,_=>Ay hf (by omega)
 | [],q,f+1,st,hq,hf,hs=>by
   rw [fC,bndD,oO hq,bJ,aEm]; rfl
 | a :: r,q,f+1,st,hq,hf,hs=>by
   rw [fC,bndD,lJ hq,bO,dL hq,bnoS,bndD]
   by_cases ha:30<a.length
   · rw [Ae (by omega),bO,aEm]; rfl
   · rw [Ad (by omega),bJ];obtain ⟨out,id,p1,p2,p3⟩:=aDM h R K (l:=a) (by omega) hs;have hof:fitG out:=by
      rcases p3 with ⟨_,_,k,_⟩ | ⟨k,_⟩
      · exact k.fit
      · rw [k]; exact hs
     obtain ⟨o2,i2,n1,n2,n3⟩:=Next_ts h R K (l:=a) (by omega) hs (Af .i64 ((a.length:Int)*7));have ho2:fitG o2:=by
      rcases n3 with ⟨_,_,k,_⟩ | ⟨k,_⟩
      · exact k.fit
      · rw [k]; exact hs
     have hc:=fun x=>aEo (N:=N) hs x (Af .i64 ((a.length:Int)*7))
     have hrec:=aE4 h hk r (q++[a]) f o2 (eO hq) (by simp at hf ⊢; omega) ho2;rw [bnoS,bndD,bnoS,p1,bnoS,bnoS,PickR h (by omega) hs,p2,bnoS,bndD,aD8 h R K hs,bnoS,bndD,aIM h.fv hs,bnoS,bndD]
     show bno (gd ((!decide (id=id)) == false) (jU out) default) _=_
     rw [Ae rfl,AD,AQ,gdtt,lback hof,bnoS]
     show bno (gd true (gE out out) default) _=_
     rw [gdtt,aJL hof,Ae rfl,bnoS,bndD]
     show bno (gd true (jU (rZ N st (Af .i64 (id+(q.length:Int))) _)) default) _=_
     rw [gdtt,lback (hc _),bnoS]
     show bno (gd true (gE (rZ N st (Af .i64 (id+(q.length:Int))) _) (rZ N st (Af .i64 (id+(q.length:Int))) _)) default) _=_
     rw [gdtt,aJL (hc _),Ae rfl,bnoS,bndD]
     show bno (gd true (qS st out) default) _=_
     rw [gdtt,same20P hs,bnoS]
     show bno (gd true (gE st out) default) _=_
     rw [gdtt,aJL hs,bnoS,bndD,bndD,AQ];rw [show (false || !true || !true || !true)=false from rfl,bJ,bnoS,n1,bnoS,bnoS,NextR h (by omega) hs,n2,bnoS,bndD]
     show bno (gd ((!decide (i2=i2)) == false) (jU o2) default) _=_
     rw [Ae rfl,AD,AQ,gdtt,lback ho2,bnoS]
     show bno (gd true (gE o2 o2) default) _=_
     rw [gdtt,aJL ho2,Ae rfl,bnoS,bndD]
     show bnd (Af .i64 ((q.length:Int)+1)) _=_
     rw [bndD,w_at hq (by omega)];exact hrec
theorem aE5{l:List dB}(hg:GoodD l)(hl:l.length≤60){st:List Gr}(hs:fitG st){asks:List (List Int)}(hk:asks.length≤12){R K:Int}:∀ (r q:List dB) (f:Nat) {A:AS} {ns:List Nk} {first:Int} {cl:List Int} {N:List Nd} {E:List Int},TS A ns first cl R K N E→l=q++r→r.length<f →
 fD st l asks f (q.length:Int) R K A.Cells A.Free A.Used ns first cl R K N E=some true
 | _,_,0,_,_,_,_,_,_,_,_,hf=>Ay hf (by omega)
 | [],q,f+1,A,ns,first,cl,N,E,h,hN,hf=>by
   rw [fD,bndD,oO hN,bJ,lown hs,bnoS,aBu hs,bnoS,aIL hs,bnoS,bndD,Ae rfl,AD,bJ];exact aE4 h hk asks [] fuel st rfl (dK (by omega)) hs
 | d::r,q,f+1,A,ns,first,cl,N,E,h,hN,hf=>by
   have hd:=hg d (by rw [hN]; simp);obtain ⟨A',ns',first',cl',g1,g2⟩:=Do_tsS h hd.1;have hM:=ModelR (R:=R) (K:=K) h.fv hd.1;have hrec:=aE5 hg hl hs hk r (q++[d]) f g2 (by rw [hN]; simp) (by simpa using hf);rw [fD,bndD,lJ hN,bO,dL hN,bnoS,g1,bnoS,bnoS,hM,bnoS,w_at hN (by omega),bndD];exact hrec
theorem aFp{st:List Gr}{l:List dB}{asks:List (List Int)}(hg:GoodD l):kW st l asks=some true:=by
 obtain ⟨b,b1,b2⟩:=light20 st;unfold kW;rw [b1,bnoS,bndD,bndD,bndD,bndD]
 by_cases h:b=true∧l.length≤40∧asks.length≤12
 · obtain ⟨h1,h2,h3⟩:=h;have hnew:oG 24 3=some (⟨24,3,[],[]⟩,0):=by
    unfold oG;simp only [bndD,Ad (show ¬(24:Int)<1 by omega),Ad (show ¬(24:Int)<24 by omega),Ad (show ¬(3:Int)<0 by omega),Ad (show ¬(24:Int)<3 by omega),Et,bJ]
   have hL:=aE5 hg (by omega) (b2 h1) h3 l [] fuel (new_ts (R:=24) (K:=3) (by decide) (by decide)) rfl (dK (by omega));rw [h1,Ad (by omega),Ad (by omega),AD,Et,Et,bJ,aHY,aHY,bnoS,Ae (by decide),show ((!true) == false)=true from rfl,gdtt,bnoS,Ae (by decide),bndD,show ((!true) || !true)=false from rfl,bJ]
   show bno (some (⟨[],-1,0⟩:AS)) _=_
   rw [bnoS,hnew,bnoS];exact hL
 · have:(((!b)||decide (40<(l.length:Int)))||decide (12<(asks.length:Int)))=true:=by
    rw [BB,BB,decide_eq_true_eq,decide_eq_true_eq];cases b with
    | false=>exact .inl (.inl rfl)
    | true =>
      by_cases c:l.length≤40
      · exact .inr (by have hh:¬ asks.length≤12:=fun hh=>h ⟨rfl,c,hh⟩; omega)
      · exact .inl (.inr (by omega))
   rw [this,bO,aEm]; rfl
end Go.Fn
open Go renaming Program → Ba,TypeId → At,Value → AG
open Go.IL.D renaming flat → Ac
open List renaming drop_drop → Ev,drop_of_length_le → BY,getElem?_append_left → AJ,getElem?_append_right → Bx,getElem?_eq_getElem → AY,getElem?_eq_some_iff → Aj,getElem?_of_mem → Fg,mem_of_mem_drop → Fa,mem_of_mem_take → Dp,sum_cons → CQ,take_append_drop → AX
open Nat renaming add_assoc → Ed,zero_add → Bj,zero_mul → CY
open Option renaming bind_eq_some_iff → EI
open Go.RowKit Go.WideShapes Go.ChangeShapes
namespace Go.IL

def aA2(v:Value):Prop:=∀ a n c,v = .slice (some a) n c→a.spot=none
theorem aDS{P:Program}{w:World}{r:Reach}{b:Nat}{t:TypeId}{v:Value}(h:Cell.okWide P w r b t v):aA2 v:=by
 intro a n c e;subst e;have h2:Cell.ok P w r b t (.slice (some a) n c):=by
  unfold Cell.okWide at h;split at h <;> first | exact h | (rename_i h3 _; cases h3) | (rename_i h3; cases h3) | skip
  all_goals first | exact h | simp_all
 unfold Cell.ok at h2;split at h2 <;> simp_all [World.has]
theorem aIU{P:Program}{w:World}{r:Reach}{b:Nat}{t:TypeId}{v:Value}(h:Value.okWide P w r b t v):∀ u∈v.cells.toList,aA2 u:=by
 have agg:∀ cs:Array AG,Row.okWide P w r b t cs→∀ u∈cs.toList,aA2 u:=by
  intro cs ⟨ts,_,_,h3⟩ u hu;obtain ⟨i,hi⟩:=Fg hu;obtain ⟨q,_,hq⟩:=h3 i u (by simpa using hi);exact aDS hq
 unfold Value.okWide at h;split at h
 · obtain ⟨cs,rfl,_,h⟩:=h; simpa [Value.cells] using agg cs h
 · obtain ⟨cs,rfl,_,h⟩:=h; simpa [Value.cells] using agg cs h
 · have h2:=aDS h;intro u hu;cases v with
   | agg cs =>
     exfalso;unfold Cell.okWide at h;split at h <;> simp_all [Cell.ok]
   | _=>simp [Value.cells] at hu; subst hu; exact h2

def Env.none(w:World):Env:=⟨w,fun _ _=>False⟩
def OpD(P:Program)(sp:Bool)(t:TypeId)(Q:List D→Prop):Prop :=
 ∀ {H:Type} {enc:At×AG→H} {w:World} {base:Nat} {spare:Nat→Bool} {held:Bool} {fuel:Nat} {cs:List AG} {x:DataW H×List MemPlace},
   DataW.trod enc P w base spare held fuel t cs=some x→(sp=true→∀ v∈cs,aA2 v)→∃ ds,RdL (Env.none w) β0 cs ds∧Q ds
def qInt(k:IntKind)(ds:List D):Prop:=∃ n:Int,ds=[.int k n]∧(k.min≤n∧n≤k.max)
def qBool(ds:List D):Prop:=∃ b:Bool,ds=[.bool b]
def qSlice{α:Type}(f:Enc α)(wf:α→Prop)(ds:List D):Prop:=∃ l:List α,ds=[.slice false (l.map f.d)]∧l.length≤9223372036854775807∧∀ x∈l,wf x
def qList:List (List D→Prop)→List D→Prop
 | [],ds=>ds=[]
 | Q::Qs,ds=>∃ a b,ds=a++b∧Q a∧qList Qs b

section
variable {P:Ba} {sp:Bool} {t:At}
theorem vE{k:IntKind}(hu:P.underlying t=some (.int k)):OpD P sp t (qInt k):=by
 intro H enc w base spare held fuel cs x h _;obtain ⟨n,rfl,rfl,hw⟩:=DataW.trod_int hu h;exact ⟨[.int k n],.cons (.int _ _ _) (.nil _),n,rfl,by simpa [Lit.wf] using hw⟩
theorem aIg(hu:P.underlying t=some .bool):OpD P sp t qBool:=by
 intro H enc w base spare held fuel cs x h _;obtain ⟨b,rfl,rfl⟩:=DataW.trod_bool hu h;exact ⟨[.bool b],.cons (.bool _ _) (.nil _),b,rfl⟩
theorem wA{α:Type}{f:Enc α}{e:At}{wf:α→Prop}(hu:P.underlying t=some (.slice e))(hc:P.cellsOf e=f.sz)(he:OpD P false e (fun ds=>∃ a,ds=(f.d a).cells∧wf a)):OpD P sp t (qSlice f wf):=by
 intro H enc w base spare held fuel cs x h hs
 rcases DataW.trod_slice hu h with ⟨rfl,_⟩ | ⟨a,len,cap,elems,rest,n,_,rfl,rfl,hb,hl,hm,hlen,hel,_,_⟩
 · exact ⟨[.slice false []],.cons (.nslice _ _) (.nil _),[],rfl,by simp,by simp⟩
 · by_cases hl0:len=0
   · subst hl0; exact ⟨[.slice false []],.cons (.eslice _ a cap false (fun h=>by cases h)) (.nil _),[],rfl,by simp,by simp⟩
   have hsp0:a.spot=none:=by
    have h1:=hel 0 (by omega);have h2:elems[0]? = some (elems[0]'(by omega)):=AY _;rw [h2,EI] at h1;obtain ⟨vs,h3,_⟩:=h1;have h7:=World.cells?_some h3;have hp:=f.pos;have h8:=h7.2.2 0 (by rw [hc]; exact hp);rw [CY] at h8;have e0:((a.add 0).add 0)=a:=rfl;rw [e0] at h8;cases hsp:a.spot with
    | none=>rfl
    | some q =>
      exfalso;unfold World.cell? at h8;rw [hsp] at h8;split at h8
      · simp at h8; have:=h7.1; simp_all
      · have:=h7.1; simp_all
   have ha:a=⟨a.block,a.off,none⟩:=by cases a; simp_all
   have each:∀ i,i<len→∃ (vs:List AG) (y:α),(∀ k v,vs[k]? = some v→w.cell? ⟨a.block,a.off+(i*f.sz+k),none⟩=some v)∧RdL (Env.none w) β0 vs (f.d y).cells∧wf y:=by
    intro i hi;have h1:=hel i hi;have h2:elems[i]? = some (elems[i]'(by omega)):=AY _;rw [h2,EI] at h1;obtain ⟨vs,h3,h4⟩:=h1;obtain ⟨ds,h5,y,rfl,h6⟩:=he h4 (by simp);refine ⟨vs,y,fun k v hk=>?_,h5,h6⟩;have h7:=World.cells?_some h3;have hk':=(Aj.1 hk).1;have h8:=h7.2.2 k (by omega);rw [hk,ha,hc] at h8;rw [←h8]
    congr 1
    by_cases h9:i*f.sz=0
    · by_cases h10:k=0
      · simp [Addr.add,h9,h10]
      · simp [Addr.add,h9,h10]
    · by_cases h10:k=0
      · simp [Addr.add,h9,h10]
      · simp [Addr.add,h9,h10,Ed]
   have all:∀ m,m≤len→∃ (vs:List AG) (l:List α),l.length=m∧(∀ k v,vs[k]? = some v→w.cell? ⟨a.block,a.off+k,none⟩=some v)∧RdL (Env.none w) β0 vs (Ac (l.map f.d))∧∀ y∈l,wf y:=by
    intro m
    induction m with
    | zero=>intro _; exact ⟨[],[],rfl,by simp,.nil _,by simp⟩
    | succ m ih =>
      intro hm';obtain ⟨vs,l,h1,h2,h3,h4⟩:=ih (by omega);obtain ⟨us,y,h5,h6,h7⟩:=each m (by omega);have hvl:vs.length=m*f.sz:=by rw [h3.length,f.flat_len,h1]
      refine ⟨vs++us,l++[y],by simp [h1],fun k v hk=>?_,?_,?_⟩
      · by_cases hk':k<vs.length
        · exact h2 k v (by rwa [AJ hk'] at hk)
        · rw [Bx (by omega)] at hk;have:=h5 _ _ hk
          rwa [hvl,show m*f.sz+(k-m*f.sz)=k by omega] at this
      · rw [Bq];have e2:Ac (l.map f.d++[y].map f.d)=Ac (l.map f.d)++(f.d y).cells:=by simp [Ac]
        rw [e2]; exact h3.append h6
      · intro z hz
        rcases AM.1 hz with h | h
        · exact h4 z h
        · simp at h; subst h; exact h7
   obtain ⟨vs,l,h1,h2,h3,h4⟩:=all len (AP _);refine ⟨[.slice false (l.map f.d)],.cons ?_ (.nil _),l,rfl,by unfold maxLen at hm; omega,h4⟩;rw [ha];exact .slice _ _ _ len cap f.sz false vs _ (by rw [An,h1]) hl (by simp) (f.len l) f.pos (fun k v hk=>⟨h2 k v hk,fun h=>h⟩) h3

def aAx(P:Program):Nat→List Field→Bool
 | _,[]=>true
 | k,f::fs=>f.offset == k&&aAx P (k+P.cellsOf f.type) fs
inductive OpFs (P:Ba) (sp:Bool):List Field→List (List D→Prop)→Prop
 | nil:OpFs P sp [] []
 | cons {f fs Q Qs} (h:OpD P sp f.type Q) (t:OpFs P sp fs Qs):OpFs P sp (f::fs) (Q::Qs)
theorem aAA{fs:Array Field}{Qs:List (List D→Prop)}(hu:P.underlying t=some (.struct fs))(hf:aAx P 0 fs.toList=true)(hn:P.cellsOf t=(fs.toList.map fun f=>P.cellsOf f.type).sum)(h:OpFs P sp fs.toList Qs):OpD P sp t (qList Qs):=by
 intro H enc w base spare held fuel cs x hx hs;obtain ⟨xs,n,_,_,hlen,hxl,hfld⟩:=DataW.trod_struct hu hx
 have key:∀ (l:List Field) (Qs:List (List D→Prop)) (k:Nat),OpFs P sp l Qs→aAx P k l=true→k+(l.map fun f=>P.cellsOf f.type).sum=cs.length →
  (∀ f∈l,∃ y,DataW.trod enc P w base spare held n f.type ((cs.drop f.offset).take (P.cellsOf f.type))=some y)→∃ ds,RdL (Env.none w) β0 (cs.drop k) ds∧qList Qs ds:=by
  intro l Qs k ho
  induction ho generalizing k with
  | nil =>
    intro _ h1 _;refine ⟨[],?_,rfl⟩;rw [BY (by simp at h1; omega)]; exact .nil _
  | @cons f fs Q Qs h t ih =>
    intro h1 h2 h3;simp only [aAx,Av,beq_iff_eq] at h1;simp only [Ai,CQ] at h2;obtain ⟨y,hy⟩:=h3 f (by simp);rw [h1.1] at hy;obtain ⟨ds,h4,h5⟩:=h hy (fun hsp v hv=>hs hsp v (Fa (Dp hv)));obtain ⟨es,h6,h7⟩:=ih (k+P.cellsOf f.type) h1.2 (by omega) (fun g hg=>h3 g (by simp [hg]));refine ⟨ds++es,?_,ds,es,rfl,h5,h7⟩;have:=h4.append h6
    rwa [←Ev,AX] at this
 have:=key fs.toList Qs 0 h hf (by rw [Bj,←hn,hlen]) (fun f hf=>by
  obtain ⟨i,hi⟩:=Fg hf;have h1:=hfld i f (by simpa using hi);have h2:i<xs.length:=by rw [hxl]; have:=(Aj.1 hi).1; simpa using this
  exact ⟨xs[i],by rw [h1,AY h2]⟩)
 rwa [List.drop_zero] at this
theorem OpD.to{Q R:List D→Prop}(h:OpD P sp t Q)(k:∀ ds,Q ds→R ds):OpD P sp t R:=by
 intro H enc w base spare held fuel cs x hx hs;obtain ⟨ds,h1,h2⟩:=h hx hs;exact ⟨ds,h1,k ds h2⟩
theorem aEM{Q:List D→Prop}(h:OpD P true t Q){H:Type}{enc:At×AG→H}{w:World}{base b0:Nat}{spare:Nat→Bool}{held:Bool}{v:AG}{d:DataW H}{ps:List MemPlace}{r:Reach}(hv:Value.okWide P w r b0 t v)(hd:DataW.Trod enc P w base spare held t v d ps):∃ ds,RdL (Env.none w) β0 v.cells.toList ds∧Q ds:=by
 obtain ⟨fuel,hf⟩:=hd;exact h hf (fun _=>aIU hv)
theorem aGp{E:Env}{v:Value}{d:D}(h:RdL E β0 v.cells.toList [d])(hn:∀ cs,v ≠ .agg cs):Rd E β0 v d:=by
 cases v with
 | agg cs=>exact Ay rfl (hn cs)
 | _=>simp [Value.cells] at h; cases h with | cons h _=>exact h
section
variable {H:Type} {enc:At×AG→H}
theorem yG(hl:laidOutB P=true){W W':World}(hb:Below W.heap.size W W'){sp:Nat→Bool}:∀ {ts:List At} {vs:List AG} {ds:List (DataW H)} {ps:List MemPlace},
 (∀ t∈ts,P.readableRec t=true∧t<P.types.size)→DataW.TrodAll enc P W 0 (fun _=>true) true ts vs ds ps→(∀ x∈ps,x.block<W.heap.size)→(∀ x∈ps,sp x.block=true) →
 DataW.TrodAll enc P W' 0 sp true ts vs ds ps
 | [],vs,ds,ps,_,h,_,_=>by
   obtain ⟨rfl,rfl,rfl⟩:=trodAll_nil h; exact rfl
 | t::ts,vs,ds,ps,hr,h,hlt,hsp=>by
   obtain ⟨v,vs',d,ds',p,q,rfl,rfl,rfl,h1,h2⟩:=trodAll_cons h;refine ⟨p,q,?_,yG hl hb (fun t ht=>hr t (by simp [ht])) h2 (fun x hx=>hlt x (by simp [hx])) (fun x hx=>hsp x (by simp [hx])),rfl⟩;have hx:∀ x∈p,x∈p++q:=fun x hx=>by simp [hx]
   exact WideElems.Trod_stays hl (hr t (by simp)).1 (hr t (by simp)).2 h1 (fun x hxp=>hb.same (hlt x (hx x hxp))) (fun x hxp=>hsp x (hx x hxp))
theorem aCn{f:Func}{s:ChangeSpec}{apart fresh handsOn again:Bool}{W W':World}{args:Array AG}{v:AG}{ds gs:List (DataW H)}{before pa pv:List MemPlace}(hW:DataW.Whole enc P f.params.toList s.vars apart W args.toList ds gs before)(hres:∀ (b:Nat) (sp:Nat→Bool) (hd:Bool),DataW.TrodAll enc P W' b sp hd f.resultTypes.toList (v.resultList f.resultTypes.size) (s.fn H (ds++gs)).results [])(hargs:∀ sp:Nat→Bool,(∀ p∈before,sp p.block=true)→DataW.TrodAll enc P W' 0 sp true f.params.toList args.toList (s.fn H (ds++gs)).args pa)(hvars:∀ sp:Nat→Bool,(∀ p∈before,sp p.block=true)→DataW.TrodVars enc P W' sp s.vars (s.fn H (ds++gs)).vars pv)(hps:before=pa++pv)(hb:Below W.heap.size W W')(hok:∀ (j:Nat) (t:At) (r:AG),f.resultTypes[j]? = some t→(v.resultList f.resultTypes.size)[j]? = some r→Value.okWide P W' .any 0 t r) :
 s.post enc P f apart fresh handsOn again W args v W':=by
 have hlt:∀ p∈before,p.block<W.heap.size:=fun p hp=>hW.lt p hp
 have hold:∀ p∈before,(fun b=>decide (b<W.heap.size)) p.block=true:=fun p hp=>by simpa using hlt p hp
 refine ⟨ds,gs,before,[],pa,pv,hW,hres _ _ _,hargs _ hold,hvars _ hold,World.keptBut_mono (fun p hp=>⟨hp,?_⟩) (hb.frame (· ∈ before)),fun _=>?_⟩
 · rw [hps,AM] at hp;exact Or.inr hp
 · obtain ⟨_,_,_,_,_,hz,hn⟩:=hW;refine ⟨hok,_,_,([]++pa)++pv,⟨[]++pa,pv,trodAll_append (hargs _ (fun _ _=>rfl)) (hres _ _ _),hvars _ (fun _ _=>rfl),rfl,?_,?_⟩,?_⟩
   · intro b off hp;have hin:MemPlace.cell b off∈before:=by rw [hps]; simpa using hp
     rw [hb.frozen (hlt _ hin)];exact hz b off hin
   · intro ha;have:=hn ha;rw [hps] at this;simpa using this
   · intro p hp _;rw [hps];simpa using hp
theorem aIp{f:Func}{s:ChangeSpec}{apart fresh handsOn again:Bool}{W W':World}{args:Array AG}{ds gs:List (DataW H)}{before:List MemPlace}{tb:At}(hl:laidOutB P=true)(hr:∀ t∈f.params.toList,P.readableRec t=true∧t<P.types.size)(hv:s.vars=[])(hres:f.resultTypes = #[tb])(hbool:P.underlying tb=some .bool)(hfn:s.fn H (ds++gs) = { results:=[.lit (.bool true)],args:=ds })(hW:DataW.Whole enc P f.params.toList s.vars apart W args.toList ds gs before)(hb:Below W.heap.size W W'):s.post enc P f apart fresh handsOn again W args (.bool true) W':=by
 have hW':=hW;obtain ⟨p,q,hA,hV,hbef,hfz,hnd⟩:=hW;rw [hv] at hV;obtain ⟨rfl,rfl⟩:=trodVars_none hV;have hlt:∀ x∈before,x.block<W.heap.size:=fun x hx=>hW'.lt x hx
 have hsub:∀ x∈p,x∈before:=fun x hx=>by rw [hbef]; simp [hx]
 refine aCn (pa:=p) (pv:=[]) hW' ?_ ?_ ?_ ?_ hb ?_
 · intro b sp hd;rw [hfn,hres];exact trodAll_mk1 (shut_bool hbool true)
 · intro sp hsp;rw [hfn];exact yG hl hb hr hA (fun x hx=>hlt x (hsub x hx)) (fun x hx=>hsp x (hsub x hx))
 · intro sp hsp;rw [hfn,hv]; exact rfl
 · exact hbef
 · exact ok_one hres rfl (okWide_bool_mk hbool true)
end
end
end Go.IL
namespace Go.IL
theorem zW{P:Program}{w W:World}{r:Reach}{b:Nat}{t:At}{v:AG}{d:D}(hv:Value.okWide P W r b t v)(hg:kT P t=false)(h:RdL (Env.none w) β0 v.cells.toList [d]):Rd (Env.none w) β0 v d:=by
 refine aGp h fun cs e=>?_
 subst e;unfold kT at hg;unfold Value.okWide at hv;split at hv
 · rename_i h1; rw [h1] at hg; cases hg
 · rename_i h1; rw [h1] at hg; cases hg
 · unfold Cell.okWide at hv;split at hv <;> simp_all [Cell.ok]
end Go.IL
open Go.RowKit Go.WideShapes Go.ChangeShapes
namespace Go.IL
end Go.IL
