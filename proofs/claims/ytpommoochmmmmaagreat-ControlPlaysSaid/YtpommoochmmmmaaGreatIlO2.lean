/-
  A part of the proof: rules and plain facts. No condition.
-/
import Derived.Test.YtpommoochmmmmaaGreatIlP6
import Derived.Test.YtpommoochmmmmaaGreatIlA29pD
import Derived.KernelRfl
import Derived.Test.YtpommoochmmmmaaGreatIlZ
import Derived.ProofKit
import Derived.OpenShut
set_option linter.all false
open Bool renaming and_eq_true → Af,or_eq_false_iff → BC
open Int renaming emod_eq_of_lt → DY,emod_lt_of_pos → FC,emod_nonneg → Gs,mul_assoc → Hl,mul_comm → Gt,mul_ediv_add_emod → Fa,mul_le_mul_of_nonneg_left → Ie,pow_pos → ET,pow_succ → FE,toNat_natCast → Au
open List renaming all_eq_true → AV,append_assoc → Ax,append_nil → AQ,cons_append → AY,drop_left → EW,flatMap_append → EC,flatMap_cons → Be,foldl_cons → Gn,length → DH,length_append → Ae,length_cons → Ao,length_drop → AA,length_map → Bf,length_nil → Bj,length_take → Aw,map_cons → AB,mem_append → As,mem_cons → AF,mem_flatMap → BQ,mem_map → AL,nil_append → AE,nodup_cons → Di,take_append_drop → AO,take_append_of_le_length → AC,take_of_length_le → BD,take_succ_cons → CD
open Nat renaming add_sub_cancel → EJ,le_refl → AJ
open Option renaming bind_some → DJ,map_some → Cl
open UInt8 renaming ofNat → Cf,toNat_inj → GB
open _root_ renaming UInt8 → Ai,absurd → AP,congrArg → Bv,if_neg → Aq,if_pos → Az
open Go Go.IL
namespace Go.Fn

theorem aKc (n:Int):∀ (m:Nat) (a:Int),beN a (beb n m)=a*256 ^ m+n % 256 ^ m
 | 0,a=>by simp [beb,beN]
 | m + 1,a=>by
   have ih:=aKc n m (a*256+n / 256 ^ m % 256)
   simp only [beb,beN,Gn,aCB] at ih ⊢
   rw [ih]
   have hP:(0:Int)<256 ^ m:=ET (by decide)
   have e1:=Fa n (256 ^ m)
   have e2:=Fa (n / 256 ^ m) 256
   have r0:=Gs n (b:=256 ^ m) (by omega)
   have r1:=FC n hP
   have q0:=Gs (n / 256 ^ m) (b:=256) (by decide)
   have q1:=FC (n / 256 ^ m) (b:=256) (by decide)
   have key:n % 256 ^ (m+1)=256 ^ m*(n / 256 ^ m % 256)+n % 256 ^ m:=by
    have e3:n=256 ^ m*(n / 256 ^ m % 256)+n % 256 ^ m+256 ^ (m+1)*(n / 256 ^ m / 256):=by
     rw [FE]
     have:256 ^ m*256*(n / 256 ^ m / 256)=256 ^ m*(256*(n / 256 ^ m / 256)):=Hl ..
     rw [this]
     have:256 ^ m*(n / 256 ^ m)=256 ^ m*(256*(n / 256 ^ m / 256))+256 ^ m*(n / 256 ^ m % 256):=by rw [←Int.mul_add,e2]
     omega
    have h0:0≤256 ^ m*(n / 256 ^ m % 256):=Int.mul_nonneg (by omega) q0
    have h1:256 ^ m*(n / 256 ^ m % 256)≤256 ^ m*255:=Ie (by omega) (by omega)
    have:=Bv (fun x=>x % (256:Int) ^ (m+1)) e3
    simp only [Int.add_mul_emod_self_left] at this
    rw [this]
    apply DY
    · omega
    · rw [FE]; omega
   rw [key,Int.add_mul,FE,Hl,Gt 256 (256 ^ m),Gt (n / 256 ^ m % 256)]
   omega
theorem aBX {n:Int} (h:¬ vbad n) (t:List Ai):vget (vput n++t)=(n,oM n,0):=by
 have hk:0≤iF n:=by rcases uS n with h' | h'; exact AP h'.1 h; exact h'.2.1
 have hk3:=(tD n).2
 obtain ⟨m,hm7,hm,hp,_⟩:=aCr hk
 have ht:=aBZ h hm
 have hmod:n / 256 ^ m % 256=n / 256 ^ m:=DY ht.1 (by omega)
 rw [aCt hm,hmod,AY]
 have hb:(Cf ((n / 256 ^ m).toNat+64*(iF n).toNat)).toNat=(n / 256 ^ m).toNat+64*(iF n).toNat:=by simp; omega
 have hd:(Cf ((n / 256 ^ m).toNat+64*(iF n).toNat)).toNat / 64=(iF n).toNat:=by rw [hb]; omega
 have hr:((Cf ((n / 256 ^ m).toNat+64*(iF n).toNat)).toNat:Int) % 64=((n / 256 ^ m).toNat:Int):=by rw [hb]; omega
 have hp2:2 ^ (iF n).toNat=m+1:=by exact_mod_cast hp
 have hlen:=vL n m
 have hval:beN ((n / 256 ^ m).toNat:Int) (beb n m)=n:=by
  rw [aKc,Int.toNat_of_nonneg ht.1,Gt]
  exact Fa n (256 ^ m)
 have htk:(beb n m++t).take m=beb n m:=by rw [AC (by omega),BD (by omega)]
 rw [yS (by rw [hd,hp2]; simp; omega) ?_]
 · rw [hd,hr,hp2,EJ,htk]
   have hc:((((n / 256 ^ m).toNat:Nat):Int))=((n / 256 ^ m).toNat:Int):=rfl
   rw [hval]
   have:oM n=((m+1:Nat):Int):=by have:=tC n; omega
   rw [this]
 · rw [hd,hr,hp2,EJ,htk,hval]; omega
theorem aHQ:∀ (q:List Ai) (a:Int),0≤a→beN a q / 256 ^ q.length=a∧beb (beN a q) q.length=q
 | [],a,h=>by simp [beN,beb]
 | c :: q,a,h=>by
   have hc:=c.toNat_lt
   have ih:=aHQ q (a*256+c.toNat) (by omega)
   have e:beN a (c::q)=beN (a*256+c.toNat) q:=rfl
   rw [e,Ao]
   constructor
   · rw [←aE4,ih.1]; omega
   · rw [beb,ih.2,ih.1]
     have:by8 (a*256+c.toNat)=c:=by
      unfold by8
      have:(a*256+(c.toNat:Int)) % 256=c.toNat:=by omega
      rw [this]; simp
     rw [this]
theorem zK {s:List Ai} (h:(vget s).2.2=0):¬ vbad (vget s).1∧vput (vget s).1=s.take (vget s).2.1.toNat:=by
 cases s with
 | nil=>exact AP h (by decide)
 | cons b r =>
   by_cases h1:(b::r).length<2 ^ (b.toNat / 64)
   · rw [sV h1] at h; exact AP h (by decide)
   · by_cases h2:iF (beN (b.toNat % 64) (r.take (2 ^ (b.toNat / 64)-1)))=((b.toNat / 64:Nat):Int)
     · rw [yS h1 h2]
       simp only
       have hlen:=get_len h1
       have hk4:=k4 b
       have hpk:=aAi hk4
       generalize hv:beN (b.toNat % 64) (r.take (2 ^ (b.toNat / 64)-1))=v at h2
       have hnb:¬ vbad v:=by rw [←aBV,h2]; omega
       have hsz:oM v=((2 ^ (b.toNat / 64):Nat):Int):=(aD5 hk4).2 h2
       have hm:(oM v).toNat=(2 ^ (b.toNat / 64)-1)+1:=by rw [hsz]; omega
       have hbk:=aHQ (r.take (2 ^ (b.toNat / 64)-1)) ((b.toNat:Int) % 64) (by omega)
       rw [hlen] at hbk
       rw [hv] at hbk
       refine ⟨hnb,?_⟩
       rw [aCt hm,hbk.1,hbk.2,h2]
       have e1:Cf (((b.toNat:Int) % 64 % 256).toNat+64*(((b.toNat / 64:Nat):Int)).toNat)=b:=by
        have hb:=b.toNat_lt
        have:(((b.toNat:Int) % 64 % 256).toNat+64*(((b.toNat / 64:Nat):Int)).toNat)=b.toNat:=by omega
        rw [this]; simp
       rw [e1,Au]
       obtain ⟨p,hp⟩:∃ p,2 ^ (b.toNat / 64)=p+1:=⟨2 ^ (b.toNat / 64)-1,by omega⟩
       rw [hp,CD,EJ]
     · rw [uT h1 h2] at h; exact AP h (by decide)
theorem aCs {n:Int} (h:¬ vbad n):1≤(vput n).length∧((vput n).length:Int)=oM n:=by
 rw [aF5]
 have:=tC n
 have h2:=aAd (n:=n)
 have:oM n≠0:=fun e=>h (h2.1 e)
 omega

theorem aDQ {g:aA} {o p:Nat} (h:2≤o) (h2:o≤7) (h3:2≤p) (h4:p≤7) (v:Int):nv (setv g o v) p=if p=o then v else nv g p:=by
 obtain rfl | rfl | rfl | rfl | rfl | rfl:o=2∨o=3∨o=4∨o=5∨o=6∨o=7:=by omega
 all_goals
  obtain rfl | rfl | rfl | rfl | rfl | rfl:p=2∨p=3∨p=4∨p=5∨p=6∨p=7:=by omega
  all_goals rfl
theorem aMn (h:Nat→Int):∀ (os:List Nat) (t:List Ai) (g:aA),(∀ o∈os,¬vbad (h o))→(∀ o∈os,2≤o∧o≤7) →
 ∃ g',rd os ((os.map h).flatMap vput++t) g=some (t,g')∧(∀ o∈os,nv g' o=h o)∧∀ p,2≤p→p≤7→p ∉ os→nv g' p=nv g p
 | [],t,g,_,_=>⟨g,rfl,by simp,fun _ _ _ _=>rfl⟩
 | o :: os,t,g,hb,hr=>by
   have ho:=hr o (by simp)
   have hn:=hb o (by simp)
   obtain ⟨g',h1,h2,h3⟩:=aMn h os t (setv g o (h o)) (fun p hp=>hb p (by simp [hp])) (fun p hp=>hr p (by simp [hp]))
   refine ⟨g',?_,?_,?_⟩
   · rw [AB,Be,Ax]
     unfold rd
     rw [aBX hn]
     simp only [if_true]
     rw [←(aCs hn).2,Au,EW]
     exact h1
   · intro p hp
     by_cases hpo:p∈os
     · exact h2 p hpo
     · have:p=o:=by simpa [hpo] using hp
       subst this
       rw [h3 p ho.1 ho.2 hpo,aDQ ho.1 ho.2 ho.1 ho.2,Az rfl]
   · intro p hp2 hp7 hp
     rw [AF,not_or] at hp
     rw [h3 p hp2 hp7 hp.2,aDQ ho.1 ho.2 hp2 hp7,Aq hp.1]
theorem aMo:∀ (os:List Nat) (s t:List Ai) (g g':aA),os.Nodup→(∀ o∈os,2≤o∧o≤7)→rd os s g=some (t,g') →
 s=(os.map (nv g')).flatMap vput++t∧(∀ o∈os,¬vbad (nv g' o))∧∀ p,2≤p→p≤7→p ∉ os→nv g' p=nv g p
 | [],s,t,g,g',_,_,h=>by simp only [rd,Option.some.injEq,Prod.mk.injEq] at h; obtain ⟨rfl,rfl⟩:=h; simp
 | o :: os,s,t,g,g',hd,hr,h=>by
   have ho:=hr o (by simp)
   rw [Di] at hd
   unfold rd at h
   split at h
   · rename_i hz
     obtain ⟨h1,h2,h3⟩:=aMo os _ t _ g' hd.2 (fun p hp=>hr p (by simp [hp])) h
     have hv:=zK hz
     have e:nv g' o=(vget s).1:=by rw [h3 o ho.1 ho.2 hd.1,aDQ ho.1 ho.2 ho.1 ho.2,Az rfl]
     refine ⟨?_,?_,?_⟩
     · rw [AB,Be,Ax,←h1,e,hv.2,AO]
     · intro p hp
       by_cases hpo:p∈os
       · exact h2 p hpo
       · have:p=o:=by simpa [hpo] using hp
         subst this; rw [e]; exact hv.1
     · intro p hp2 hp7 hp
       rw [AF,not_or] at hp
       rw [h3 p hp2 hp7 hp.2,aDQ ho.1 ho.2 hp2 hp7,Aq hp.1]
   · cases h
theorem aHv (k:Int):(nD k).Nodup:=by unfold nD; (repeat' split) <;> decide
theorem aB1 {f g:aA} (h1:f.aq=g.aq) (h2:f.bp=g.bp) (h3:∀ p,2≤p→p≤7→nv f p=nv g p) (h4:f.au=g.au) (h5:f.aj=g.aj):f=g:=by
 have a2:=h3 2 (by decide) (by decide)
 have a3:=h3 3 (by decide) (by decide)
 have a4:=h3 4 (by decide) (by decide)
 have a5:=h3 5 (by decide) (by decide)
 have a6:=h3 6 (by decide) (by decide)
 have a7:=h3 7 (by decide) (by decide)
 simp only [nv] at a2 a3 a4 a5 a6 a7
 obtain ⟨⟩:=f; obtain ⟨⟩:=g
 simp_all

theorem aCQ:∀ (l:List Int) (f:Nat) (acc:List Int),(l.flatMap vput).length≤f→(∀ x∈l,¬vbad x)→uV f (l.flatMap vput) acc=(acc++l,0)
 | [],f,acc,_,_=>by simp [aBY]
 | x :: l,f,acc,hf,hb=>by
   have hx:=hb x (by simp)
   have hv:=aCs hx
   rw [Be,Ae] at hf
   rw [Be]
   have hg:=aBX hx (l.flatMap vput)
   have hne:vput x++l.flatMap vput≠[]:=by intro e; have:=Bv DH e; simp at this; have:=hv.1; simp_all
   cases f with
   | zero=>omega
   | succ f =>
     rw [uV,Aq hne,hg]
     simp only [if_true]
     rw [←hv.2,Au,EW,aCQ l f _ (by omega) (fun y hy=>hb y (by simp [hy])),Ax]
     rfl
theorem aCR:∀ (f:Nat) (s:List Ai) (acc:List Int),s.length≤f→(uV f s acc).2=0→∃ l,(uV f s acc).1=acc++l∧s=l.flatMap vput∧∀ x∈l,¬vbad x
 | 0,s,acc,hf,h=>⟨[],by simp [uV],by simpa using hf,by simp⟩
 | f + 1,s,acc,hf,h=>by
   rw [uV] at h ⊢
   by_cases hs:s=[]
   · rw [Az hs]; exact ⟨[],by simp,by simpa using hs,by simp⟩
   · rw [Aq hs] at h ⊢
     by_cases hz:(vget s).2.2=0
     · rw [Az hz] at h ⊢
       have hsz:=mM hz
       obtain ⟨l,h1,h2,h3⟩:=aCR f (s.drop (vget s).2.1.toNat) (acc++[(vget s).1]) (by rw [AA]; omega) h
       have hv:=zK hz
       refine ⟨(vget s).1::l,by rw [h1,Ax]; rfl,?_,?_⟩
       · rw [Be,←h2,hv.2,AO]
       · intro x hx
         rcases AF.1 hx with rfl | hx
         · exact hv.1
         · exact h3 x hx
     · rw [Aq hz] at h; exact AP h hz
theorem aES:∀ (l:List aW),tS (pl l)=l
 | []=>rfl
 | p::l=>by
   have:=aES l
   simp only [pl,Be,AY,AE] at this ⊢
   rw [tS,this]
theorem aEP:∀ (l:List Int),l.length % 2=0→pl (tS l)=l
 | [],_=>rfl
 | [a],h=>by simp at h
 | a::b::l,h=>by
   have:=aEP l (by simp only [Ao] at h; omega)
   simp only [tS,pl,Be,AY,AE] at this ⊢
   rw [this]

structure Good (f:aA):Prop where
 known:lE f.aq=true
 rng:rng f=true
 data:f.aj.length≤32
 pairs:f.au.length≤4
 spr:spr f=false
theorem aGj {f:aA} (h:chkF f=0):Good f:=by
 unfold chkF at h
 cases hk:lE f.aq with
 | false=>rw [hk] at h; simp at h
 | true =>
   rw [hk,Aq (by decide)] at h
   cases hr:rng f with
   | false=>rw [hr] at h; simp at h
   | true =>
     rw [hr,Aq (by decide)] at h
     by_cases hl:32<f.aj.length∨4<f.au.length
     · rw [Az hl] at h; simp at h
     · rw [Aq hl] at h
       cases hs:spr f with
       | true=>rw [hs] at h; simp at h
       | false=>exact ⟨hk,hr,by omega,by omega,hs⟩
theorem Good.zero {f:aA} (h:Good f) {p:Nat} (h2:2≤p) (h7:p≤7) (hp:p ∉ nD f.aq):nv f p=0:=by
 have hs:=h.spr
 have hz:zr f p=true:=by
  unfold Fn.spr at hs
  simp only [BC,Bool.not_eq_false',Af] at hs
  obtain rfl | rfl | rfl | rfl | rfl | rfl:p=2∨p=3∨p=4∨p=5∨p=6∨p=7:=by omega
  all_goals simp_all
 unfold zr at hz
 simpa [hp] using hz
theorem Good.nodata {f:aA} (h:Good f) (hk:f.aq≠0):f.aj=[]:=by
 have hs:=h.spr
 unfold Fn.spr at hs
 simp only [BC] at hs
 have:=hs.1.1.2
 simpa [hk] using this
theorem Good.nopairs {f:aA} (h:Good f) (hk:f.aq≠4):f.au=[]:=by
 have hs:=h.spr
 unfold Fn.spr at hs
 simp only [BC] at hs
 have:=hs.1.2
 simpa [hk] using this
theorem pR {x a b:Int} (h:inb x a b=true):a≤x∧x≤b:=by unfold inb at h; simpa using h
theorem vR {f:aA} {a b c:Int} (h:rngs f a b c=true):(∀ p∈f.au,sK p=true)∧(0≤f.bg∧f.bg≤1048576)∧(0≤f.bj∧f.bj≤1099511627776)∧(0≤f.cb∧f.cb≤1048576)∧(a≤f.N∧f.N≤b)∧0≤f.Code∧f.Code≤c:=by
 unfold rngs at h
 simp only [Af,AV] at h
 exact ⟨h.1.1.1.1.1,pR h.1.1.1.1.2,pR h.1.1.1.2,pR h.1.1.2,pR h.1.2,pR h.2⟩
theorem Good.vals {f:aA} (h:Good f):∀ x∈vals f,¬vbad x:=by
 have hr:=h.rng
 have hR:(∀ p∈f.au,sK p=true)∧(0≤f.bg∧f.bg≤1048576)∧(0≤f.bj∧f.bj≤1099511627776)∧(0≤f.cb∧f.cb≤1048576)∧(0≤f.N∧f.N≤1099511627776)∧(0≤f.Code∧f.Code≤255)∧(5∈nD f.aq→0≤f.bo∧f.bo≤256):=by
  unfold Fn.rng at hr
  by_cases h8:f.aq=8
  · rw [Az h8] at hr
    have:=vR hr
    exact ⟨this.1,this.2.1,this.2.2.1,this.2.2.2.1,by omega,by omega,by rw [h8]; intro h5; exact AP h5 (by decide)⟩
  · rw [Aq h8] at hr
    by_cases h10:f.aq=10
    · rw [Az h10] at hr
      have:=vR hr
      exact ⟨this.1,this.2.1,this.2.2.1,this.2.2.2.1,by omega,by omega,by rw [h10]; intro h5; exact AP h5 (by decide)⟩
    · rw [Aq h10] at hr
      by_cases h12:f.aq=1∨f.aq=2
      · rw [Az h12,Af] at hr
        have:=vR hr.2
        have hw:=pR hr.1
        exact ⟨this.1,this.2.1,this.2.2.1,this.2.2.2.1,by omega,by omega,fun _=>by omega⟩
      · rw [Aq h12] at hr
        have:=vR hr
        refine ⟨this.1,this.2.1,this.2.2.1,this.2.2.2.1,by omega,by omega,fun h5=>?_⟩
        unfold nD at h5
        rw [Aq (c:=f.aq=1) (fun e=>h12 (.inl e)),Aq (c:=f.aq=2) (fun e=>h12 (.inr e))] at h5
        revert h5
        (repeat' split) <;> intro h5 <;> exact AP h5 (by decide)
 intro x hx
 unfold Fn.vals at hx
 rw [As,AL] at hx
 rcases hx with ⟨o,ho,rfl⟩ | hx
 · have hb:=(jX f.aq).2 o ho
   unfold vbad
   obtain rfl | rfl | rfl | rfl | rfl | rfl:o=2∨o=3∨o=4∨o=5∨o=6∨o=7:=by omega
   · simp only [nv]; simp; omega
   · simp only [nv]; simp; omega
   · simp only [nv]; simp; omega
   · have:=hR.2.2.2.2.2.2 ho; simp only [nv]; simp; omega
   · simp only [nv]; simp; omega
   · simp only [nv]; simp; omega
 · unfold pl at hx
   rw [BQ] at hx
   obtain ⟨p,hp,hx⟩:=hx
   have:=hR.1 p hp
   unfold sK at this
   rw [Af] at this
   have h1:=pR this.1
   have h2:=pR this.2
   unfold vbad
   simp at hx
   rcases hx with rfl | rfl <;> omega
theorem Good.pay {f:aA} (h:Good f):pay f=((nD f.aq).map (nv f)).flatMap vput++((pl f.au).flatMap vput++f.aj):=by
 unfold Fn.pay
 rw [aBL h.vals]
 unfold Fn.vals
 rw [EC,Ax]
theorem Good.pay_le {f:aA} (h:Good f):(Fn.pay f).length≤64:=by
 rw [h.pay]
 have h1:=wF ((nD f.aq).map (nv f))
 have h2:=wF (pl f.au)
 rw [aA5] at h2
 have h3:=(jX f.aq).1
 rw [Bf] at h1
 simp only [Ae]
 have hd:=h.data
 have hp:=h.pairs
 by_cases h4:f.aq=4
 · have e:nD f.aq=[]:=by rw [h4]; rfl
   have hn:=h.nodata (by omega)
   rw [e] at h1
   simp only [Bj] at h1
   rw [hn]; simp only [Bj]
   rw [e]; omega
 · have hn:=h.nopairs h4
   rw [hn] at h2 ⊢
   simp only [Bj] at h2
   omega
theorem Good.read {f:aA} (h:Good f):uZ (Fn.pay f) ⟨f.aq,f.bp,0,0,0,0,0,0,[],[]⟩=some f:=by
 have hb:=jX f.aq
 obtain ⟨g,h1,h2,h3⟩:=aMn (nv f) (nD f.aq) ((pl f.au).flatMap vput++f.aj) ⟨f.aq,f.bp,0,0,0,0,0,0,[],[]⟩
  (fun o ho=>h.vals _ (by unfold Fn.vals; rw [As,AL]; exact .inl ⟨o,ho,rfl⟩)) hb.2
 obtain ⟨_,k1,k2,k3,k4⟩:=aC9 _ _ _ _ _ h1
 have hz:∀ p,2≤p→p≤7→nv ⟨f.aq,f.bp,0,0,0,0,0,0,[],[]⟩ p=0:=by
  intro p h2 h7
  obtain rfl | rfl | rfl | rfl | rfl | rfl:p=2∨p=3∨p=4∨p=5∨p=6∨p=7:=by omega
  all_goals rfl
 have hall:∀ p,2≤p→p≤7→nv g p=nv f p:=by
  intro p hp2 hp7
  by_cases hp:p∈nD f.aq
  · exact h2 p hp
  · rw [h3 p hp2 hp7 hp,h.zero hp2 hp7 hp,hz p hp2 hp7]
 unfold uZ
 rw [h.pay]
 simp only
 rw [h1,DJ]
 unfold body
 simp only at k1 k2 k3 k4
 have hnv:∀ (P:List aW) (D:List Ai) p,nv ⟨g.aq,g.bp,g.bg,g.bj,g.cb,g.bo,g.N,g.Code,P,D⟩ p=nv g p:=fun _ _ _=>rfl
 by_cases h0:f.aq=0
 · rw [Az (by rw [k3]; exact h0)]
   have hp:=h.nopairs (by omega)
   rw [hp]
   congr 1
   refine aB1 (by simp only [k3]) (by simp only [k4]) (fun p a b=>by rw [hnv,hall p a b]) (by simp only [k1]; rw [hp]) ?_
   simp [pl]
 · rw [Aq (by rw [k3]; exact h0)]
   have hd:=h.nodata h0
   rw [hd,AQ]
   by_cases h4:f.aq=4
   · rw [Az (by rw [k3]; exact h4)]
     have hv:vall ((pl f.au).flatMap vput)=(pl f.au,0):=by
      unfold vall
      rw [aCQ _ _ _ (AJ _) (fun x hx=>h.vals x (by unfold Fn.vals; rw [As]; exact .inr hx)),AE]
     have hl:=aA5 f.au
     unfold setS
     rw [hv,Az ⟨rfl,by simp only; omega⟩,Cl]
     congr 1
     exact aB1 (by simp only [k3]) (by simp only [k4]) (fun p a b=>by rw [hnv,hall p a b]) (by simp only [aES]) (by simp only [k2]; rw [hd])
   · rw [Aq (by rw [k3]; exact h4)]
     have hp:=h.nopairs h4
     rw [hp]
     rw [Az (by simp [pl])]
     congr 1
     exact aB1 k3 k4 hall (by rw [k1,hp]) (by rw [k2,hd])
theorem Good.vpay {f:aA} (h:Good f):¬ vbad ((Fn.pay f).length:Int):=by have:=h.pay_le; unfold vbad; omega
theorem aGa {f:aA} (hk0:0≤f.aq) (hk1:f.aq≤255) (hc:chkF f=0) (rest:List Ai):getF ((putF f).1++rest)=(f,((putF f).1.length:Int),0):=by
 have h:=aGj hc
 have hl:=h.pay_le
 have hv:=aCs h.vpay
 unfold putF
 rw [Az hc]
 simp only [AY,AE,Ax]
 have hkk:(((Cf f.aq.toNat).toNat:Nat):Int)=f.aq:=by simp; omega
 rw [sT (by rw [hkk]; exact h.known),aBX h.vpay]
 simp only
 rw [Aq (by cases f.bp <;> decide),Aq (by decide),Aq (by omega),Aq (by rw [←hv.2]; simp; omega),hkk,←hv.2,Au,Au,EW,List.take_left]
 have hfl:decide (((if f.bp=true then 1 else 0:Ai).toNat:Int)=1)=f.bp:=by cases f.bp <;> rfl
 rw [hfl,h.read]
 simp only [hc,if_true]
 congr 2
 simp; omega
theorem aH7 (s : List Ai):(∃ c,c≠0∧getF s=(zF,0,c))∨∃ k b t g,s=k::b::t∧¬ 1<b.toNat∧(vget t).2.2=0∧¬ (t.length:Int)-(vget t).2.1<(vget t).1 ∧
 uZ ((t.drop (vget t).2.1.toNat).take (vget t).1.toNat) ⟨k.toNat,decide ((b.toNat:Int)=1),0,0,0,0,0,0,[],[]⟩=some g∧chkF g=0∧getF s=(g,2+(vget t).2.1+(vget t).1,0):=by
 match s with
 | []=>exact .inl ⟨3,by decide,rfl⟩
 | k :: r =>
   cases hk:lE (k.toNat:Int) with
   | false=>exact .inl ⟨12,by decide,wC hk⟩
   | true =>
     match r with
     | []=>exact .inl ⟨3,by decide,aAR hk⟩
     | b :: t =>
       rw [sT hk]
       by_cases hb:1<b.toNat
       · rw [Az hb]; exact .inl ⟨4,by decide,rfl⟩
       · rw [Aq hb]
         by_cases hv:(vget t).2.2=0
         · rw [Aq (fun h=>h hv)]
           by_cases h64:64<(vget t).1
           · rw [Az h64]; exact .inl ⟨5,by decide,rfl⟩
           · rw [Aq h64]
             by_cases hl:(t.length:Int)-(vget t).2.1<(vget t).1
             · rw [Az hl]; exact .inl ⟨3,by decide,rfl⟩
             · rw [Aq hl]
               cases hR:uZ ((t.drop (vget t).2.1.toNat).take (vget t).1.toNat) ⟨k.toNat,decide ((b.toNat:Int)=1),0,0,0,0,0,0,[],[]⟩ with
               | none=>exact .inl ⟨4,by decide,rfl⟩
               | some g =>
                 by_cases hc:chkF g=0
                 · refine .inr ⟨k,b,t,g,rfl,hb,hv,hl,hR,hc,?_⟩
                   simp only [hc,if_true]
                 · refine .inl ⟨chkF g,hc,?_⟩
                   simp only [hc,if_false]
         · rw [Az hv]; exact .inl ⟨_,hv,rfl⟩
theorem aIn {p:List Ai} {g0 g:aA} (hp0:g0.au=[]) (hd0:g0.aj=[]) (h:uZ p g0=some g):pay g=p:=by
 unfold uZ at h
 cases hr:rd (nD g0.aq) p g0 with
 | none=>rw [hr] at h; cases h
 | some q =>
   obtain ⟨t,z⟩:=q
   rw [hr] at h
   simp only [DJ] at h
   have hb:=jX g0.aq
   obtain ⟨h1,h2,h3⟩:=aMo _ _ _ _ _ (aHv g0.aq) hb.2 hr
   obtain ⟨_,k1,k2,k3,k4⟩:=aC9 _ _ _ _ _ hr
   have key:∀ (l:List Int) (P:List aW) (D:List Ai),pl P=l→(∀ x∈l,¬vbad x)→t=l.flatMap vput++D→pay ⟨z.aq,z.bp,z.bg,z.bj,z.cb,z.bo,z.N,z.Code,P,D⟩=p:=by
    intro l P D e hl ht
    unfold pay vals
    simp only
    have hnv:nv ⟨z.aq,z.bp,z.bg,z.bj,z.cb,z.bo,z.N,z.Code,P,D⟩=nv z:=rfl
    rw [hnv,k3,e,aBL,EC,Ax,←ht,←h1]
    intro x hx
    rw [As,AL] at hx
    rcases hx with ⟨o,ho,rfl⟩ | hx
    · exact h2 o ho
    · exact hl x hx
   unfold body at h
   split at h
   · simp only [Option.some.injEq] at h; subst h
     exact key [] z.au t (by rw [k1,hp0]; rfl) (by simp) (by simp)
   · split at h
     · cases hs:setS t with
       | none=>rw [hs] at h; cases h
       | some P =>
         rw [hs] at h; simp only [Cl,Option.some.injEq] at h; subst h
         unfold setS at hs
         split at hs
         · rename_i hv
           simp only [Option.some.injEq] at hs; subst hs
           obtain ⟨l,e1,e2,e3⟩:=aCR t.length t [] (AJ _) hv.1
           have e4:(vall t).1=l:=by unfold vall; rw [e1,AE]
           refine key l _ _ ?_ e3 (by rw [k2,hd0,AQ]; exact e2)
           rw [e4] at hv ⊢
           exact aEP l hv.2
         · cases hs
     · split at h
       · rename_i ht
         simp only [Option.some.injEq] at h; subst h
         exact key [] z.au z.aj (by rw [k1,hp0]; rfl) (by simp) (by rw [k2,hd0]; simpa using ht)
       · cases h
theorem qO {s:List Ai} (h:(getF s).2.2=0):chkF (getF s).1=0∧0<(getF s).2.1∧(getF s).2.1≤s.length∧putF (getF s).1=(s.take (getF s).2.1.toNat,0)∧0≤(getF s).1.aq∧(getF s).1.aq≤255:=by
 rcases aH7 s with ⟨c,hc,e⟩ | ⟨k,b,t,g,rfl,hb,hv,hl,hR,hc,e⟩
 · rw [e] at h; exact AP h hc
 · rw [e]
   have h3:=mM hv
   have h4:=vQ (s:=t)
   have hkk:=(zS hR).2.2
   have hp:=aIn rfl rfl hR
   have hbt:=k.toNat_lt
   simp only at hkk ⊢
   have hk2:g.aq=(k.toNat:Int):=hkk.1
   refine ⟨hc,by omega,by simp; omega,?_,by omega,by omega⟩
   unfold putF
   rw [Az hc,hp]
   have hlen:(((t.drop (vget t).2.1.toNat).take (vget t).1.toNat).length:Int)=(vget t).1:=by rw [Aw,AA]; omega
   have hpv:=zK hv
   have e2:(2+(vget t).2.1+(vget t).1).toNat=((vget t).2.1.toNat+(vget t).1.toNat)+1+1:=by omega
   have hfb:(if g.bp=true then 1 else 0:Ai)=b:=by
    rw [hkk.2]
    have hbn:b.toNat=0∨b.toNat=1:=by omega
    rcases hbn with hbn | hbn
    · have:b=0:=GB.1 hbn
      subst this; rfl
    · have:b=1:=GB.1 hbn
      subst this; rfl
   have hkb:Cf g.aq.toNat=k:=by rw [hk2,Au]; simp
   rw [hlen,hpv.2,hfb,hkb,e2,CD,CD]
   congr 1
   simp only [AY,AE,Ax]
   congr 2
   rw [List.take_add]

end Go.Fn
open Bool renaming not_true → Ah
open List renaming drop_append_of_le_length → Bi,getElem?_eq_getElem → Am,getElem_mem → CC,take_length → AM,take_succ_eq_append_getElem → Bo
open Nat renaming le_trans → Cb,lt_succ_self → BH,zero_le → Ci
open _root_ renaming cond_false → AD,cond_true → Bw,decide_eq_false → Aa,decide_eq_true → Ac
open Go Go.IL
namespace Go.Fn

theorem aD7 {s:List Ai} (h:(vget s).2.2≠3) (t:List Ai):vget (s++t)=vget s:=by
 cases s with
 | nil=>exact AP rfl h
 | cons b r =>
   by_cases h1:(b::r).length<2 ^ (b.toNat / 64)
   · rw [sV h1] at h; exact AP rfl h
   · have h1':¬ (b::(r++t)).length<2 ^ (b.toNat / 64):=by simp only [Ao,Ae] at h1 ⊢; omega
     have htk:(r++t).take (2 ^ (b.toNat / 64)-1)=r.take (2 ^ (b.toNat / 64)-1):=AC (by simp only [Ao] at h1; omega)
     rw [AY]
     by_cases h2:iF (beN (b.toNat % 64) (r.take (2 ^ (b.toNat / 64)-1)))=((b.toNat / 64:Nat):Int)
     · rw [yS h1 h2,yS h1' (by rw [htk]; exact h2),htk]
     · rw [uT h1 h2,uT h1' (by rw [htk]; exact h2)]
theorem aB0 {s : List Ai} (h:(getF s).2.2≠3) (t:List Ai):getF (s++t)=getF s:=by
 match s with
 | []=>exact AP rfl h
 | k :: r =>
   cases hk:lE (k.toNat:Int) with
   | false=>rw [AY,wC hk,wC hk]
   | true =>
     match r with
     | []=>rw [aAR hk] at h; exact AP rfl h
     | b :: q =>
       rw [sT hk] at h
       rw [AY,AY,sT hk,sT hk]
       by_cases hb:1<b.toNat
       · rw [Az hb,Az hb]
       · rw [Aq hb] at h; rw [Aq hb,Aq hb]
         by_cases hv:(vget q).2.2=0
         · have hm:=aD7 (s:=q) (by rw [hv]; decide) t
           rw [Aq (fun e=>e hv)] at h
           rw [hm,Aq (c:=(vget q).2.2≠0) (fun e=>e hv),Aq (c:=(vget q).2.2≠0) (fun e=>e hv)]
           by_cases h64:64<(vget q).1
           · rw [Az h64,Az h64]
           · rw [Aq h64] at h; rw [Aq h64,Aq h64]
             by_cases hl:(q.length:Int)-(vget q).2.1<(vget q).1
             · rw [Az hl] at h; exact AP rfl h
             · have h3:=mM hv
               have h4:=vQ (s:=q)
               rw [Aq hl,Aq (by rw [Ae]; omega)]
               have:((q++t).drop (vget q).2.1.toNat).take (vget q).1.toNat=(q.drop (vget q).2.1.toNat).take (vget q).1.toNat:=by
                rw [Bi (by omega),AC (by rw [AA]; omega)]
               rw [this]
         · rw [Az hv] at h
           have hm:=aD7 (s:=q) h t
           rw [hm,Az hv,Az hv]
theorem aJs {s:List Ai} (h:(getF s).2.2=0):getF (s.take (getF s).2.1.toNat)=((getF s).1,(getF s).2.1,0):=by
 obtain ⟨h1,h2,h3,h4,h5,h6⟩:=qO h
 have:=aGa h5 h6 h1 []
 rw [h4,AQ] at this
 rw [this,Aw]
 congr 2; omega
theorem aEv {s : List Ai} (h:(getF s).2.2=3):s.length≤80:=by
 match s with
 | []=>simp
 | k :: r =>
   cases hk:lE (k.toNat:Int) with
   | false=>rw [wC hk] at h; exact AP h (by decide)
   | true =>
     match r with
     | []=>simp
     | b :: q =>
       rw [sT hk] at h
       by_cases hb:1<b.toNat
       · rw [Az hb] at h; exact AP h (by decide)
       · rw [Aq hb] at h
         by_cases hv:(vget q).2.2=0
         · rw [Aq (fun e=>e hv)] at h
           have h3:=mM hv
           have h8:(vget q).2.1≤8:=by
            have:=vP (vget q).1
            rw [(zK hv).2,Aw] at this; omega
           by_cases h64:64<(vget q).1
           · rw [Az h64] at h; exact AP h (by decide)
           · rw [Aq h64] at h
             by_cases hl:(q.length:Int)-(vget q).2.1<(vget q).1
             · simp only [Ao]; omega
             · rw [Aq hl] at h
               exfalso
               revert h
               cases hR:uZ ((q.drop (vget q).2.1.toNat).take (vget q).1.toNat) ⟨k.toNat,decide ((b.toNat:Int)=1),0,0,0,0,0,0,[],[]⟩ with
               | none=>intro h; simp at h
               | some g =>
                 simp only
                 split
                 · intro h; simp at h
                 · rename_i hc
                   intro h
                   simp only at h
                   unfold chkF at h
                   (repeat' split at h) <;> simp at h
         · rw [Az hv] at h
           simp only at h
           cases q with
           | nil=>simp
           | cons c u =>
             by_cases h1:(c::u).length<2 ^ (c.toNat / 64)
             · have:=aAi (k4 c)
               simp only [Ao] at h1 ⊢; omega
             · by_cases h2:iF (beN (c.toNat % 64) (u.take (2 ^ (c.toNat / 64)-1)))=((c.toNat / 64:Nat):Int)
               · rw [yS h1 h2] at h; simp at h
               · rw [uT h1 h2] at h; simp at h

def eatF:Nat→List Ai→List aA×List Ai×Int
 | 0,s=>([],s,0)
 | f+1,s=>if (getF s).2.2=0 then ((getF s).1::(eatF f (s.drop (getF s).2.1.toNat)).1,(eatF f (s.drop (getF s).2.1.toNat)).2) else if (getF s).2.2=3 then ([],s,0) else ([],[],(getF s).2.2)
def eat (s:List Ai):List aA×List Ai×Int:=eatF (s.length+1) s
theorem aE3:∀ (f g:Nat) (s:List Ai),s.length<f→s.length<g→eatF f s=eatF g s
 | 0,_,s,h,_=>by omega
 | _,0,s,_,h=>by omega
 | f + 1,g+1,s,h1,h2=>by
   unfold eatF
   by_cases h:(getF s).2.2=0
   · have h3:=qO h
     have hd:(s.drop (getF s).2.1.toNat).length=s.length-(getF s).2.1.toNat:=AA
     rw [Az h,Az h,aE3 f g _ (by omega) (by omega)]
   · rw [Aq h,Aq h]
theorem aBA {s:List Ai} (h:(getF s).2.2=0):eat s=((getF s).1::(eat (s.drop (getF s).2.1.toNat)).1,(eat (s.drop (getF s).2.1.toNat)).2):=by
 have h3:=qO h
 have hd:(s.drop (getF s).2.1.toNat).length=s.length-(getF s).2.1.toNat:=AA
 unfold eat
 rw [eatF,Az h,aE3 s.length _ _ (by omega) (BH _)]
theorem aAv {s:List Ai} (h:(getF s).2.2=3):eat s=([],s,0):=by
 unfold eat; rw [eatF,Aq (by rw [h]; decide),Az h]
theorem aAw {s:List Ai} (h:(getF s).2.2≠0) (h3:(getF s).2.2≠3):eat s=([],[],(getF s).2.2):=by
 unfold eat; rw [eatF,Aq h,Aq h3]
theorem aJ9 {P:List Ai→Prop} (h:∀ s,((getF s).2.2=0→P (s.drop (getF s).2.1.toNat))→P s) (s:List Ai):P s:=by
 have key:∀ n (s:List Ai),s.length<n→P s:=by
  intro n
  induction n with
  | zero=>intro s hs; omega
  | succ n ih =>
    intro s hs
    refine h s fun h0=>ih _ ?_
    have h3:=qO h0
    rw [AA]; omega
 exact key _ s (BH _)
theorem aH9 (s:List Ai):∀ t,eat (s++t)=if (eat s).2.2=0 then ((eat s).1++(eat ((eat s).2.1++t)).1,(eat ((eat s).2.1++t)).2) else eat s:=by
 refine aJ9 (P:=fun s=>∀ t,eat (s++t)=if (eat s).2.2=0 then ((eat s).1++(eat ((eat s).2.1++t)).1,(eat ((eat s).2.1++t)).2) else eat s) ?_ s
 intro s ih t
 by_cases h:(getF s).2.2=0
 · have hm:=aB0 (s:=s) (by rw [h]; decide) t
   have h3:=qO h
   have hd:(s++t).drop (getF s).2.1.toNat=s.drop (getF s).2.1.toNat++t:=Bi (by omega)
   rw [aBA (by rw [hm]; exact h),aBA h,hm,hd,ih h t]
   simp only
   split <;> rfl
 · by_cases h3:(getF s).2.2=3
   · rw [aAv h3]; simp
   · have hm:=aB0 h3 t
     rw [aAw (by rw [hm]; exact h) (by rw [hm]; exact h3),aAw h h3,hm]
     simp only [Aq h]
theorem aB5 (s:List Ai):((eat s).2.2=0→(getF (eat s).2.1).2.2=3∧(eat s).2.1.length≤s.length)∧((eat s).2.2≠0→(eat s).2.1=[])∧(eat s).1.length≤s.length∧∀ g∈(eat s).1,g.au.length≤s.length:=by
 refine aJ9 (P:=fun s=>((eat s).2.2=0→(getF (eat s).2.1).2.2=3∧(eat s).2.1.length≤s.length)∧((eat s).2.2≠0→(eat s).2.1=[])∧(eat s).1.length≤s.length∧∀ g∈(eat s).1,g.au.length≤s.length) ?_ s
 intro s ih
 by_cases h:(getF s).2.2=0
 · have h3:=qO h
   have hp:=aH6 s
   obtain ⟨i1,i2,i3,i4⟩:=ih h
   have hd:(s.drop (getF s).2.1.toNat).length=s.length-(getF s).2.1.toNat:=AA
   rw [hd] at i3 i4
   rw [aBA h]
   refine ⟨fun e=>⟨(i1 e).1,by have:=(i1 e).2; rw [hd] at this; exact Cb this (Nat.sub_le _ _)⟩,i2,by rw [Ao]; omega,fun g hg=>?_⟩
   rcases AF.1 hg with rfl | hg
   · exact hp.1
   · have:=i4 g hg; omega
 · by_cases h3:(getF s).2.2=3
   · rw [aAv h3]; simp [h3]
   · rw [aAw h h3]; simp [h]

def stOf (s:List Ai):aK:=⟨(eat s).2.1,(eat s).2.2,((eat s).1.length:Int)⟩
theorem aJ2 (a:aK):∀ (k:Nat) (s:List Ai) (n:Nat) (acc:List aA),s.length<k→acc.length+s.length≤1000000→n+s.length≤1000000 →
 jZ a k s (n:Int) acc=some (⟨(eat s).2.1,if (eat s).2.2=0 then a.bv else (eat s).2.2,((n+(eat s).1.length:Nat):Int)⟩,acc++(eat s).1):=by
 intro k
 induction k with
 | zero=>intro s n acc h; omega
 | succ k ih =>
   intro s n acc hk hl hn
   unfold jZ mC
   rw [get_F (by omega),bF]
   simp only [eM]
   by_cases h:(getF s).2.2=0
   · have h3:=qO h
     have hd:(s.drop (getF s).2.1.toNat).length=s.length-(getF s).2.1.toNat:=AA
     rw [Ac h,Bw,tW (by omega) h3.2.2.1,bF,w64 (by omega) (by omega),dU (by simp; omega) (by simp; omega),bF]
     simp only [Ah,AD]
     rw [show (n:Int)+1=((n+1:Nat):Int) by omega,ih _ (n+1) _ (by omega) (by simp; omega) (by omega),aBA h]
     simp only [Ax,AY,AE,Ao]
     congr 3; congr 1; omega
   · rw [Aa h,AD]
     by_cases h3:(getF s).2.2=3
     · rw [Ac h3,aAv h3]; simp
     · rw [Aa h3,aAw h h3]; simp [h]
theorem aFo {a:List aA} (ha:a.length≤1000000):∀ (k i:Nat),a.length-i<k→i≤a.length→iI a k (a.take i) (i:Int)=some a:=by
 intro k
 induction k with
 | zero=>intro i h; omega
 | succ k ih =>
   intro i hk hi
   unfold iI
   simp only [eM]
   by_cases hc:i<a.length
   · rw [Ac (by omega),Bw,iT,Am hc,bF,dU (by simp; omega) (by simp; omega),bF,rJ hc (by omega),←Bo hc]
     exact ih (i+1) (by omega) (by omega)
   · have:i=a.length:=by omega
     subst this
     rw [Aa (by omega),AD,AM]
theorem aJv {a:List aA} (ha:a.length≤1000000):iP a=some a:=aFo ha fuel 0 (bK (by omega)) (Ci _)
theorem aEF {a:List aA} (ha:a.length≤1000000) (hp:∀ g∈a,g.au.length≤1000000):∀ (k i:Nat),a.length-i<k→i≤a.length→gS a a k (i:Int)=some true:=by
 intro k
 induction k with
 | zero=>intro i h; omega
 | succ k ih =>
   intro i hk hi
   unfold gS
   simp only [eM]
   by_cases hc:i<a.length
   · have hm:=hp _ (CC hc)
     rw [Ac (by omega),Bw,iT,Am hc,bF,bF,aK0 hm hm,bF]
     simp only [decide_true,Ah,AD]
     rw [rJ hc (by omega)]
     exact ih (i+1) (by omega) (by omega)
   · rw [Aa (by omega),AD]
theorem aHh {a:List aA} (ha:a.length≤1000000) (hp:∀ g∈a,g.au.length≤1000000):fK a a=some true:=by
 unfold fK
 simp only [eM,decide_true,Ah,AD]
 exact aEF ha hp fuel 0 (bK (by omega)) (Ci _)
end Go.Fn
open Go Go.IL
namespace Go.Fn

end Go.Fn
open Go Go.IL
namespace Go.Fn

structure Fine (f:aA):Prop where
 k0:0≤f.aq
 k1:f.aq≤255
 ok:chkF f=0
def cats (l:List aA):List Ai:=l.flatMap fun f=>(putF f).1
theorem eat_put {f:aA} (h:Fine f) (t:List Ai):eat ((putF f).1++t)=(f::(eat t).1,(eat t).2):=by
 have hb:=aGa h.k0 h.k1 h.ok t
 rw [aBA (by rw [hb]),hb]
 simp only [Au,EW]
theorem aGe:∀ (l:List aA),(∀ f∈l,Fine f)→eat (cats l)=(l,[],0)
 | [],_=>aAv rfl
 | f::l,h=>by
   have:cats (f::l)=(putF f).1++cats l:=rfl
   rw [this,eat_put (h f (by simp)),aGe l (fun g hg=>h g (by simp [hg]))]
end Go.Fn
open Go Go.IL
namespace Go.Fn
abbrev Ln:=aAb
end Go.Fn
open Go Go.IL
namespace Go.Fn
structure LI (w:Int) (n m:Nat) (l:Ln) (I:List Iv) (k:Int):Prop where
 sa:SG l.a [] [] 0
 sb:SG l.b l.wrote I k
 am:l.a.cm = -1∧l.a.co = -1
 bm:l.b.cm = -1∧l.b.co = -1
 al:All l.a.ae l.wrote
 en:l.b.af.br = -1∨(l.b.af.br=(l.wrote.length:Int)∧l.a.ae.aw=true∧l.a.ae.ak=(l.wrote.length:Int)∧l.a.ae.az=true)
 kn:k≤l.a.ae.ak
 gi:l.a.cr.cf+l.given=l.b.In.cf∧0≤l.given
 bw:l.b.In.ca=w
 wn:∀ q∈l.went,0≤q.at_∧∃ to,q.at_≤to∧to≤l.a.ae.ak∧q.s=sl l.wrote q.at_ to∧(q.fin=true→l.a.ae.aw=true∧to=(l.wrote.length:Int)∧l.a.ae.az=true)
 rd:l.read=sl l.wrote 0 l.b.In.cg
 fi:l.end_=true→l.b.In.cg=(l.wrote.length:Int)∧l.a.ae.aw=true∧l.b.af.br=(l.wrote.length:Int)
 wb:l.wrote.length≤100*n
 ml:l.went.length≤m
 ab:l.a.ae.ag≤l.b.af.af.ag
 dn:l.a.ae.ba=true→l.b.af.br=(l.wrote.length:Int)
theorem LI.mono {w:Int} {n m n' m':Nat} {l:Ln} {I:List Iv} {k:Int} (h:LI w n m l I k) (hn:n≤n') (hm:m≤m'):LI w n' m' l I k :=
 ⟨h.sa,h.sb,h.am,h.bm,h.al,h.en,h.kn,h.gi,h.bw,h.wn,h.rd,h.fi,by have:=h.wb; omega,by have:=h.ml; omega,h.ab,h.dn⟩
theorem LI.nx {w:Int} {n m:Nat} {l:Ln} {I:List Iv} {k:Int} (h:LI w n m l I k):l.a.ae.ak≤(l.wrote.length:Int):=by rw [h.al.len]; exact h.al.g.nd
section
variable {w:Int} {n m:Nat} {l:Ln} {I:List Iv} {k:Int}
end
end Go.Fn
open Go Go.IL
namespace Go.Fn
section
variable {w:Int} {n m:Nat} {l:Ln} {I:List Iv} {k:Int}
end
end Go.Fn
open Go Go.IL
namespace Go.Fn
section
variable {w:Int} {n m:Nat} {l:Ln} {I:List Iv} {k:Int}
end
end Go.Fn
open Prod renaming fst → Dc
open Go Go.IL
namespace Go.Fn
theorem eat_pre {l:List aA} (h:∀ f∈l,Fine f) (i:Nat):(eat ((cats l).take i)).2.2=0∧∃ r,l=(eat ((cats l).take i)).1++r:=by
 have ha:=aH9 ((cats l).take i) ((cats l).drop i)
 rw [AO,aGe l h] at ha
 by_cases hb:(eat ((cats l).take i)).2.2=0
 · rw [Az hb] at ha
   exact ⟨hb,_,Bv Dc ha⟩
 · rw [Aq hb] at ha
   exact AP (by rw [←ha]) hb
end Go.Fn
open Go Go.IL
namespace Go.Fn
abbrev Ct:=aG
abbrev Fr:=aA
theorem aFz:jI=some true:=by kernel_rfl
def carB (k:Int):Bool:=decide (k=1)||(decide (k=2)||(decide (k=3)||(decide (k=4)||(decide (k=6)||(decide (k=7)||decide (k=8))))))
theorem aCm (k:Int):qH k=some (carB k):=by
 unfold qH carB
 simp only [bndD]
 cases decide (k=1)
 · cases decide (k=2)
   · cases decide (k=3)
     · cases decide (k=4)
       · cases decide (k=6)
         · cases decide (k=7)
           · cases decide (k=8) <;> rfl
           · rfl
         · rfl
       · rfl
     · rfl
   · rfl
 · rfl
end Go.Fn
open Go Go.IL
namespace Go.Fn
def recv0:aM:=⟨⟨0,[],[]⟩,-1⟩
def ct0:Ct:=⟨new23,recv0,⟨[],0,0⟩⟩
theorem new29:tX=some ct0:=rfl
def sendL (b:List Ai):S23:=⟨0,b,0,[],[],false,false,false,false⟩
structure PI (sent:List Fr):Prop where
 fr:∀ f∈sent,Fine f∧carB f.aq=true
 pr:∀ f∈sent,f.au.length≤10
 g:G (sendL (cats sent))
end Go.Fn
open Go Go.IL
namespace Go.Fn
def sz:List Iv→Int
 | []=>0
 | x::r=>(x.To-x.aa)+sz r
def blkS (s:S23) (lim:Int):Int:=if s.ak<endS s∧lim≤s.ak then 1 else 0
def finS (s:S23):Int:=if dueS s=true then 1 else 0
def left (s:S23) (lim:Int):Int:=sz s.ay+2*(endS s-s.ak)+blkS s lim+finS s
end Go.Fn
open Go Go.IL
namespace Go.Fn
theorem put_70 {f:Fr} (h:Fine f):(putF f).1.length≤70:=by
 have hg:=aGj h.ok
 have hl:=hg.pay_le
 have hv:=aCs hg.vpay
 have hs:oM ((pay f).length:Int)≤2:=by
  unfold oM
  split
  · omega
  · split
    · omega
    · rw [Az (by omega)]; omega
 have hv2:=hv.2
 unfold putF
 rw [Az h.ok]
 simp
 omega
theorem aKH:∀ (l:List Fr),(∀ f∈l,Fine f)→(cats l).length≤70*l.length
 | [],_=>AJ _
 | x::l,h=>by
   have h1:=aKH l (fun f hf=>h f (by simp [hf]))
   have h2:=put_70 (h x (by simp))
   have e:cats (x::l)=(putF x).1++cats l:=rfl
   rw [e,Ae,Ao]; omega
def rest (s:S23):Int:=sz s.ay+(endS s-s.ak)
end Go.Fn
open _root_ renaming Option → Ad
open Go Go.IL
namespace Go.Fn
abbrev Pe9:=dZ
abbrev D29:=uM
structure L29 where
 a:Ct
 b:Ct
 sent:List Fr
 told:List Fr
 went:List Pe9
 most:Int
abbrev KT9:=(List aA)→(List aA)→(List dZ)→Int→Int→Int→(List Ai)→Int→(List aD)→(List aC)→Bool→Bool→Bool→Bool→Int→(List Ai)→(List aL)→Int→(List Ai)→Int→Int→Int→(List Ai)→Int→(List aD)→(List aC)→Bool→Bool→Bool→Bool→Int→(List Ai)→(List aL)→Int→(List Ai)→Int→Int→Ad Bool
def kk9 (kk:KT9) (i:Int) (l:L29):Ad Bool:=kk l.sent l.told l.went l.most i l.a.ae.ag l.a.ae.aj l.a.ae.ak l.a.ae.ah l.a.ae.ay l.a.ae.aw l.a.ae.az l.a.ae.ax l.a.ae.ba l.a.af.af.ag l.a.af.af.ap l.a.af.af.ao l.a.af.br l.a.In.bq l.a.In.bv l.a.In.bf l.b.ae.ag l.b.ae.aj l.b.ae.ak l.b.ae.ah l.b.ae.ay l.b.ae.aw l.b.ae.az l.b.ae.ax l.b.ae.ba l.b.af.af.ag l.b.af.af.ap l.b.af.af.ao l.b.af.br l.b.In.bq l.b.In.bv l.b.In.bf
def o0 (ds:List D29) (f:Nat) (i:Int) (l:L29):Ad Bool:=kk9 (bY ds f) i l
def oj (i:Int) (kk:KT9) (l:L29):Ad Bool:=bZ i kk l.sent l.told l.went l.most l.a.ae.ag l.a.ae.aj l.a.ae.ak l.a.ae.ah l.a.ae.ay l.a.ae.aw l.a.ae.az l.a.ae.ax l.a.ae.ba l.a.af.af.ag l.a.af.af.ap l.a.af.af.ao l.a.af.br l.a.In.bq l.a.In.bv l.a.In.bf l.b.ae.ag l.b.ae.aj l.b.ae.ak l.b.ae.ah l.b.ae.ay l.b.ae.aw l.b.ae.az l.b.ae.ax l.b.ae.ba l.b.af.af.ag l.b.af.af.ap l.b.af.af.ao l.b.af.br l.b.In.bq l.b.In.bv l.b.In.bf
def o3 (l:L29) (f:Nat) (i:Int) (a:Ct):Ad Bool:=jV l.sent l.told l.most l.b.ae.ag l.b.ae.aj l.b.ae.ak l.b.ae.ah l.b.ae.ay l.b.ae.aw l.b.ae.az l.b.ae.ax l.b.ae.ba l.b.af.af.ag l.b.af.af.ap l.b.af.af.ao l.b.af.br l.b.In.bq l.b.In.bv l.b.In.bf f i a.ae.ag a.ae.aj a.ae.ak a.ae.ah a.ae.ay a.ae.aw a.ae.az a.ae.ax a.ae.ba a.af.af.ag a.af.af.ap a.af.af.ao a.af.br a.In.bq a.In.bv a.In.bf
def o4 (sent:List Fr) (most:Int) (f:Nat) (told:List Fr) (i:Int) (a b:Ct):Ad Bool:=jU sent most f told i a.ae.ag a.ae.aj a.ae.ak a.ae.ah a.ae.ay a.ae.aw a.ae.az a.ae.ax a.ae.ba a.af.af.ag a.af.af.ap a.af.af.ao a.af.br a.In.bq a.In.bv a.In.bf b.ae.ag b.ae.aj b.ae.ak b.ae.ah b.ae.ay b.ae.aw b.ae.az b.ae.ax b.ae.ba b.af.af.ag b.af.af.ap b.af.af.ao b.af.br b.In.bq b.In.bv b.In.bf
structure OI (n:Nat) (l:L29) (I:List Iv) (k:Int):Prop where
 fr:∀ f∈l.sent,Fine f∧carB f.aq=true
 pr:∀ f∈l.sent,f.au.length≤10
 sn:l.sent.length≤n
 mo:l.most=4+70*(l.sent.length:Int)
 al:All l.a.ae (cats l.sent)
 cl:l.a.ae.aw=false
 ar:l.a.af=recv0
 ai:l.a.In=⟨[],0,0⟩
 bs:l.b.ae=new23
 rq:RQ (cats l.sent) I l.b.af.af
 be:l.b.af.br = -1
 bz:l.b.af.af.ap=[]
 bi:l.b.In=stOf (sl (cats l.sent) 0 l.b.af.af.ag)
 hi:aCD l.b.af.af.ag I k
 kn:k≤l.a.ae.ak
 ab:l.a.ae.ag≤l.b.af.af.ag
 to:l.told=(eat (sl (cats l.sent) 0 l.b.af.af.ag)).1
 wn:∀ q∈l.went,0≤q.at_∧∃ to,q.at_≤to∧to≤l.a.ae.ak∧q.s=sl (cats l.sent) q.at_ to
 ml:l.went.length≤n
section
variable {n:Nat} {l:L29} {I:List Iv} {k:Int}
theorem OI.len (h:OI n l I k):(cats l.sent).length≤70*n:=by
 have h1:=aKH l.sent (fun f hf=>(h.fr f hf).1)
 have:=h.sn
 omega
theorem OI.pre (h:OI n l I k):(eat (sl (cats l.sent) 0 l.b.af.af.ag)).2.2=0∧∃ r,l.sent=l.told++r:=by
 rw [h.to,sl_take]; exact eat_pre (fun f hf=>(h.fr f hf).1) _
end
end Go.Fn
open Go Go.IL
namespace Go.Fn
end Go.Fn
open Bool renaming eq_iff_iff → BZ,false_and → AN,false_eq_true → Cq,not_eq_true' → CO,not_false → Ba,or_eq_true → CB,or_self → Bc
open List renaming length_singleton → AZ
open Nat renaming add_zero → CE,lt_of_not_le → HU,zero_add → Bl
open _root_ renaming decide_eq_true_iff → BJ
open Go Go.IL
namespace Go.Fn
structure IX (x:aK) (m:Nat):Prop where
 bad:x.bv=0
 cut:(getF x.bq).2.2=3
 s0:0≤x.bf
 sm:x.bf≤(m:Int)
theorem IX.bl {x:aK} {m:Nat} (h:IX x m):x.bq.length≤80:=aEv h.cut
theorem aJi {x:aK} {m:Nat} (h:IX x m):oJ x=some 0∧lR x=some 0:=by
 have hl:=h.bl
 have h0:=h.s0
 constructor
 · unfold oJ
   simp only [bndD,h.bad,decide_true,Ah,AN,aQ,get_F (show x.bq.length≤1000000 by omega),bnoS,h.cut,Aa (show ¬(80:Int)<(x.bq.length:Int) by omega),Bc,Aa (show ¬x.bf<0 by omega)]
 · unfold lR tJ
   simp only [bndD,h.bad,decide_true,Ah,AN,aQ,aMm (show x.bq.length≤1000000 by omega),bnoS,h.cut,Aa (show ¬(80:Int)<(x.bq.length:Int) by omega),Bc,Aa (show ¬x.bf<0 by omega)]
theorem aKA {b t:List Ai} (h:(getF b).2.2=3):(eat (b++t)).1.length≤t.length:=by
 by_cases h0:(getF (b++t)).2.2=0
 · have h3:=qO h0
   rw [aBA h0]
   have hn:b.length<(getF (b++t)).2.1.toNat:=by
    apply HU
    intro hle
    have e:=aJs h0
    rw [AC hle] at e
    have hm:=aB0 (s:=b.take (getF (b++t)).2.1.toNat) (by rw [e]; exact (by decide:(0:Int)≠3)) (b.drop (getF (b++t)).2.1.toNat)
    rw [AO,e] at hm
    rw [hm] at h
    exact AP h (show ¬(0:Int)=3 by decide)
   have hf:=(aB5 ((b++t).drop (getF (b++t)).2.1.toNat)).2.2.1
   have hd:((b++t).drop (getF (b++t)).2.1.toNat).length=(b++t).length-(getF (b++t)).2.1.toNat:=AA
   have ha:(b++t).length=b.length+t.length:=Ae
   have hg:=h3.2.2.1
   have:(b++t).length≠0→True:=fun _=>trivial
   rw [Ao]
   omega
 · by_cases h3:(getF (b++t)).2.2=3
   · rw [aAv h3]; simp
   · rw [aAw h0 h3]; simp
def stN (n:Int) (s:List Ai):aK:=⟨(eat s).2.1,(eat s).2.2,n+((eat s).1.length:Int)⟩
theorem ifeed {x:aK} {m:Nat} (h:IX x m) (hm:m≤500000) {t:List Ai} (ht:t.length≤5000):pT x t=some (stN x.bf (x.bq++t),(eat (x.bq++t)).1):=by
 have hl:=h.bl
 have h0:=h.s0
 have h1:=h.sm
 have hf:=aJ2 x fuel (x.bq++t) x.bf.toNat [] (bK (by rw [Ae]; omega)) (by rw [Ae]; simp; omega) (by rw [Ae]; omega)
 unfold pT
 simp only [bndD,h.bad,decide_true,Ah,show (false == false)=true from rfl,gdtt,(aJi h).1,bnoS,Bc,aQ,sM (a:=x.bq) (b:=t) (by omega)]
 rw [show ((x.bf.toNat:Nat):Int)=x.bf by omega] at hf
 rw [hf,AE]
 unfold stN
 congr 3
 · rw [h.bad]
   split
   · rename_i e; exact e.symm
   · rfl
 · omega
theorem aHo (a:aK) (a1:List Ai) (hb:a.bv=0):∀ (k:Nat) (s:List Ai) (n:Nat) (v:Nat) (acc:List aA),s.length<k→acc.length+s.length≤1000000→n+s.length≤1000000→v+(eat s).1.length≤a1.length→a1.length≤1000000 →
 gV a a1 k s acc (v:Int) (n:Int)=some (⟨(eat s).2.1,(eat s).2.2,((n+(eat s).1.length:Nat):Int)⟩,acc++(eat s).1):=by
 intro k
 induction k with
 | zero=>intro s n v acc h; omega
 | succ k ih =>
   intro s n v acc hk hl hn hv ha
   unfold gV mH
   rw [bndD,Ac (show (v:Int)≤(a1.length:Int) by omega),aU,aMm (by omega),bnoS,bndD]
   by_cases h:(getF s).2.2=0
   · have h3:=qO h
     have hd:(s.drop (getF s).2.1.toNat).length=s.length-(getF s).2.1.toNat:=AA
     rw [aBA h] at hv
     simp only [Ao] at hv
     have:=ih (s.drop (getF s).2.1.toNat) (n+1) (v+1) (acc++[(getF s).1]) (by omega) (by simp; omega) (by omega) (by omega) ha
     rw [Aa (show ¬(getF s).2.2=3 by rw [h]; decide),aQ,bndD,Ac h,Ah,aQ,dU (by simp; omega) (by simp; omega),bnoS,w64 (by omega) (by omega),bndD,tW (by omega) h3.2.2.1,bnoS,w64 (by omega) (by omega),bndD]
     rw [show (n:Int)+1=((n+1:Nat):Int) by omega,show (v:Int)+1=((v+1:Nat):Int) by omega,this,aBA h]
     simp only [Ax,AY,AE,Ao]
     congr 3; congr 1; omega
   · by_cases h3:(getF s).2.2=3
     · rw [Ac h3,aU,aAv h3,hb]; simp
     · rw [Aa h3,aQ,bndD,Aa h,Ba,aU,aAw h h3]; simp
theorem rifeed {x:aK} {m:Nat} (h:IX x m) (hm:m≤500000) {t:List Ai} (ht:t.length≤5000):oY x t=some (stN x.bf (x.bq++t),(eat (x.bq++t)).1):=by
 have hl:=h.bl
 have h0:=h.s0
 have h1:=h.sm
 have hf:=aHo x t h.bad fuel (x.bq++t) x.bf.toNat 0 [] (bK (by rw [Ae]; omega)) (by rw [Ae]; simp; omega) (by rw [Ae]; omega) (by rw [Bl]; exact aKA h.cut) (by omega)
 unfold oY
 simp only [bndD,h.bad,decide_true,Ah,show (false == false)=true from rfl,gdtt,(aJi h).2,bnoS,Bc,aQ,sM (a:=x.bq) (b:=t) (by omega)]
 rw [show ((x.bf.toNat:Nat):Int)=x.bf by omega] at hf
 have hf:gV x t fuel (x.bq++t) [] 0 x.bf=_:=hf
 rw [hf,AE]
 unfold stN
 congr 3
 omega
theorem ix_next {x:aK} {m:Nat} (h:IX x m) {t:List Ai} (ht:t.length≤5000) (hb:(eat (x.bq++t)).2.2=0):IX (stN x.bf (x.bq++t)) (m+5000):=by
 have h0:=h.s0
 have h1:=h.sm
 have hc:=aKA (t:=t) h.cut
 refine ⟨hb,((aB5 (x.bq++t)).1 hb).1,?_,?_⟩
 · show 0≤x.bf+_; omega
 · show x.bf+((eat (x.bq++t)).1.length:Int)≤((m+5000:Nat):Int); omega
theorem aGH (k:Int):jL k=some (carB k):=by
 unfold jL
 simp only [bndD]
 congr 1
 unfold carB
 rw [BZ]
 simp only [Af,CB,CO,BJ,decide_eq_false_iff_not]
 omega
def oddN:List Fr→Ad Nat
 | []=>none
 | f::r=>if carB f.aq=true then (oddN r).map (· + 1) else some 0
theorem aJC:∀ {l:List Fr} {n:Nat},oddN l=some n→n<l.length
 | f :: r,n,h=>by
   unfold oddN at h
   by_cases c:carB f.aq=true
   · rw [Az c] at h
     cases hr:oddN r with
     | none=>rw [hr] at h; cases h
     | some k =>
       rw [hr] at h
       have:=aJC hr
       have:k+1=n:=by injection h
       rw [Ao]; omega
   · rw [Aq c] at h
     have:0=n:=by injection h
     rw [Ao]; omega
theorem odd_P {l:List Fr} (hl:l.length≤1000000):∀ (r p:List Fr) (f:Nat),l=p++r→r.length<f→bI l f (p.length:Int)=some (match oddN r with | none=>-1 | some n=>((p.length+n:Nat):Int))
 | _,_,0,_,hf=>AP hf (by omega)
 | [],p,f+1,h,_=>by
   rw [bI]
   simp only [bndD,jC h,aQ]
   rfl
 | x :: r,p,f+1,h,hf=>by
   rw [bI]
   have ho:pF x=some (!carB x.aq):=by
    unfold pF
    rw [aCm,bnoS]
   have hrec:=odd_P hl r (p++[x]) f (pK h) (by simpa using hf)
   simp only [bndD,iS h,aU,cX h,bnoS,ho]
   unfold oddN
   cases hc:carB x.aq
   · simp only [Ba,aU,Cq,if_false,CE]
   · simp only [Ah,aQ,if_true,w_at h hl]
     rw [hrec]
     cases oddN r with
     | none=>rfl
     | some n =>
       simp only [Cl,Ae,AZ]
       congr 2; omega
theorem aM8 {l:List Fr} (hl:l.length≤1000000):∀ (r p:List Fr) (f:Nat),l=p++r→r.length<f→gT l f (p.length:Int)=some (match oddN r with | none=>(l,false) | some n=>(l.take (p.length+n),true))
 | _,_,0,_,hf=>AP hf (by omega)
 | [],p,f+1,h,_=>by
   rw [gT]
   simp only [bndD,jC h,aQ]
   rfl
 | x :: r,p,f+1,h,hf=>by
   rw [gT]
   have hrec:=aM8 hl r (p++[x]) f (pK h) (by simpa using hf)
   simp only [bndD,iS h,aU,cX h,bnoS,aGH]
   unfold oddN
   cases hc:carB x.aq
   · have hcut:cut l 0 (p.length:Int)=some (l.take p.length):=by
      rw [yQ (by omega) (by rw [h]; simp; omega),Au]
     simp only [Ba,aU,Cq,if_false,CE,hcut,bnoS]
   · simp only [Ah,aQ,if_true,w_at h hl]
     rw [hrec]
     cases oddN r with
     | none=>rfl
     | some n =>
       simp only [Cl,Ae,AZ]
       congr 3; omega
theorem odd_is {l:List Fr} (hl:l.length≤1000000):cZ l=some (match oddN l with | none=>-1 | some n=>(n:Int)):=by
 have:=odd_P hl l [] fuel rfl (bK (by omega))
 simp only [Bj,Bl] at this
 exact this
theorem fine_is {l:List Fr} (hl:l.length≤1000000):rV l=some (match oddN l with | none=>(l,false) | some n=>(l.take n,true)):=by
 have:=aM8 hl l [] fuel rfl (bK (by omega))
 simp only [Bj,Bl] at this
 exact this
end Go.Fn
open Bool renaming true_and → Bn,true_or → BO
open Go.IntKind renaming wrap → Ab
open List renaming drop_length → Cm,mem_of_mem_take → CK
open _root_ renaming beq_self_eq_true → Ap
open Go Go.IL
namespace Go.Fn
structure CX (st:Ct) (m:Nat):Prop where
 g:G st.ae
 cl:st.ae.aw=false
 rx:RX st.af.af
 en:st.af.br = -1
 rd:st.af.af.ap=[]
 ix:IX st.In m
theorem IX.mono {x:aK} {m k:Nat} (h:IX x m) (hk:m≤k):IX x k:=⟨h.bad,h.cut,h.s0,by have:=h.sm; omega⟩
theorem CX.mono {st:Ct} {m k:Nat} (h:CX st m) (hk:m≤k):CX st k:=⟨h.g,h.cl,h.rx,h.en,h.rd,h.ix.mono hk⟩
theorem CX.send {st:Ct} {m:Nat} (h:CX st m) {s:S23} (g:G s) (c:s.aw=false):CX ⟨s,st.af,st.In⟩ m:=⟨g,c,h.rx,h.en,h.rd,h.ix⟩
theorem CX.rcv {st:Ct} {m:Nat} (h:CX st m):st.af=⟨st.af.af,-1⟩:=by rw [←h.en]
section
variable {st:Ct} {m:Nat}
theorem cck (h:CX st m):dE st=some 0∧dR st=some 0:=by
 obtain ⟨c1,c2⟩:=zV h.rx (E:=-1) (.inl rfl)
 rw [←h.rcv] at c1 c2
 obtain ⟨i1,i2⟩:=aJi h.ix
 constructor
 · unfold dE
   simp only [xI h.g,bnoS,bndD,decide_true,Ah,aQ,c1,i1,h.cl,h.en,h.rd,h.ix.bad,show decide ((0:Int) ≤ -1)=false from rfl,Bc]
 · obtain ⟨f,hf⟩:∃ f,fuel=f+4:=⟨fuel-4,by have:=bK (n:=4) (by decide); omega⟩
   unfold dR
   rw [uD h.g,bnoS,c2,bnoS,i2,bnoS,hf]
   have e0:decide ((0:Int)<(([0,0,0]:List Int).length:Int))=true:=rfl
   have e1:decide ((1:Int)<(([0,0,0]:List Int).length:Int))=true:=rfl
   have e2:decide ((2:Int)<(([0,0,0]:List Int).length:Int))=true:=rfl
   have e3:decide ((3:Int)<(([0,0,0]:List Int).length:Int))=false:=rfl
   have g0:gix ([0,0,0]:List Int) 0=some 0:=rfl
   have g1:gix ([0,0,0]:List Int) 1=some 0:=rfl
   have g2:gix ([0,0,0]:List Int) 2=some 0:=rfl
   have w0:Ab .i64 ((0:Int)+1)=1:=w64 (by decide) (by decide)
   have w1:Ab .i64 ((1:Int)+1)=2:=w64 (by decide) (by decide)
   have w2:Ab .i64 ((2:Int)+1)=3:=w64 (by decide) (by decide)
   rw [fB,bndD,e0,aU,g0,bnoS,bndD,Ac rfl,Ah,aQ,bndD,w0]
   rw [fB,bndD,e1,aU,g1,bnoS,bndD,Ac rfl,Ah,aQ,bndD,w1]
   rw [fB,bndD,e2,aU,g2,bnoS,bndD,Ac rfl,Ah,aQ,bndD,w2]
   rw [fB,bndD,e3,aQ]
   simp only [bndD,h.cl,h.en,h.rd,h.ix.bad,show decide ((0:Int) ≤ -1)=false from rfl,decide_true,Ah,Bc,aQ]
theorem aIo {r:R12} (h:RX r):(aCI r 4096).ap=[]∧(r.ap.take (yX r 4096)).length≤4096:=by
 have hm:=h.rm
 have e:yX r 4096=r.ap.length:=by
  unfold yX
  rw [Aq (by decide)]; omega
 constructor
 · show r.ap.drop (yX r 4096)=[]
   rw [e,Cm]
 · rw [e,AM]; exact hm
theorem aKo {r:R12} (h:RX r) (hs:RX (aCI r 4096)):(∃ b,zU ⟨r,-1⟩ 4096=some (⟨aCI r 4096,-1⟩,r.ap.take (yX r 4096),b))∧(∃ b,oU ⟨r,-1⟩ 4096=some (⟨aCI r 4096,-1⟩,r.ap.take (yX r 4096),b)):=by
 obtain ⟨e1,e2⟩:=x_ended hs (E:=-1) (.inl rfl)
 constructor
 · unfold zU
   rw [show (⟨r,-1⟩:aM).af=r from rfl,xread h,bnoS,e1,bnoS]
   exact ⟨_,rfl⟩
 · unfold oU
   rw [show (⟨r,-1⟩:aM).af=r from rfl,rread12 h,bnoS,e2,bnoS]
   exact ⟨_,rfl⟩
def okF (l:List Fr):Prop:=l.length≤10000∧∀ g∈l,g.au.length≤10000
theorem okF_nil:okF []:=⟨Ci _,fun _ h=>by cases h⟩
theorem aLC {l:List Fr} (h:okF l) (n:Nat):okF (l.take n):=⟨by rw [Aw]; have:=h.1; omega,fun g hg=>h.2 g (CK hg)⟩
theorem c_data (h:CX st m) (hm:m≤500000) {a:Int} {str:List Ai} (hs:str.length≤1000):∃ x,fZ st a str=some x∧kL st a str=some x∧CX x.1 (m+5000)∧okF x.2.1∧0≤x.2.2∧x.2.2≤255:=by
 obtain ⟨k1,k2⟩:=cck h
 have hmono:=h.mono (show m≤m+5000 by omega)
 unfold fZ kL
 rw [k1,k2,h.rcv]
 rcases x_putG h.rx (a:=a) hs with ⟨_,p1,p2⟩ | ⟨r',n,n',hr,p1,p2⟩
 · refine ⟨(st,[],2),?_,?_,hmono,okF_nil,by simp,by simp⟩
   · simp only [bnoS,bndD,decide_true,Ah,aQ,p1,show decide ((2:Int)=0)=false from rfl,Ba,aU]
   · simp only [bnoS,bndD,decide_true,Ah,aQ,p2,show decide ((2:Int)=0)=false from rfl,Ba,aU]
 · obtain ⟨q1,q2⟩:=aIo hr
   have hrr:=rx_read hr 4096
   obtain ⟨⟨b,e1⟩,⟨b',e2⟩⟩:=aKo hr hrr
   generalize ht:r'.ap.take (yX r' 4096)=t at q2 e1 e2
   have f1:=ifeed h.ix hm (t:=t) (by omega)
   have f2:=rifeed h.ix hm (t:=t) (by omega)
   have hbl:=h.ix.bl
   have hfa:=aB5 (st.In.bq++t)
   have hal:(st.In.bq++t).length=st.In.bq.length+t.length:=Ae
   have hok:okF (eat (st.In.bq++t)).1:=⟨by have:=hfa.2.2.1; omega,fun g hg=>by have:=hfa.2.2.2 g hg; omega⟩
   have o1:=odd_is (l:=(eat (st.In.bq++t)).1) (by have:=hok.1; omega)
   have o2:=fine_is (l:=(eat (st.In.bq++t)).1) (by have:=hok.1; omega)
   cases ho:oddN (eat (st.In.bq++t)).1 with
   | some k =>
     rw [ho] at o1 o2
     have hk:=aJC ho
     have hcut:cut (eat (st.In.bq++t)).1 0 (k:Int)=some ((eat (st.In.bq++t)).1.take k):=by
      rw [yQ (by omega) (by omega),Au]
     refine ⟨(st,(eat (st.In.bq++t)).1.take k,1),?_,?_,hmono,aLC hok k,by simp,by simp⟩
     · simp only [bnoS,bndD,decide_true,Ah,aQ,p1,e1,f1,o1,Ac (show (0:Int)≤(k:Int) by omega),aU,hcut]
     · simp only [bnoS,bndD,decide_true,Ah,aQ,p2,e2,f2,o2,aU]
   | none =>
     rw [ho] at o1 o2
     have hbad:(stN st.In.bf (st.In.bq++t)).bv=(eat (st.In.bq++t)).2.2:=rfl
     by_cases hb:(eat (st.In.bq++t)).2.2=0
     · have fault:tO 0=some ⟨0,0⟩:=rfl
       refine ⟨(⟨st.ae,⟨aCI r' 4096,-1⟩,stN st.In.bf (st.In.bq++t)⟩,(eat (st.In.bq++t)).1,0),?_,?_,⟨h.g,h.cl,hrr,rfl,q1,ix_next h.ix (by omega) hb⟩,hok,by simp,by simp⟩
       · simp only [bnoS,bndD,decide_true,Ah,aQ,p1,e1,f1,o1,show decide ((0:Int) ≤ -1)=false from rfl,hbad,hb,fault]
       · simp only [bnoS,bndD,decide_true,Ah,aQ,p2,e2,f2,o2,hbad,hb]
     · obtain ⟨cd,c0,c1,v1,v2⟩:∃ cd:Int,0≤cd∧cd≤255∧tO (eat (st.In.bq++t)).2.2=some ⟨3,cd⟩∧nX (eat (st.In.bq++t)).2.2=some ⟨3,cd⟩:=by
        unfold tO nX mG
        simp only [bndD,bnoS,Aa hb,aQ]
        by_cases h5:(eat (st.In.bq++t)).2.2=5
        · rw [Ac h5]; exact ⟨6,by decide,by decide,rfl,rfl⟩
        · rw [Aa h5]; exact ⟨1,by decide,by decide,rfl,rfl⟩
       refine ⟨(st,(eat (st.In.bq++t)).1,cd),?_,?_,hmono,hok,c0,c1⟩
       · simp only [bnoS,bndD,decide_true,Ah,aQ,p1,e1,f1,o1,show decide ((0:Int) ≤ -1)=false from rfl,hbad,v1,show decide ((3:Int)=0)=false from rfl,Ba,aU]
       · simp only [bnoS,bndD,decide_true,Ah,aQ,p2,e2,f2,o2,hbad,Aa hb,Ba,aU,v2]
theorem c_came (h:CX st m) (n:Int):∃ x,jF st n=some x∧kM st n=some x∧CX x m:=by
 obtain ⟨k1,k2⟩:=cck h
 have c1:=came23 h.g n false
 have c2:=rcame23 h.g n false
 refine ⟨⟨if uJ st.ae n false then aB9 st.ae n false else st.ae,st.af,st.In⟩,?_,?_,?_⟩
 · unfold jF iU qQ
   simp only [k1,bnoS,bndD,decide_true,aU,c1]
 · unfold kM
   simp only [k2,bnoS,bndD,decide_true,aU,c2]
 · by_cases hc:uJ st.ae n false
   · rw [Az hc]; exact h.send (g_came h.g hc) h.cl
   · rw [Aq hc]; exact h
theorem c_dead (h:CX st m) (n:Int):∃ x,mF st n=some x∧mQ st n=some x∧CX x m:=by
 obtain ⟨k1,k2⟩:=cck h
 obtain ⟨L,d1,d2⟩:=dead23 h.g n
 have d3:=rdead23 h.g n d1
 refine ⟨⟨aFs st.ae n L,st.af,st.In⟩,?_,?_,h.send (g_dead h.g d1) h.cl⟩
 · unfold mF kD sJ
   simp only [k1,bnoS,bndD,decide_true,aU,d2]
 · unfold mQ
   simp only [k2,bnoS,bndD,decide_true,aU,d3]
theorem pick_cl {s:S23} (h:G s) {by_ most limit:Int} (hm:most≤9223372036854775807) (hl:0≤limit∧limit≤4398046511104):∃ x,lT s by_ most limit=some x∧G x.1∧x.1.aw=s.aw:=by
 obtain ⟨x,p1,p2,_⟩:=aGJ h (by_:=by_) hm hl
 refine ⟨x,p1,p2,?_⟩
 by_cases hb:0≤by_∧by_<4
 · by_cases hm1:most<1
   · have:=p1.symm.trans (aAj h hb hm hl (.inl hm1))
     injection this with e; rw [e]
   · cases his:(fW s most limit).2 with
     | false =>
       have:=p1.symm.trans (aAj h hb hm hl (.inr his))
       injection this with e; rw [e]
     | true =>
       obtain ⟨A,B,_,_,p3⟩:=aDF h hb ⟨by omega,hm⟩ hl his
       have:=p1.symm.trans p3
       injection this with e; rw [e]; rfl
 · have hP:mV by_=some false:=by
    unfold mV
    by_cases c:0≤by_
    · rw [bndD,Ac c,bndD,Aa (show ¬by_<4 by omega)]; rfl
    · rw [bndD,Aa c]; rfl
   have hpl:=h.pl
   have hll:=h.ll
   have:lT s by_ most limit=some (s,⟨0,0,0,false⟩,[],false):=by
    unfold lT
    rw [aEV (by omega) (by omega),bnoS,hP,bnoS]
    simp only [bndD,Ba,BO,aU,show (true == false)=false from rfl,gdff,bnoS]
   have:=p1.symm.trans this
   injection this with e; rw [e]
theorem c_pick (h:CX st m) {p most:Int} (hm:most≤9223372036854775807):∃ x,lJ st p most=some x∧mP st p most=some x∧CX x.1 m:=by
 obtain ⟨k1,k2⟩:=cck h
 obtain ⟨x,p1,p2,p3⟩:=pick_cl h.g (by_:=p) hm (limit:=1099511627776) (by decide)
 have p4:eW st.ae p most 1099511627776=some x:=(aIi h.g hm (by decide)).trans p1
 refine ⟨(⟨x.1,st.af,st.In⟩,x.2.1,x.2.2.1,x.2.2.2),?_,?_,h.send p2 (p3.trans h.cl)⟩
 · unfold lJ kC sI
   simp only [k1,bnoS,bndD,decide_true,aU,p1]
 · unfold mP
   simp only [k2,bnoS,bndD,decide_true,Ah,aQ,p4]
theorem c_want (h:CX st m):∃ b,lI st=some b∧mN st=some b:=by
 obtain ⟨k1,k2⟩:=cck h
 obtain ⟨x,p1,p2,p3,p4,p6⟩:=aGJ h.g (by_:=0) (most:=1) (by decide) (limit:=1099511627776) (by decide)
 have p5:eW st.ae 0 1 1099511627776=some x:=(aIi h.g (by decide) (by decide)).trans p1
 have p6:=p6 (by decide) (by decide) (by decide)
 refine ⟨(fW st.ae 1 1099511627776).2,?_,?_⟩
 · unfold lI
   simp only [k1,bnoS,bndD,decide_true,Ap,gdtt,want23 h.g (limit:=1099511627776) (by decide),Bn]
 · unfold mN rX
   simp only [k2,bnoS,bndD,decide_true,Ap,gdtt,p5,p6,Bn]
theorem c_send (h:CX st m) {f:Fr} (h0:0≤f.aq) (h1:f.aq≤255) (hl:Lite f):∃ x,mE st f=some x∧mO st f=some x∧CX x.1 m:=by
 obtain ⟨k1,k2⟩:=cck h
 have hlen:(putF f).1.length≤100000:=by
  have:=aDG hl
  have:=vP ((pay f).length:Int)
  unfold putF
  split
  · simp only [Ae,Ao,Bj]; omega
  · simp
 unfold mE mO
 simp only [k1,k2,bnoS,bndD,decide_true,Ah,aQ,aCm,aGH]
 cases hk:carB f.aq
 · exact ⟨(st,12),rfl,rfl,h⟩
 · simp only [Ah,aQ,put_F h0 h1 hl,rput_F h0 h1 hl,bnoS]
   by_cases hz:(putF f).2=0
   · simp only [hz,decide_true,Ah,aQ,aMl h.g,bnoS,write23 h.g (putF f).1 hlen,aKy h.g (putF f).1 hlen]
     have hw:=aD4 h.g (putF f).1
     by_cases hr:uN st.ae<((putF f).1.length:Int)
     · refine ⟨(st,7),?_,?_,h⟩
       · rw [Ac hr,aU]
       · rw [Ac (show (writeN st.ae (putF f).1:Int)<((putF f).1.length:Int) by omega),aU]
     · rw [Aa hr,aQ]
       by_cases hn:(writeN st.ae (putF f).1:Int)<((putF f).1.length:Int)
       · rw [Ac hn]; exact ⟨(st,7),rfl,rfl,h⟩
       · rw [Aa hn]; exact ⟨(⟨aA0 st.ae (putF f).1,st.af,st.In⟩,0),rfl,rfl,h.send (g_write h.g _) h.cl⟩
   · rw [Aa hz]
     exact ⟨(st,(putF f).2),rfl,rfl,h⟩
end
end Go.Fn
open Bool renaming and_false → Ca,and_self → Bs,and_true → Cw,false_or → BF
open List renaming all_cons → CR
open Go Go.IL
namespace Go.Fn
abbrev A29:=dB
theorem ct_eq (a b:Ct):decide (a=b)=((decide (a.In.bq=b.In.bq)&&(decide (a.In.bv=b.In.bv)&&(decide (a.In.bf=b.In.bf)&&true)))&&decide (a.ae=b.ae)&&(decide (a.af.af=b.af.af)&&decide (a.af.br=b.af.br))):=by
 obtain ⟨a1,⟨a2,a3⟩,⟨a4,a5,a6⟩⟩:=a
 obtain ⟨b1,⟨b2,b3⟩,⟨b4,b5,b6⟩⟩:=b
 rw [BZ]
 simp only [Af,BJ,aG.mk.injEq,aM.mk.injEq,aK.mk.injEq,and_true]
 constructor
 · rintro ⟨h1,⟨h2,h3⟩,h4,h5,h6⟩; exact ⟨⟨⟨h4,h5,h6⟩,h1⟩,h2,h3⟩
 · rintro ⟨⟨⟨h4,h5,h6⟩,h1⟩,h2,h3⟩; exact ⟨h1,⟨h2,h3⟩,h4,h5,h6⟩
section
variable {a:Ct} {m:Nat}
theorem aIe (h:CX a m) (b:Ct):iR a b=some (decide (a=b)):=by
 have hpl:=h.g.pl
 have hll:=h.g.ll
 have hrl:=h.rx.pl
 have h1:=rsame23 (a:=a.ae) (b:=b.ae) (by omega) (by omega)
 have h2:=rsame12 (a:=a.af.af) (b:=b.af.af) (by omega)
 have h3:oT a.af b.af=some (decide (a.af.af=b.af.af)&&decide (a.af.br=b.af.br)):=by
  unfold oT
  rw [h2,bnoS,bndD,bndD]
 rw [ct_eq]
 unfold iR
 rw [h1,bnoS]
 cases hs:decide (a.ae=b.ae)
 · simp only [ft,gdff,bnoS,bndD,AN,Ca]
 · simp only [Ap,gdtt,h3,bnoS,bndD,Bn,Cw]
   rw [Bool.and_comm]
theorem ssame29 (h:CX a m) (b:Ct):nQ a b=some (decide (a=b)):=by
 have hpl:=h.g.pl
 have hll:=h.g.ll
 have hrl:=h.rx.pl
 have h1:=ssame23 (a:=a.ae) (b:=b.ae) (by omega) (by omega)
 have h2:=ssame12 (a:=a.af.af) (b:=b.af.af) (by omega)
 have h3:zT a.af b.af=some (decide (a.af.af=b.af.af)&&decide (a.af.br=b.af.br)):=by
  unfold zT
  rw [bndD]
  by_cases c:a.af.br=b.af.br
  · rw [Ac c,Ap,gdtt,h2,bnoS,bndD,Bn,Cw]
  · rw [Aa c,ft,gdff,bnoS,bndD,AN,Ca]
 rw [ct_eq]
 unfold nQ
 rw [bndD]
 cases hi:(decide (a.In.bq=b.In.bq)&&(decide (a.In.bv=b.In.bv)&&(decide (a.In.bf=b.In.bf)&&true)))
 · simp only [ft,gdff,bnoS,bndD,AN]
 · rw [Ap,gdtt,h1,bnoS,bndD,Bn]
   cases hs:decide (a.ae=b.ae)
   · simp only [ft,gdff,bnoS,bndD,AN]
   · simp only [Ap,gdtt,h3,bnoS,bndD,Bn]
theorem back29 (h:CX a m):mU a=some a:=by
 have hpl:=h.g.pl
 have hll:=h.g.ll
 have hrl:=h.rx.pl
 have h1:sD a.ae.ay=some a.ae.ay:=aHU (by omega) a.ae.ay [] fuel rfl (bK (by omega))
 have h2:pE a.ae=some a.ae:=by
  unfold pE
  rw [h1,bnoS]
  exact aHS (by omega) a.ae.ah [] fuel rfl (bK (by omega))
 have h3:pD a.af=some a.af:=by
  unfold pD sC
  rw [show fM a.af.af fuel 0 []=some a.af.af from aHT (by omega) a.af.af.ao [] fuel rfl (bK (by omega)),bnoS]
 unfold mU
 rw [h2,bnoS,h3,bnoS]
end
def pl29 (l:List A29) (f:Nat) (i:Int) (s t:Ct):Ad Bool :=
 bM l f i s.ae.ag s.ae.aj s.ae.ak s.ae.ah s.ae.ay s.ae.aw s.ae.az s.ae.ax s.ae.ba s.af.af.ag s.af.af.ap s.af.af.ao s.af.br s.In.bq s.In.bv s.In.bf t.ae.ag t.ae.aj t.ae.ak t.ae.ah t.ae.ay t.ae.aw t.ae.az t.ae.ax t.ae.ba t.af.af.ag t.af.af.ap t.af.af.ao t.af.br t.In.bq t.In.bv t.In.bf
def jp29 (l:List A29) (f:Nat) (i:Int) (s:Ct) (b:Bool) (x y:Ct):Ad Bool :=
 cJ i s.ae.ag s.ae.aj s.ae.ak s.ae.ah s.ae.ay s.ae.aw s.ae.az s.ae.ax s.ae.ba s.af.af.ag s.af.af.ap s.af.af.ao s.af.br s.In.bq s.In.bv s.In.bf s.ae.ag s.ae.aj s.ae.ak s.ae.ah s.ae.ay s.ae.aw s.ae.az s.ae.ax s.ae.ba s.af.af.ag s.af.af.ap s.af.af.ao s.af.br s.In.bq s.In.bv s.In.bf (bM l f) b x.ae.ag x.ae.aj x.ae.ak x.ae.ah x.ae.ay x.ae.aw x.ae.az x.ae.ax x.ae.ba x.af.af.ag x.af.af.ap x.af.af.ao x.af.br x.In.bq x.In.bv x.In.bf y.ae.ag y.ae.aj y.ae.ak y.ae.ah y.ae.ay y.ae.aw y.ae.az y.ae.ax y.ae.ba y.af.af.ag y.af.af.ap y.af.af.ao y.af.br y.In.bq y.In.bv y.In.bf
theorem jp_ok {l:List A29} {f:Nat} {i:Int} {s x:Ct} {m:Nat} (h:CX x m) (hi:0≤i∧i≤1000):jp29 l f i s true x x=pl29 l f (i+1) x x:=by
 obtain ⟨k1,k2⟩:=cck h
 obtain ⟨w,w1,w2⟩:=c_want h
 have hb:mU ⟨⟨x.ae.ag,x.ae.aj,x.ae.ak,x.ae.ah,x.ae.ay,x.ae.aw,x.ae.az,x.ae.ax,x.ae.ba⟩,⟨⟨x.af.af.ag,x.af.af.ap,x.af.af.ao⟩,x.af.br⟩,⟨x.In.bq,x.In.bv,x.In.bf⟩⟩=some x:=back29 h
 have s1:iR x ⟨⟨x.ae.ag,x.ae.aj,x.ae.ak,x.ae.ah,x.ae.ay,x.ae.aw,x.ae.az,x.ae.ax,x.ae.ba⟩,⟨⟨x.af.af.ag,x.af.af.ap,x.af.af.ao⟩,x.af.br⟩,⟨x.In.bq,x.In.bv,x.In.bf⟩⟩=some true:=(aIe h x).trans (by rw [Ac rfl])
 have k1:dE ⟨⟨x.ae.ag,x.ae.aj,x.ae.ak,x.ae.ah,x.ae.ay,x.ae.aw,x.ae.az,x.ae.ax,x.ae.ba⟩,⟨⟨x.af.af.ag,x.af.af.ap,x.af.af.ao⟩,x.af.br⟩,⟨x.In.bq,x.In.bv,x.In.bf⟩⟩=some 0:=k1
 have k2:dR ⟨⟨x.ae.ag,x.ae.aj,x.ae.ak,x.ae.ah,x.ae.ay,x.ae.aw,x.ae.az,x.ae.ax,x.ae.ba⟩,⟨⟨x.af.af.ag,x.af.af.ap,x.af.af.ao⟩,x.af.br⟩,⟨x.In.bq,x.In.bv,x.In.bf⟩⟩=some 0:=k2
 have w1:lI ⟨⟨x.ae.ag,x.ae.aj,x.ae.ak,x.ae.ah,x.ae.ay,x.ae.aw,x.ae.az,x.ae.ax,x.ae.ba⟩,⟨⟨x.af.af.ag,x.af.af.ap,x.af.af.ao⟩,x.af.br⟩,⟨x.In.bq,x.In.bv,x.In.bf⟩⟩=some w:=w1
 have w2:mN ⟨⟨x.ae.ag,x.ae.aj,x.ae.ak,x.ae.ah,x.ae.ay,x.ae.aw,x.ae.az,x.ae.ax,x.ae.ba⟩,⟨⟨x.af.af.ag,x.af.af.ap,x.af.af.ao⟩,x.af.br⟩,⟨x.In.bq,x.In.bv,x.In.bf⟩⟩=some w:=w2
 have s2:nQ ⟨⟨x.ae.ag,x.ae.aj,x.ae.ak,x.ae.ah,x.ae.ay,x.ae.aw,x.ae.az,x.ae.ax,x.ae.ba⟩,⟨⟨x.af.af.ag,x.af.af.ap,x.af.af.ao⟩,x.af.br⟩,⟨x.In.bq,x.In.bv,x.In.bf⟩⟩ ⟨⟨s.ae.ag,s.ae.aj,s.ae.ak,s.ae.ah,s.ae.ay,s.ae.aw,s.ae.az,s.ae.ax,s.ae.ba⟩,⟨⟨s.af.af.ag,s.af.af.ap,s.af.af.ao⟩,s.af.br⟩,⟨s.In.bq,s.In.bv,s.In.bf⟩⟩=some (decide (x=s)):=ssame29 h s
 have s3:iR ⟨⟨x.ae.ag,x.ae.aj,x.ae.ak,x.ae.ah,x.ae.ay,x.ae.aw,x.ae.az,x.ae.ax,x.ae.ba⟩,⟨⟨x.af.af.ag,x.af.af.ap,x.af.af.ao⟩,x.af.br⟩,⟨x.In.bq,x.In.bv,x.In.bf⟩⟩ ⟨⟨s.ae.ag,s.ae.aj,s.ae.ak,s.ae.ah,s.ae.ay,s.ae.aw,s.ae.az,s.ae.ax,s.ae.ba⟩,⟨⟨s.af.af.ag,s.af.af.ap,s.af.af.ao⟩,s.af.br⟩,⟨s.In.bq,s.In.bv,s.In.bf⟩⟩=some (decide (x=s)):=aIe h s
 unfold jp29 cJ
 simp only [Ah,Ap,gdtt,hb,bnoS,s1,bndD,Bc,k1,k2,decide_true,w1,w2,oK,qU,s2,s3,aQ,w64 (show -9223372036854775808≤i+1 by omega) (by omega)]
 rfl
theorem fr_ok {l:List Fr} (h:okF l):iP l=some l∧fK l l=some true :=
 ⟨aJv (by have:=h.1; omega),aHh (by have:=h.1; omega) (fun g hg=>by have:=h.2 g hg; omega)⟩
structure ok29 (a:A29):Prop where
 k0:0≤a.aq
 f0:0≤a.F.aq
 f1:a.F.aq≤255
 m:a.M≤9223372036854775807
def lt29 (a:A29):Bool:=decide (a.cj.length≤200)&&(decide ((a.F.au.length:Int)≤10)&&decide ((a.F.aj.length:Int)≤100))
theorem aMs {l:List A29} (hl:l.length≤40) (hok:∀ a∈l,ok29 a) (ht:∀ a∈l,lt29 a=true):∀ (r q:List A29) (f:Nat) (st:Ct),l=q++r→r.length<f→CX st (5000*q.length)→pl29 l f (q.length:Int) st st=some true
 | _,_,0,_,_,hf,_=>AP hf (by omega)
 | [],q,f+1,st,hs,_,_=>by
   unfold pl29
   rw [bM,bndD,jC hs,aQ,aFz,bnoS]
 | a :: r, q,f+1,st,hs,hf,h=>by
   have ha:=hok a (by rw [hs]; simp)
   have hta:=ht a (by rw [hs]; simp)
   have hql:q.length<40:=by rw [hs] at hl; simp at hl; omega
   have hrec:∀ x:Ct,CX x (5000*q.length+5000)→jp29 l f (q.length:Int) st true x x=some true:=fun x hx=>by
    rw [jp_ok hx (by omega)]
    have:=aMs hl hok ht r (q++[a]) f x (by rw [hs]; simp) (by simpa using hf) (by rw [Ae,AZ,Nat.mul_add]; exact hx)
    rw [Ae,AZ] at this
    exact this
   have htx:a.cj.length≤200:=by
    unfold lt29 at hta
    simp only [Af,BJ] at hta
    exact hta.1
   have hli:Lite a.F:=by
    unfold lt29 at hta
    rw [Af] at hta
    exact aHw hta.2
   have hmono:∀ {x:Ct},CX x (5000*q.length)→CX x (5000*q.length+5000):=fun hx=>hx.mono (by omega)
   have hr:remI a.aq 6=some (a.aq % 6):=aEJ ha.k0 (by decide)
   unfold pl29
   rw [bM,bndD,iS hs,aU,cX hs,bnoS,hr,bnoS,bndD]
   by_cases c2:a.aq % 6=2
   · obtain ⟨x,d1,d2,d3,d4,d5,d6⟩:=c_data h (by omega) (a:=a.N) (str:=a.cj) (by omega)
     have d1:fZ ⟨⟨st.ae.ag,st.ae.aj,st.ae.ak,st.ae.ah,st.ae.ay,st.ae.aw,st.ae.az,st.ae.ax,st.ae.ba⟩,⟨⟨st.af.af.ag,st.af.af.ap,st.af.af.ao⟩,st.af.br⟩,⟨st.In.bq,st.In.bv,st.In.bf⟩⟩ a.N a.cj=some x:=d1
     have d2:kL ⟨⟨st.ae.ag,st.ae.aj,st.ae.ak,st.ae.ah,st.ae.ay,st.ae.aw,st.ae.az,st.ae.ax,st.ae.ba⟩,⟨⟨st.af.af.ag,st.af.af.ap,st.af.af.ao⟩,st.af.br⟩,⟨st.In.bq,st.In.bv,st.In.bf⟩⟩ a.N a.cj=some x:=d2
     obtain ⟨f1,f2⟩:=fr_ok d4
     rw [Ac c2,aU,d1,bnoS,d2,bnoS,f1,bnoS,f2,bnoS,w64 (by omega) (by omega),bndD,bndD,Ac rfl,Bs,bndD]
     exact hrec x.1 d3
   · rw [Aa c2,aQ,bndD]
     by_cases c3:a.aq % 6=3
     · obtain ⟨x,d1,d2,d3⟩:=c_came h a.N
       have d1:jF ⟨⟨st.ae.ag,st.ae.aj,st.ae.ak,st.ae.ah,st.ae.ay,st.ae.aw,st.ae.az,st.ae.ax,st.ae.ba⟩,⟨⟨st.af.af.ag,st.af.af.ap,st.af.af.ao⟩,st.af.br⟩,⟨st.In.bq,st.In.bv,st.In.bf⟩⟩ a.N=some x:=d1
       have d2:kM ⟨⟨st.ae.ag,st.ae.aj,st.ae.ak,st.ae.ah,st.ae.ay,st.ae.aw,st.ae.az,st.ae.ax,st.ae.ba⟩,⟨⟨st.af.af.ag,st.af.af.ap,st.af.af.ao⟩,st.af.br⟩,⟨st.In.bq,st.In.bv,st.In.bf⟩⟩ a.N=some x:=d2
       rw [Ac c3,aU,d1,bnoS,d2,bnoS]
       exact hrec x (hmono d3)
     · rw [Aa c3,aQ,bndD]
       by_cases c4:a.aq % 6=4
       · obtain ⟨x,d1,d2,d3⟩:=c_pick h (p:=a.N) ha.m
         have d1:lJ ⟨⟨st.ae.ag,st.ae.aj,st.ae.ak,st.ae.ah,st.ae.ay,st.ae.aw,st.ae.az,st.ae.ax,st.ae.ba⟩,⟨⟨st.af.af.ag,st.af.af.ap,st.af.af.ao⟩,st.af.br⟩,⟨st.In.bq,st.In.bv,st.In.bf⟩⟩ a.N a.M=some x:=d1
         have d2:mP ⟨⟨st.ae.ag,st.ae.aj,st.ae.ak,st.ae.ah,st.ae.ay,st.ae.aw,st.ae.az,st.ae.ax,st.ae.ba⟩,⟨⟨st.af.af.ag,st.af.af.ap,st.af.af.ao⟩,st.af.br⟩,⟨st.In.bq,st.In.bv,st.In.bf⟩⟩ a.N a.M=some x:=d2
         rw [Ac c4,aU,d1,bnoS,d2,bnoS]
         simp only [bndD,decide_true,Ap,Bs]
         exact hrec x.1 (hmono d3)
       · rw [Aa c4,aQ,bndD]
         by_cases c5:a.aq % 6=5
         · obtain ⟨x,d1,d2,d3⟩:=c_dead h a.N
           have d1:mF ⟨⟨st.ae.ag,st.ae.aj,st.ae.ak,st.ae.ah,st.ae.ay,st.ae.aw,st.ae.az,st.ae.ax,st.ae.ba⟩,⟨⟨st.af.af.ag,st.af.af.ap,st.af.af.ao⟩,st.af.br⟩,⟨st.In.bq,st.In.bv,st.In.bf⟩⟩ a.N=some x:=d1
           have d2:mQ ⟨⟨st.ae.ag,st.ae.aj,st.ae.ak,st.ae.ah,st.ae.ay,st.ae.aw,st.ae.az,st.ae.ax,st.ae.ba⟩,⟨⟨st.af.af.ag,st.af.af.ap,st.af.af.ao⟩,st.af.br⟩,⟨st.In.bq,st.In.bv,st.In.bf⟩⟩ a.N=some x:=d2
           rw [Ac c5,aU,d1,bnoS,d2,bnoS]
           exact hrec x (hmono d3)
         · obtain ⟨x,d1,d2,d3⟩:=c_send h ha.f0 ha.f1 hli
           have d1:mE ⟨⟨st.ae.ag,st.ae.aj,st.ae.ak,st.ae.ah,st.ae.ay,st.ae.aw,st.ae.az,st.ae.ax,st.ae.ba⟩,⟨⟨st.af.af.ag,st.af.af.ap,st.af.af.ao⟩,st.af.br⟩,⟨st.In.bq,st.In.bv,st.In.bf⟩⟩ a.F=some x:=d1
           have d2:mO ⟨⟨st.ae.ag,st.ae.aj,st.ae.ak,st.ae.ah,st.ae.ay,st.ae.aw,st.ae.az,st.ae.ax,st.ae.ba⟩,⟨⟨st.af.af.ag,st.af.af.ap,st.af.af.ao⟩,st.af.br⟩,⟨st.In.bq,st.In.bv,st.In.bf⟩⟩ a.F=some x:=d2
           rw [Aa c5,aQ,d1,bnoS,d2,bnoS,bndD,Ac rfl]
           exact hrec x.1 (hmono d3)
theorem aJ1 {l:List A29} (hl:l.length≤40):∀ (r q:List A29) (f:Nat),l=q++r→r.length<f→gC l f (q.length:Int)=some (r.all lt29)
 | _,_,0,_,hf=>AP hf (by omega)
 | [],q,f+1,hs,_=>by
   rw [gC,bndD,jC hs,aQ]
   rfl
 | a :: r,q,f+1,hs,hf=>by
   have hrec:=aJ1 hl r (q++[a]) f (by rw [hs]; simp) (by simpa using hf)
   rw [gC,bndD,iS hs,aU,cX hs,bnoS,bndD,CR]
   unfold lt29
   by_cases c:200<a.cj.length
   · rw [Ac (show (200:Int)<(a.cj.length:Int) by omega),Aa (show ¬a.cj.length≤200 by omega)]
     simp only [show (true == false)=false from rfl,gdff,bnoS,bndD,BO,aU,AN]
   · rw [Aa (show ¬(200:Int)<(a.cj.length:Int) by omega),Ac (show a.cj.length≤200 by omega)]
     simp only [Ap,gdtt,bnoS,aLG,bndD,BF,Bn]
     cases hg:(decide ((a.F.au.length:Int)≤10)&&decide ((a.F.aj.length:Int)≤100))
     · simp only [Ba,aU,AN]
     · simp only [Ah,aQ,w_at hs (show l.length≤1000000 by omega),hrec,Bn]
       rfl
theorem rnew29:tG=some ct0:=rfl
theorem cx0:CX ct0 0:=⟨g_new,rfl,⟨by decide,by decide,by decide,by decide,trivial,fun _ h=>(by cases h)⟩,rfl,rfl,⟨rfl,rfl,by decide,by decide⟩⟩
theorem aE9 {l:List A29} (hok:∀ a∈l,ok29 a):fR l=some true:=by
 unfold fR tK
 by_cases c:40<l.length
 · rw [bndD,Ac (show (40:Int)<(l.length:Int) by omega),aU,bnoS,Ba,aU,aFz,bnoS]
 · have hf:=aJ1 (l:=l) (by omega) l [] fuel rfl (bK (by omega))
   have hf:gC l fuel 0=_:=hf
   rw [bndD,Aa (show ¬(40:Int)<(l.length:Int) by omega),aQ,hf,bnoS]
   cases ha:l.all lt29
   · rw [Ba,aU,aFz,bnoS]
   · rw [Ah,aQ,new29,bnoS,rnew29,bnoS]
     exact aMs (by omega) hok (fun a h=>AV.1 ha a h) l [] fuel ct0 rfl (bK (by omega)) cx0
end Go.Fn
open Go renaming Program → An,TypeId → Ak,Value → AI
open Go.IL.D renaming flat → Al
open List renaming drop_drop → DN,drop_of_length_le → Cc,drop_zero → EV,getElem?_append_left → AX,getElem?_append_right → Bg,getElem?_eq_some_iff → AH,getElem?_of_mem → GK,map_append → BR,mem_of_mem_drop → GI
open Nat renaming add_assoc → FS,zero_mul → CW
open Option renaming bind_eq_some_iff → Ge
open _root_ renaming beq_iff_eq → FL
open Go.RowKit Go.WideShapes Go.ChangeShapes
namespace Go.IL

def aBU (v:AI):Prop:=∀ a n c,v = .slice (some a) n c→a.spot=none
theorem aED {P:An} {w:World} {r:Reach} {b:Nat} {t:Ak} {v:AI} (h:Cell.okWide P w r b t v):aBU v:=by
 intro a n c e
 subst e
 have h2:Cell.ok P w r b t (.slice (some a) n c):=by
  unfold Cell.okWide at h
  split at h <;> first | exact h | (rename_i h3 _; cases h3) | (rename_i h3; cases h3) | skip
  all_goals first | exact h | simp_all
 unfold Cell.ok at h2
 split at h2 <;> simp_all [World.has]
theorem aKs {P:An} {w:World} {r:Reach} {b:Nat} {t:Ak} {v:AI} (h:Value.okWide P w r b t v):∀ u∈v.cells.toList,aBU u:=by
 have agg:∀ cs:Array AI,Row.okWide P w r b t cs→∀ u∈cs.toList,aBU u:=by
  intro cs ⟨ts,_,_,h3⟩ u hu
  obtain ⟨i,hi⟩:=GK hu
  obtain ⟨q,_,hq⟩:=h3 i u (by simpa using hi)
  exact aED hq
 unfold Value.okWide at h
 split at h
 · obtain ⟨cs,rfl,_,h⟩:=h; simpa [Value.cells] using agg cs h
 · obtain ⟨cs,rfl,_,h⟩:=h; simpa [Value.cells] using agg cs h
 · have h2:=aED h
   intro u hu
   cases v with
   | agg cs =>
     exfalso
     unfold Cell.okWide at h
     split at h <;> simp_all [Cell.ok]
   | _=>simp [Value.cells] at hu; subst hu; exact h2

def Env.none (w:World):Env:=⟨w,fun _ _=>False⟩
def OpD (P:An) (sp:Bool) (t:Ak) (Q:List D→Prop):Prop :=
 ∀ {H:Type} {enc:Ak×AI→H} {w:World} {base:Nat} {spare:Nat→Bool} {held:Bool} {fuel:Nat} {cs:List AI} {x:DataW H×List MemPlace},
   DataW.trod enc P w base spare held fuel t cs=some x→(sp=true→∀ v∈cs,aBU v)→∃ ds,RdL (Env.none w) β0 cs ds∧Q ds
def qInt (k:IntKind) (ds:List D):Prop:=∃ n:Int,ds=[.int k n]∧(k.min≤n∧n≤k.max)
def qBool (ds:List D):Prop:=∃ b:Bool,ds=[.bool b]
def qStr (ds:List D):Prop:=∃ l:List Ai,ds=[.str l]∧l.length≤9223372036854775807
def qSlice {α:Type} (f:Enc α) (wf:α→Prop) (ds:List D):Prop:=∃ l:List α,ds=[.slice false (l.map f.d)]∧l.length≤9223372036854775807∧∀ x∈l,wf x
def qList:List (List D→Prop)→List D→Prop
 | [],ds=>ds=[]
 | Q::Qs,ds=>∃ a b,ds=a++b∧Q a∧qList Qs b

section
variable {P:An} {sp:Bool} {t:Ak}
theorem sG {k:IntKind} (hu:P.underlying t=some (.int k)):OpD P sp t (qInt k):=by
 intro H enc w base spare held fuel cs x h _
 obtain ⟨n,rfl,rfl,hw⟩:=DataW.trod_int hu h
 exact ⟨[.int k n],.cons (.int _ _ _) (.nil _),n,rfl,by simpa [Lit.wf] using hw⟩
theorem aLA (hu:P.underlying t=some .bool):OpD P sp t qBool:=by
 intro H enc w base spare held fuel cs x h _
 obtain ⟨b,rfl,rfl⟩:=DataW.trod_bool hu h
 exact ⟨[.bool b],.cons (.bool _ _) (.nil _),b,rfl⟩
theorem aJB (hu:P.underlying t=some .string):OpD P sp t qStr:=by
 intro H enc w base spare held fuel cs x h _
 obtain ⟨s,rfl,rfl,hs⟩:=DataW.trod_string hu h
 refine ⟨[.str s.data.toList],.cons ?_ (.nil _),s.data.toList,rfl,?_⟩
 · have:=Rd.str (E:=Env.none w) β0 s.data.toList; rwa [aKZ] at this
 · have:s.data.toList.length=s.size:=rfl
   rw [this]; unfold maxLen at hs; omega
theorem aEW {α:Type} {f:Enc α} {e:Ak} {wf:α→Prop} (hu:P.underlying t=some (.slice e)) (hc:P.cellsOf e=f.sz) (he:OpD P false e (fun ds=>∃ a,ds=(f.d a).cells∧wf a)):OpD P sp t (qSlice f wf):=by
 intro H enc w base spare held fuel cs x h hs
 rcases DataW.trod_slice hu h with ⟨rfl,_⟩ | ⟨a,len,cap,elems,rest,n,_,rfl,rfl,hb,hl,hm,hlen,hel,_,_⟩
 · exact ⟨[.slice false []],.cons (.nslice _ _) (.nil _),[],rfl,by simp,by simp⟩
 · by_cases hl0:len=0
   · subst hl0; exact ⟨[.slice false []],.cons (.eslice _ a cap false (fun h=>by cases h)) (.nil _),[],rfl,by simp,by simp⟩
   have hsp0:a.spot=none:=by
    have h1:=hel 0 (by omega)
    have h2:elems[0]? = some (elems[0]'(by omega)):=Am _
    rw [h2,Ge] at h1
    obtain ⟨vs,h3,_⟩:=h1
    have h7:=World.cells?_some h3
    have hp:=f.pos
    have h8:=h7.2.2 0 (by rw [hc]; exact hp)
    rw [CW] at h8
    have e0:((a.add 0).add 0)=a:=rfl
    rw [e0] at h8
    cases hsp:a.spot with
    | none=>rfl
    | some q =>
      exfalso
      unfold World.cell? at h8
      rw [hsp] at h8
      split at h8
      · simp at h8; have:=h7.1; simp_all
      · have:=h7.1; simp_all
   have ha:a=⟨a.block,a.off,none⟩:=by cases a; simp_all
   have each:∀ i,i<len→∃ (vs:List AI) (y:α),(∀ k v,vs[k]? = some v→w.cell? ⟨a.block,a.off+(i*f.sz+k),none⟩=some v)∧RdL (Env.none w) β0 vs (f.d y).cells∧wf y:=by
    intro i hi
    have h1:=hel i hi
    have h2:elems[i]? = some (elems[i]'(by omega)):=Am _
    rw [h2,Ge] at h1
    obtain ⟨vs,h3,h4⟩:=h1
    obtain ⟨ds,h5,y,rfl,h6⟩:=he h4 (by simp)
    refine ⟨vs,y,fun k v hk=>?_,h5,h6⟩
    have h7:=World.cells?_some h3
    have hk':=(AH.1 hk).1
    have h8:=h7.2.2 k (by omega)
    rw [hk,ha,hc] at h8
    rw [←h8]
    congr 1
    by_cases h9:i*f.sz=0
    · by_cases h10:k=0
      · simp [Addr.add,h9,h10]
      · simp [Addr.add,h9,h10]
    · by_cases h10:k=0
      · simp [Addr.add,h9,h10]
      · simp [Addr.add,h9,h10,FS]
   have all:∀ m,m≤len→∃ (vs:List AI) (l:List α),l.length=m∧(∀ k v,vs[k]? = some v→w.cell? ⟨a.block,a.off+k,none⟩=some v)∧RdL (Env.none w) β0 vs (Al (l.map f.d))∧∀ y∈l,wf y:=by
    intro m
    induction m with
    | zero=>intro _; exact ⟨[],[],rfl,by simp,.nil _,by simp⟩
    | succ m ih =>
      intro hm'
      obtain ⟨vs,l,h1,h2,h3,h4⟩:=ih (by omega)
      obtain ⟨us,y,h5,h6,h7⟩:=each m (by omega)
      have hvl:vs.length=m*f.sz:=by rw [h3.length,f.flat_len,h1]
      refine ⟨vs++us,l++[y],by simp [h1],fun k v hk=>?_,?_,?_⟩
      · by_cases hk':k<vs.length
        · exact h2 k v (by rwa [AX hk'] at hk)
        · rw [Bg (by omega)] at hk
          have:=h5 _ _ hk
          rwa [hvl,show m*f.sz+(k-m*f.sz)=k by omega] at this
      · rw [BR]
        have e2:Al (l.map f.d++[y].map f.d)=Al (l.map f.d)++(f.d y).cells:=by simp [Al]
        rw [e2]; exact h3.append h6
      · intro z hz
        rcases As.1 hz with h | h
        · exact h4 z h
        · simp at h; subst h; exact h7
   obtain ⟨vs,l,h1,h2,h3,h4⟩:=all len (AJ _)
   refine ⟨[.slice false (l.map f.d)],.cons ?_ (.nil _),l,rfl,by unfold maxLen at hm; omega,h4⟩
   rw [ha]
   exact .slice _ _ _ len cap f.sz false vs _ (by rw [Bf,h1]) hl (by simp) (f.len l) f.pos (fun k v hk=>⟨h2 k v hk,fun h=>h⟩) h3

def aBS (P:An):Nat→List Field→Bool
 | _,[]=>true
 | k,f::fs=>f.offset == k&&aBS P (k+P.cellsOf f.type) fs
inductive OpFs (P:An) (sp:Bool):List Field→List (List D→Prop)→Prop
 | nil:OpFs P sp [] []
 | cons {f fs Q Qs} (h:OpD P sp f.type Q) (t:OpFs P sp fs Qs):OpFs P sp (f::fs) (Q::Qs)
theorem aAn {fs:Array Field} {Qs:List (List D→Prop)} (hu:P.underlying t=some (.struct fs)) (hf:aBS P 0 fs.toList=true) (hn:P.cellsOf t=(fs.toList.map fun f=>P.cellsOf f.type).sum) (h:OpFs P sp fs.toList Qs):OpD P sp t (qList Qs):=by
 intro H enc w base spare held fuel cs x hx hs
 obtain ⟨xs,n,_,_,hlen,hxl,hfld⟩:=DataW.trod_struct hu hx
 have key:∀ (l:List Field) (Qs:List (List D→Prop)) (k:Nat),OpFs P sp l Qs→aBS P k l=true→k+(l.map fun f=>P.cellsOf f.type).sum=cs.length →
  (∀ f∈l,∃ y,DataW.trod enc P w base spare held n f.type ((cs.drop f.offset).take (P.cellsOf f.type))=some y)→∃ ds,RdL (Env.none w) β0 (cs.drop k) ds∧qList Qs ds:=by
  intro l Qs k ho
  induction ho generalizing k with
  | nil =>
    intro _ h1 _
    refine ⟨[],?_,rfl⟩
    rw [Cc (by simp at h1; omega)]; exact .nil _
  | @cons f fs Q Qs h t ih =>
    intro h1 h2 h3
    simp only [aBS,Af,FL] at h1
    simp only [AB,List.sum_cons] at h2
    obtain ⟨y,hy⟩:=h3 f (by simp)
    rw [h1.1] at hy
    obtain ⟨ds,h4,h5⟩:=h hy (fun hsp v hv=>hs hsp v (GI (CK hv)))
    obtain ⟨es,h6,h7⟩:=ih (k+P.cellsOf f.type) h1.2 (by omega) (fun g hg=>h3 g (by simp [hg]))
    refine ⟨ds++es,?_,ds,es,rfl,h5,h7⟩
    have:=h4.append h6
    rwa [←DN,AO] at this
 have:=key fs.toList Qs 0 h hf (by rw [Bl,←hn,hlen]) (fun f hf=>by
  obtain ⟨i,hi⟩:=GK hf
  have h1:=hfld i f (by simpa using hi)
  have h2:i<xs.length:=by rw [hxl]; have:=(AH.1 hi).1; simpa using this
  exact ⟨xs[i],by rw [h1,Am h2]⟩)
 rwa [EV] at this
theorem OpD.to {Q R:List D→Prop} (h:OpD P sp t Q) (k:∀ ds,Q ds→R ds):OpD P sp t R:=by
 intro H enc w base spare held fuel cs x hx hs
 obtain ⟨ds,h1,h2⟩:=h hx hs
 exact ⟨ds,h1,k ds h2⟩
theorem opd_val {Q:List D→Prop} (h:OpD P true t Q) {H:Type} {enc:Ak×AI→H} {w:World} {base b0:Nat} {spare:Nat→Bool} {held:Bool} {v:AI} {d:DataW H} {ps:List MemPlace} {r:Reach}
 (hv:Value.okWide P w r b0 t v) (hd:DataW.Trod enc P w base spare held t v d ps):∃ ds,RdL (Env.none w) β0 v.cells.toList ds∧Q ds:=by
 obtain ⟨fuel,hf⟩:=hd
 exact h hf (fun _=>aKs hv)
theorem aIs {E:Env} {v:AI} {d:D} (h:RdL E β0 v.cells.toList [d]) (hn:∀ cs,v ≠ .agg cs):Rd E β0 v d:=by
 cases v with
 | agg cs=>exact AP rfl (hn cs)
 | _=>simp [Value.cells] at h; cases h with | cons h _=>exact h
section
variable {H:Type} {enc:Ak×AI→H}
theorem zL (hl:laidOutB P=true) {W W':World} (hb:Below W.heap.size W W') {sp:Nat→Bool}:∀ {ts:List Ak} {vs:List AI} {ds:List (DataW H)} {ps:List MemPlace},
 (∀ t∈ts,P.readableRec t=true∧t<P.types.size)→DataW.TrodAll enc P W 0 (fun _=>true) true ts vs ds ps→(∀ x∈ps,x.block<W.heap.size)→(∀ x∈ps,sp x.block=true) →
 DataW.TrodAll enc P W' 0 sp true ts vs ds ps
 | [],vs,ds,ps,_,h,_,_=>by
   obtain ⟨rfl,rfl,rfl⟩:=trodAll_nil h; exact rfl
 | t::ts,vs,ds,ps,hr,h,hlt,hsp=>by
   obtain ⟨v,vs',d,ds',p,q,rfl,rfl,rfl,h1,h2⟩:=trodAll_cons h
   refine ⟨p,q,?_,zL hl hb (fun t ht=>hr t (by simp [ht])) h2 (fun x hx=>hlt x (by simp [hx])) (fun x hx=>hsp x (by simp [hx])),rfl⟩
   have hx:∀ x∈p,x∈p++q:=fun x hx=>by simp [hx]
   exact WideElems.Trod_stays hl (hr t (by simp)).1 (hr t (by simp)).2 h1 (fun x hxp=>hb.same (hlt x (hx x hxp))) (fun x hxp=>hsp x (hx x hxp))
theorem aDE {f:Func} {s:ChangeSpec} {apart fresh handsOn again:Bool} {W W':World} {args:Array AI} {v:AI} {ds gs:List (DataW H)} {before pa pv:List MemPlace}
 (hW:DataW.Whole enc P f.params.toList s.vars apart W args.toList ds gs before)
 (hres:∀ (b:Nat) (sp:Nat→Bool) (hd:Bool),DataW.TrodAll enc P W' b sp hd f.resultTypes.toList (v.resultList f.resultTypes.size) (s.fn H (ds++gs)).results [])
 (hargs:∀ sp:Nat→Bool,(∀ p∈before,sp p.block=true)→DataW.TrodAll enc P W' 0 sp true f.params.toList args.toList (s.fn H (ds++gs)).args pa)
 (hvars:∀ sp:Nat→Bool,(∀ p∈before,sp p.block=true)→DataW.TrodVars enc P W' sp s.vars (s.fn H (ds++gs)).vars pv)
 (hps:before=pa++pv) (hb:Below W.heap.size W W')
 (hok:∀ (j:Nat) (t:Ak) (r:AI),f.resultTypes[j]? = some t→(v.resultList f.resultTypes.size)[j]? = some r→Value.okWide P W' .any 0 t r) :
 s.post enc P f apart fresh handsOn again W args v W':=by
 have hlt:∀ p∈before,p.block<W.heap.size:=fun p hp=>hW.lt p hp
 have hold:∀ p∈before,(fun b=>decide (b<W.heap.size)) p.block=true:=fun p hp=>by simpa using hlt p hp
 refine ⟨ds,gs,before,[],pa,pv,hW,hres _ _ _,hargs _ hold,hvars _ hold,World.keptBut_mono (fun p hp=>⟨hp,?_⟩) (hb.frame (· ∈ before)),fun _=>?_⟩
 · rw [hps,As] at hp
   exact Or.inr hp
 · obtain ⟨_,_,_,_,_,hz,hn⟩:=hW
   refine ⟨hok,_,_,([]++pa)++pv,⟨[]++pa,pv,trodAll_append (hargs _ (fun _ _=>rfl)) (hres _ _ _),hvars _ (fun _ _=>rfl),rfl,?_,?_⟩,?_⟩
   · intro b off hp
     have hin:MemPlace.cell b off∈before:=by rw [hps]; simpa using hp
     rw [hb.frozen (hlt _ hin)]
     exact hz b off hin
   · intro ha
     have:=hn ha
     rw [hps] at this
     simpa using this
   · intro p hp _
     rw [hps]
     simpa using hp
theorem aLJ {f:Func} {s:ChangeSpec} {apart fresh handsOn again:Bool} {W W':World} {args:Array AI} {ds gs:List (DataW H)} {before:List MemPlace} {tb:Ak}
 (hl:laidOutB P=true) (hr:∀ t∈f.params.toList,P.readableRec t=true∧t<P.types.size) (hv:s.vars=[]) (hres:f.resultTypes = #[tb]) (hbool:P.underlying tb=some .bool)
 (hfn:s.fn H (ds++gs) = { results:=[.lit (.bool true)],args:=ds })
 (hW:DataW.Whole enc P f.params.toList s.vars apart W args.toList ds gs before) (hb:Below W.heap.size W W'):s.post enc P f apart fresh handsOn again W args (.bool true) W':=by
 have hW':=hW
 obtain ⟨p,q,hA,hV,hbef,hfz,hnd⟩:=hW
 rw [hv] at hV
 obtain ⟨rfl,rfl⟩:=trodVars_none hV
 have hlt:∀ x∈before,x.block<W.heap.size:=fun x hx=>hW'.lt x hx
 have hsub:∀ x∈p,x∈before:=fun x hx=>by rw [hbef]; simp [hx]
 refine aDE (pa:=p) (pv:=[]) hW' ?_ ?_ ?_ ?_ hb ?_
 · intro b sp hd
   rw [hfn,hres]
   exact trodAll_mk1 (shut_bool hbool true)
 · intro sp hsp
   rw [hfn]
   exact zL hl hb hr hA (fun x hx=>hlt x (hsub x hx)) (fun x hx=>hsp x (hsub x hx))
 · intro sp hsp
   rw [hfn,hv]; exact rfl
 · exact hbef
 · exact ok_one hres rfl (okWide_bool_mk hbool true)
end
end
end Go.IL
namespace Go.IL
theorem aHp {P:An} {w W:World} {r:Reach} {b:Nat} {t:Ak} {v:AI} {d:D} (hv:Value.okWide P W r b t v) (hg:gP P t=false) (h:RdL (Env.none w) β0 v.cells.toList [d]):Rd (Env.none w) β0 v d:=by
 refine aIs h fun cs e=>?_
 subst e
 unfold gP at hg
 unfold Value.okWide at hv
 split at hv
 · rename_i h1; rw [h1] at hg; cases hg
 · rename_i h1; rw [h1] at hg; cases hg
 · unfold Cell.okWide at hv
   split at hv <;> simp_all [Cell.ok]
end Go.IL
open Go.RowKit Go.WideShapes Go.ChangeShapes
namespace Go.IL
end Go.IL
