/-
  A part of the proof: rules and plain facts. No condition.
-/
import Derived.Test.YtpommoochmmmmaaGreatIlEx
import Derived.KernelRfl
import Derived.Test.YtpommoochmmmmaaGreatIlA29pD
set_option linter.all false
open Bool renaming eq_false_or_eq_true → FR,not_false → Ba,not_true → Ah
open Go.IntKind renaming wrap → Ab
open Int renaming toNat_natCast → Au
open List renaming any_eq_false → Dg,any_eq_true → Fe,append_assoc → Ax,append_nil → AQ,drop_left → EW,filter_append → EO,filter_cons_of_neg → DI,filter_cons_of_pos → EN,filter_eq_self → Hc,getElem?_append_right → Bg,getElem?_eq_getElem → Am,length_append → Ae,length_cons → Ao,length_nil → Bj,length_take → Aw,mem_append → As,mem_singleton → Av,not_mem_nil → AW,set_append_right → CG,take_append_drop → AO,take_length → AM
open Nat renaming le_refl → AJ,sub_self → Gx
open _root_ renaming Option → Ad,decide_eq_false → Aa,decide_eq_true → Ac,if_pos → Az
open Go Go.IL
namespace Go.Fn
theorem cX {α:Type} {l p r:List α} {x:α} (h:l=p++x::r):gix l (p.length:Int)=some x:=by
 subst h; rw [iT,Bg (AJ _)]; simp
theorem iS {α:Type} {l p r:List α} {x:α} (h:l=p++x::r):decide ((p.length:Int)<(l.length:Int))=true:=by
 subst h; simp; omega
theorem jC {α:Type} {l p:List α} (h:l=p++[]):decide ((p.length:Int)<(l.length:Int))=false:=by
 subst h; simp
theorem uE {α:Type} {l:List α}:decide ((l.length:Int)<(l.length:Int))=false:=by simp
theorem w_at {α:Type} {l p r:List α} {x:α} (h:l=p++x::r) (hl:l.length≤1000000):Ab .i64 ((p.length:Int)+1)=((p++[x]).length:Int):=by
 subst h; simp only [Ae,Ao,Bj] at hl ⊢; rw [w64 (by omega) (by omega)]; omega
theorem pK {α:Type} {l p r:List α} {x:α} (h:l=p++x::r):l=(p++[x])++r:=by rw [h]; simp
theorem tf:(true == false)=false:=rfl
theorem ft:(false == true)=false:=rfl
theorem aLf {α:Type} {l p r:List α} {x y:α} (h:l=(p++[x])++y::r) (hl:l.length≤1000000):gix l (Ab .i64 (((p++[x]).length:Int)-1))=some x:=by
 have hp:p.length≤1000000:=by rw [h] at hl; simp at hl; omega
 rw [show ((p++[x]).length:Int)-1=(p.length:Int) by simp,w64 (by omega) (by omega)]
 exact cX (r:=y::r) (by rw [h]; simp)
theorem aCi {α:Type} {l p r:List α} (h:l=p++r):cut l 0 (p.length:Int)=some p:=by
 subst h; unfold cut; rw [Az (by simp; omega)]; simp
theorem aAX {α:Type} {l p r:List α} (h:l=p++r):cut l (p.length:Int) (l.length:Int)=some r:=by
 subst h; unfold cut; rw [Az (by simp; omega),Au,Au,AM,EW]
theorem aBR {α:Type} {L:Nat→Int→Ad Int} {l:List α} {q:α→Bool}
 (h1:∀ p x r f,l=p++x::r→L (f+1) (p.length:Int)=bif q x then some (p.length:Int) else L f ((p++[x]).length:Int)) (h0:∀ f,L (f+1) (l.length:Int)=some (-1)) :
 ∀ (r p:List α) (f:Nat),l=p++r→r.length<f→(∀ y∈p,q y=false) →
   (L f (p.length:Int)=some (-1)∧∀ y∈l,q y=false)∨∃ a x t,l=a++x::t∧(∀ y∈a,q y=false)∧q x=true∧L f (p.length:Int)=some (a.length:Int)
 | [],p,f+1,h,_,ha=>by
   left
   rw [AQ] at h
   subst h
   exact ⟨h0 f,ha⟩
 | y :: r,p,f+1,h,hf,ha=>by
   rw [h1 p y r f h]
   rcases FR (q y) with hb | hb
   · right; exact ⟨p,y,r,h,ha,hb,by rw [hb]; rfl⟩
   · rw [hb,aQ]
     exact aBR h1 h0 r (p++[y]) f (pK h) (by simpa using hf) (fun z hz=>by
      rcases As.1 hz with hz | hz
      · exact ha z hz
      · rw [Av.1 hz]; exact hb)
theorem aLa {α:Type} {L:Nat→Int→Ad Int} {l:List α} {q:α→Bool} (hl:l.length≤1000000)
 (h1:∀ p x r f,l=p++x::r→L (f+1) (p.length:Int)=bif q x then some (p.length:Int) else L f ((p++[x]).length:Int)) (h0:∀ f,L (f+1) (l.length:Int)=some (-1)) :
 ∃ k:Int,L fuel 0=some k∧decide (0≤k)=l.any q:=by
 rcases aBR h1 h0 l [] fuel rfl (bK (by omega)) (fun _ h=>(AW h).elim) with ⟨h2,h3⟩ | ⟨a,x,t,h2,h3,h4,h5⟩
 · refine ⟨-1,h2,?_⟩
   symm
   have:l.any q=false:=by rw [Dg]; intro y hy; rw [h3 y hy]; decide
   rw [this]; rfl
 · refine ⟨a.length,h5,?_⟩
   have:l.any q=true:=Fe.2 ⟨x,by rw [h2]; simp,h4⟩
   rw [this]; exact Ac (by omega)
theorem aDn {α:Type} {L:Nat→List α→Int→Int→Ad (List α)} {q:α→Bool}
 (h1:∀ (f:Nat) (l:List α) (i j:Nat) (x:α),l.length≤100000→i≤j→j<l.length→l[j]? = some x→L (f+1) l (i:Int) (j:Int)=bif !q x then L f (l.set i x) ((i+1:Nat):Int) ((j+1:Nat):Int) else L f l (i:Int) ((j+1:Nat):Int))
 (h0:∀ (f:Nat) (l:List α) (i:Nat),i≤l.length→L (f+1) l (i:Int) (l.length:Int)=some (l.take i)) :
 ∀ (r k m:List α) (f:Nat),k.length+m.length+r.length≤100000→r.length<f →
   L f (k++m++r) (k.length:Int) ((k.length+m.length:Nat):Int)=some (k++r.filter fun y=>!q y)
 | [],k,m,f+1,hl,_=>by
   have:=h0 f (k++m) k.length (by simp)
   rw [AQ,show ((k.length+m.length:Nat):Int)=((k++m).length:Int) by simp,this]; simp
 | y :: r,k,m,f+1,hl,hf=>by
   simp only [Ao] at hl hf
   have hy:(k++m++y::r)[k.length+m.length]? = some y:=by
    rw [Bg (by simp)]; simp
   have hlen:(k++m++y::r).length=k.length+m.length+(r.length+1):=by simp; omega
   rw [h1 f (k++m++y::r) k.length (k.length+m.length) y (by omega) (by omega) (by omega) hy]
   rcases FR (q y) with hb | hb
   · rw [hb,Ah,aQ,DI (by simp [hb])]
     have:=aDn h1 h0 r k (m++[y]) f (by simp; omega) (by omega)
     rw [show k++m++y::r=k++(m++[y])++r by simp,←this]; congr 1; simp; omega
   · rw [hb,Ba,aU,EN (by simp [hb])]
     obtain ⟨m2,h3,h2⟩:∃ m2:List α,m2.length=m.length∧(k++m++y::r).set k.length y=k++[y]++m2++r:=by
      rw [Ax k m,CG _ _ (AJ _),Gx]
      cases m with
      | nil=>exact ⟨[],rfl,by simp⟩
      | cons a m=>exact ⟨m++[y],by simp,by simp⟩
     rw [h2]
     have:=aDn h1 h0 r (k++[y]) m2 f (by simp; omega) (by omega)
     rw [show k++y::List.filter (fun y=>!q y) r=k++[y]++List.filter (fun y=>!q y) r by simp,←this]
     congr 1 <;> simp <;> omega
theorem aLn {α:Type} {I:Nat→Int→Ad Int} {L:Nat→List α→Int→Int→Ad (List α)} {l:List α} {q:α→Bool} (hl:l.length≤100000)
 (i1:∀ p x r f,l=p++x::r→I (f+1) (p.length:Int)=bif q x then some (p.length:Int) else I f ((p++[x]).length:Int)) (i0:∀ f,I (f+1) (l.length:Int)=some (-1))
 (h1:∀ (f:Nat) (l:List α) (i j:Nat) (x:α),l.length≤100000→i≤j→j<l.length→l[j]? = some x→L (f+1) l (i:Int) (j:Int)=bif !q x then L f (l.set i x) ((i+1:Nat):Int) ((j+1:Nat):Int) else L f l (i:Int) ((j+1:Nat):Int))
 (h0:∀ (f:Nat) (l:List α) (i:Nat),i≤l.length→L (f+1) l (i:Int) (l.length:Int)=some (l.take i)) :
 (bno (I fuel 0) fun x1=>bnd (decide (x1=(-1))) fun x2=>bif x2 then some l else bnd (Ab .i64 (x1+1)) fun x4=>L fuel l x1 x4)=some (l.filter fun y=>!q y):=by
 rcases aBR i1 i0 l [] fuel rfl (bK (by omega)) (fun _ h=>(AW h).elim) with ⟨e1,e2⟩ | ⟨a,x,t,e1,e2,e3,e4⟩
 · have e1:I fuel 0=some (-1):=e1
   rw [e1,bnoS]
   simp only [bndD,decide_true,aU]
   rw [Hc.2 (fun y hy=>by rw [e2 y hy]; rfl)]
 · have e4:I fuel 0=some (a.length:Int):=e4
   have hql:a.length+(t.length+1)≤100000:=by rw [e1] at hl; simpa using hl
   rw [e4,bnoS]
   simp only [bndD,Aa (show ¬(a.length:Int) = -1 by omega),aQ]
   rw [w64 (by omega) (by omega)]
   have:=aDn h1 h0 t a [x] fuel (by simp; omega) (bK (by omega))
   rw [e1,EO,DI (by simp [e3]),Hc.2 (fun y hy=>by rw [e2 y hy]; rfl),←this]
   congr 1; simp
theorem aE0 {α:Type} [DecidableEq α] {L:Nat→Int→Ad Bool} {l m:List α} (hm:l.length=m.length)
 (h1:∀ p x r s y t f,l=p++x::r→m=s++y::t→p.length=s.length→L (f+1) (p.length:Int)=bif !decide (x=y) then some false else L f ((p++[x]).length:Int)) {z:Bool} (h0:∀ f,L (f+1) (l.length:Int)=some z) :
 ∀ (r t p s:List α) (f:Nat),l=p++r→m=s++t→p.length=s.length→r.length<f→L f (p.length:Int)=some (decide (r=t)&&z)
 | [],[],p,s,f+1,h,k,e,_=>by
   rw [AQ] at h
   subst h
   rw [h0]; simp
 | [],y::t,p,s,f+1,h,k,e,_=>by rw [h,k] at hm; simp at hm; omega
 | x::r,[],p,s,f+1,h,k,e,_=>by rw [h,k] at hm; simp at hm; omega
 | x :: r,y::t,p,s,f+1,h,k,e,hf=>by
   rw [h1 p x r s y t f h k e]
   by_cases hx:x=y
   · subst hx
     rw [Ac rfl,Ah,aQ]
     have:=aE0 hm h1 h0 r t (p++[x]) (s++[x]) f (pK h) (pK k) (by simp [e]) (by simpa using hf)
     rw [this]; simp
   · rw [Aa hx,Ba,aU]; simp [hx]
theorem vH {α:Type} [DecidableEq α] {L:Nat→Int→Ad Bool} {l m:List α} (hl:l.length≤1000000)
 (h1:∀ p x r s y t f,l=p++x::r→m=s++y::t→p.length=s.length→L (f+1) (p.length:Int)=bif !decide (x=y) then some false else L f ((p++[x]).length:Int)) {z:Bool} (h0:l.length=m.length→∀ f,L (f+1) (l.length:Int)=some z) :
 (bnd (!decide ((l.length:Int)=(m.length:Int))) fun x1=>bif x1 then some false else L fuel 0)=some (decide (l=m)&&z):=by
 by_cases hm:l.length=m.length
 · simp only [bndD,Ac (show (l.length:Int)=(m.length:Int) by omega),Ah,aQ]
   exact aE0 hm h1 (h0 hm) l m [] [] fuel rfl rfl rfl (bK (by omega))
 · simp only [bndD,Aa (show ¬(l.length:Int)=(m.length:Int) by omega),Ba,aU]
   rw [Aa (fun h=>hm (by rw [h]))]; rfl
theorem wM {α:Type} {P:α→Ad Bool} {q:α→Bool} (hP:∀ x,P x=some (q x)) {I:Nat→Int→Ad Int} {l:List α}
 (hI:∀ f v,I (f+1) v=bnd (decide (v<(l.length:Int))) fun x14=>bif x14 then (bno (gix l v) fun x16=>bno (P x16) fun x17=>bif x17 then some v else (bnd (Ab .i64 (v+1)) fun x19=>I f x19)) else some (-1))
 (hl:l.length≤1000000):(bno (I fuel 0) fun x1=>bnd (decide (0≤x1)) fun x2=>some x2)=some (l.any q):=by
 obtain ⟨k,h1,h2⟩:=aLa (L:=I) (q:=q) hl (fun p x r f h=>by
  rw [hI]; simp only [bndD,iS h,aU,cX h,bnoS,hP,w_at h hl]) (fun f=>by rw [hI]; simp only [bndD,uE,aQ])
 rw [h1,bnoS,bndD,h2]
theorem yO {α:Type} {P:α→Ad Bool} {q:α→Bool} (hP:∀ x,P x=some (q x)) {I:Nat→Int→Ad Int} {L:Nat→List α→Int→Int→Ad (List α)} {l:List α}
 (hI:∀ f v,I (f+1) v=bnd (decide (v<(l.length:Int))) fun x14=>bif x14 then (bno (gix l v) fun x16=>bno (P x16) fun x17=>bif x17 then some v else (bnd (Ab .i64 (v+1)) fun x19=>I f x19)) else some (-1))
 (hL:∀ f a b c,L (f+1) a b c=bnd (decide (c<(a.length:Int))) fun x32=>bif x32 then (bno (gix a c) fun x34=>bno (a[(c:Int).toNat]?) fun x35=>bno (P x35) fun x36=>bif (!x36) then (bno (gix a b) fun x38=>bno (a[(b:Int).toNat]?) fun x39 =>
   bnd (a.set ((b:Int).toNat) x35) fun x40=>bnd (Ab .i64 (b+1)) fun x41=>bnd (Ab .i64 (c+1)) fun x42=>L f x40 x41 x42) else (bnd (Ab .i64 (c+1)) fun x43=>L f a b x43)) else (bno (cut a 0 b) fun x44=>bno (cut x44 0 b) fun x45=>some x45))
 (hl:l.length≤100000):(bno (I fuel 0) fun x1=>bnd (decide (x1=(-1))) fun x2=>bif x2 then some l else bnd (Ab .i64 (x1+1)) fun x4=>L fuel l x1 x4)=some (l.filter fun y=>!q y):=by
 refine aLn hl (fun p x r f h=>by
  rw [hI]; simp only [bndD,iS h,aU,cX h,bnoS,hP,w_at h (show l.length≤1000000 by omega)]) (fun f=>by rw [hI]; simp only [bndD,uE,aQ]) (fun f a i j x ha hij hj hx=>?_) (fun f a i hi=>?_)
 · rw [hL]
   have hi:i<a.length:=by omega
   simp only [bndD,Ac (show (j:Int)<(a.length:Int) by omega),aU,iT,hx,bnoS,Au,hP,Am hi,w64 (show -9223372036854775808≤(j:Int)+1 by omega) (by omega),w64 (show -9223372036854775808≤(i:Int)+1 by omega) (by omega)]
   rfl
 · rw [hL]
   have e:(a.take i).length=i:=by rw [Aw]; omega
   simp only [bndD,uE,aQ]
   have h1:=aCi (l:=a) (AO i a).symm
   have h2:=aCi (l:=a.take i) (p:=a.take i) (r:=[]) (by simp)
   rw [e] at h1 h2
   rw [h1,bnoS,h2,bnoS]
theorem aGg {α:Type} {l:List α} {i:Nat} (h:i≤l.length):cut l 0 (i:Int)=some (l.take i):=by
 have h1:=aCi (l:=l) (AO i l).symm
 rwa [show (l.take i).length=i by rw [Aw]; omega] at h1
end Go.Fn
open Bool renaming and_false → Ca,and_true → Cw,false_or → BF,or_self → Bc,true_or → BO
open Int renaming le_refl → AU
open List renaming mem_flatMap → BQ,nil_append → AE,pairwise_append → Bm,pairwise_cons → BE
open _root_ renaming beq_self_eq_true → Ap,if_neg → Aq
open Go Go.IL
namespace Go.Fn
abbrev Iv:=aC
abbrev Pc:=aD
abbrev S23:=aF
def mem (n:Int) (s:List Iv):Prop:=∃ x∈s,x.aa≤n∧n<x.To
def mayB (x:Iv):Bool:=(decide (0≤x.aa)&&decide (x.aa≤4611686018427387903))&&(decide (0≤x.To)&&decide (x.To≤4611686018427387903))
theorem aGN (x:Iv):jE x=some (mayB x):=by
 unfold jE aAD mayB
 simp only [bndD,bnoS]
 cases decide (0≤x.aa)&&decide (x.aa≤4611686018427387903) <;> rfl
theorem zB (x:Iv):gE x=some (decide (x.To≤x.aa)):=rfl
structure VS (s:List Iv):Prop where
 pw:s.Pairwise (fun x y=>x.To<y.aa)
 ne:∀ x∈s,x.aa<x.To
 lo:∀ x∈s,0≤x.aa
 hi:∀ x∈s,x.To≤4398046511104
theorem VS.nil:VS []:=⟨.nil,fun _ h=>(AW h).elim,fun _ h=>(AW h).elim,fun _ h=>(AW h).elim⟩
theorem aF4:∀ {s:List Iv} {a b:Int},s.Pairwise (fun x y=>x.To<y.aa)→(∀ x∈s,x.aa<x.To)→(∀ x∈s,a≤x.aa∧x.To≤b)→a≤b→(s.length:Int)≤b-a
 | [],a,b,_,_,_,h=>by simp; omega
 | x::s,a,b,hp,hn,hb,hab=>by
   have hp:=BE.1 hp
   have h1:=hn x (by simp)
   have h2:=hb x (by simp)
   have:=aF4 (s:=s) (a:=x.To) (b:=b) hp.2 (fun y hy=>hn y (by simp [hy])) (fun y hy=>⟨by have:=hp.1 y hy; omega,(hb y (by simp [hy])).2⟩) h2.2
   simp only [Ao]; omega
theorem aGV {s:List Iv} (hl:s.length≤1000000) (hp:s.Pairwise (fun x y=>x.To<y.aa)):∀ (r p:List Iv) (x:Iv) (f:Nat),s=(p++[x])++r→r.length<f→lN s f ((p++[x]).length:Int)=some 0
 | [],p,x,f+1,h,_=>by
   unfold lN
   simp only [bndD,jC h,aQ]
 | y::r,p,x,f+1,h,hf=>by
   unfold lN
   have hxy:x.To<y.aa:=by
    rw [h] at hp
    exact (Bm.1 hp).2.2 x (by simp) y (by simp)
   simp only [bndD,iS h,aU,aLf h hl,cX h,bnoS,Aa (show ¬y.aa≤x.To by omega),aQ,w_at h hl]
   exact aGV hl hp r (p++[x]) y f (pK h) (by simpa using hf)
theorem aAQ {s:List Iv} (hl:s.length≤100000) (h:VS s):nO s=some 0:=by
 unfold nO
 have h1:dD s=some (s.any (fun x=>!mayB x)):=by
  have hc:∀ x:Iv,sS (⟨x.aa,x.To⟩:Iv)=some (!mayB x):=fun x=>by unfold sS; rw [aGN,bnoS]
  have hI:∀ f v,bL s (f+1) v=bnd (decide (v<(s.length:Int))) fun x14=>bif x14 then (bno (gix s v) fun x16=>bno (some (!mayB x16)) fun x17=>bif x17 then some v else (bnd (Ab .i64 (v+1)) fun x19=>bL s f x19)) else some (-1):=fun f v=>by
   rw [bL]
   simp only [hc]
  exact wM (P:=fun x:Iv=>some (!mayB x)) (fun _=>rfl) hI (by omega)
 have h2:dQ s=some (s.any (fun x=>decide (x.To≤x.aa))):=by
  have hI:∀ f v,bQ s (f+1) v=bnd (decide (v<(s.length:Int))) fun x14=>bif x14 then (bno (gix s v) fun x16=>bno (some (decide (x16.To≤x16.aa))) fun x17=>bif x17 then some v else (bnd (Ab .i64 (v+1)) fun x19=>bQ s f x19)) else some (-1):=fun f v=>by
   rw [bQ]
   simp only [zB]
  exact wM (P:=fun x:Iv=>some (decide (x.To≤x.aa))) (fun _=>rfl) hI (by omega)
 have e1:s.any (fun x=>!mayB x)=false:=by
  rw [Dg]; intro x hx
  have a1:=h.lo x hx
  have a2:=h.hi x hx
  have a3:=h.ne x hx
  unfold mayB; simp; omega
 have e2:s.any (fun x=>decide (x.To≤x.aa))=false:=by
  rw [Dg]; intro x hx
  have a3:=h.ne x hx
  simp; omega
 rw [h1,e1,bnoS,aQ,h2,e2,bnoS,aQ]
 cases hs:s with
 | nil =>
   have hf:fuel=18446744073709551615+1:=rfl
   rw [hf]; rfl
 | cons x r =>
   have h3:s=([]++[x])++r:=hs
   have:=aGV (by omega) h.pw r [] x fuel h3 (bK (by rw [hs] at hl; simp at hl; omega))
   have this:lN s fuel 1=_:=this
   rw [←hs]; exact this
theorem aM0 {l:List Iv} (hl:l.length≤100000):bW l=some l:=by
 unfold bW
 have h:(bno (app 16 ([]:(List Iv)) l) fun x3=>some x3)=some l:=by
  rw [dU (by simp; omega) (by simp; omega),bnoS,AE]
 rw [h,yB]
 rintro rfl; rfl
theorem iclone2 {l:List Iv} (hl:l.length≤100000):cO l=some l:=by
 unfold cO
 have h:(bno (app 16 ([]:(List Iv)) l) fun x3=>some x3)=some l:=by
  rw [dU (by simp; omega) (by simp; omega),bnoS,AE]
 rw [h,yB]
 rintro rfl; rfl
def parts (y x:Iv):List Iv:=(if y.aa<min y.To x.aa then [⟨y.aa,min y.To x.aa⟩] else [])++(if max y.aa x.To<y.To then [⟨max y.aa x.To,y.To⟩] else [])
def cutS (s:List Iv) (x:Iv):List Iv:=s.flatMap fun y=>parts y x
theorem aBp {y x z:Iv} (h:z∈parts y x):y.aa≤z.aa∧z.To≤y.To∧z.aa<z.To∧(z.To≤x.aa∨x.To≤z.aa):=by
 unfold parts at h
 rcases As.1 h with h | h
 · split at h
   · rw [Av.1 h]; refine ⟨AU _,?_,?_,.inl ?_⟩ <;> simp only [] <;> omega
   · exact (AW h).elim
 · split at h
   · rw [Av.1 h]; refine ⟨?_,AU _,?_,.inr ?_⟩ <;> simp only [] <;> omega
   · exact (AW h).elim
theorem aI7 {y x:Iv} {n:Int} (h1:y.aa≤n∧n<y.To) (h2:¬ (x.aa≤n∧n<x.To)) (hx:x.aa<x.To):∃ z∈parts y x,z.aa≤n∧n<z.To:=by
 unfold parts
 by_cases h:n<x.aa
 · refine ⟨⟨y.aa,min y.To x.aa⟩,?_,by simp only []; omega⟩
   rw [As]; left; rw [Az (by omega)]; simp
 · refine ⟨⟨max y.aa x.To,y.To⟩,?_,by simp only []; omega⟩
   rw [As]; right; rw [Az (by omega)]; simp
theorem aK9 (y x:Iv) (hx:x.aa<x.To):(parts y x).Pairwise (fun a b=>a.To<b.aa):=by
 unfold parts
 rw [Bm]
 refine ⟨by split <;> simp,by split <;> simp,fun a ha b hb=>?_⟩
 split at ha
 · split at hb
   · rw [Av.1 ha,Av.1 hb]; show min y.To x.aa<max y.aa x.To; omega
   · exact (AW hb).elim
 · exact (AW ha).elim
theorem aI8 (y x:Iv):(parts y x).length≤2:=by unfold parts; rw [Ae]; (repeat' split) <;> simp
theorem yA {s:List Iv} {x z:Iv} (h:z∈cutS s x):∃ y∈s,y.aa≤z.aa∧z.To≤y.To∧z.aa<z.To∧(z.To≤x.aa∨x.To≤z.aa):=by
 obtain ⟨y,hy,hz⟩:=BQ.1 h
 exact ⟨y,hy,aBp hz⟩
theorem aFu {s:List Iv} {x:Iv} (h:VS s) (hx:x.aa<x.To):VS (cutS s x):=by
 refine ⟨?_,fun z hz=>?_,fun z hz=>?_,fun z hz=>?_⟩
 · unfold cutS
   rw [List.pairwise_flatMap]
   refine ⟨fun y _=>aK9 y x hx,h.pw.imp fun {a b} hab z hz w hw=>?_⟩
   have h1:=aBp hz
   have h2:=aBp hw
   omega
 · obtain ⟨y,hy,h1,h2,h3,_⟩:=yA hz; exact h3
 · obtain ⟨y,hy,h1,h2,h3,_⟩:=yA hz; have:=h.lo y hy; omega
 · obtain ⟨y,hy,h1,h2,h3,_⟩:=yA hz; have:=h.hi y hy; omega
theorem aDo {s:List Iv} {x:Iv} (hx:x.aa<x.To) {n:Int}:mem n (cutS s x)↔mem n s∧¬ (x.aa≤n∧n<x.To):=by
 constructor
 · rintro ⟨z,hz,h1,h2⟩
   obtain ⟨y,hy,a1,a2,a3,a4⟩:=yA hz
   exact ⟨⟨y,hy,by omega,by omega⟩,by omega⟩
 · rintro ⟨⟨y,hy,h1⟩,h2⟩
   obtain ⟨z,hz,h3⟩:=aI7 h1 h2 hx
   exact ⟨z,BQ.2 ⟨y,hy,hz⟩,h3⟩
theorem aGh (x:Iv):∀ (s:List Iv),(cutS s x).length≤2*s.length
 | []=>AJ _
 | y::s=>by
   have h1:=aGh x s
   have h2:=aI8 y x
   show (parts y x++cutS s x).length≤_
   rw [Ae,Ao]; omega
theorem aKD {s:List Iv} {x:Iv} (h:∀ y∈s,y.aa<y.To∧(y.To≤x.aa∨x.To≤y.aa)) (hx:x.aa<x.To):cutS s x=s:=by
 induction s with
 | nil=>rfl
 | cons y s ih =>
   have h1:=h y (by simp)
   show parts y x++cutS s x=y::s
   rw [ih (fun z hz=>h z (by simp [hz]))]
   have:parts y x=[y]:=by
    unfold parts
    rcases h1.2 with h2 | h2
    · rw [Az (by omega),Aq (by omega),show min y.To x.aa=y.To by omega]; rfl
    · rw [Aq (by omega),Az (by omega),show max y.aa x.To=y.aa by omega]; rfl
   rw [this]; rfl
theorem cut_one {x:Iv} {k:Int} {kk0:Int→List Iv→Ad (List Iv)} (y:Iv) (acc:List Iv) (n:Nat) (ha:acc.length≤100000) :
 gN k kk0 y (min y.To x.aa) (max y.aa x.To) (n+3) 0 acc=kk0 (Ab .i64 (k+1)) (acc++parts y x):=by
 have w0:Ab .i64 (0+1)=1:=rfl
 have w1:Ab .i64 (1+1)=2:=rfl
 have g0:∀ a b:Iv,gix [a,b] 0=some a:=fun _ _=>rfl
 have g1:∀ a b:Iv,gix [a,b] 1=some b:=fun _ _=>rfl
 unfold parts
 have e2:∀ (m:Nat) (a:List Iv),gN k kk0 y (min y.To x.aa) (max y.aa x.To) (m+1) 2 a=kk0 (Ab .i64 (k+1)) a:=fun m a=>by
  rw [gN]
  simp only [bndD,show decide ((2:Int)<2)=false from rfl,aQ]
 have e1:∀ (m:Nat) (a:List Iv),a.length≤100001→gN k kk0 y (min y.To x.aa) (max y.aa x.To) (m+2) 1 a=kk0 (Ab .i64 (k+1)) (a++if max y.aa x.To<y.To then [⟨max y.aa x.To,y.To⟩] else []):=fun m a hal=>by
  rw [gN]
  simp only [bndD,show decide ((1:Int)<2)=true from rfl,aU,g1,bnoS,zB]
  by_cases h:max y.aa x.To<y.To
  · rw [Aa (by omega),Az h]
    simp only [Ba,Ap,aU,Ah,Ca,aQ,w1]
    rw [dU (by simp; omega) (by simp; omega),bnoS,e2 m]
  · rw [Ac (by omega),Aq h,AQ]
    simp only [Ah,ft,aQ,Ba,Cw,w1,e2 m]
 rw [gN]
 simp only [bndD,show decide ((0:Int)<2)=true from rfl,aU,g0,bnoS,zB]
 by_cases h:y.aa<min y.To x.aa
 · rw [Aa (by omega),Az h]
   simp only [Ba,Ap,aU,Ah,Ca,aQ,w0]
   rw [dU (by simp; omega) (by simp; omega),bnoS,e1 n _ (by simp; omega),Ax]
 · rw [Ac (by omega),Aq h,AE]
   simp only [Ah,ft,aQ,Ba,Cw,w0]
   rw [e1 n _ (by omega)]
theorem cut_L {s:List Iv} {x:Iv} (hl:s.length≤20000):∀ (r p:List Iv) (f:Nat),s=p++r→r.length<f→lF s x f (p.length:Int) (cutS p x)=some (cutS s x)
 | [],p,f+1,h,_=>by
   unfold lF
   simp only [bndD,jC h,aQ]
   rw [AQ] at h; rw [h]
 | y::r,p,f+1,h,hf=>by
   unfold lF
   have hp:p.length+(r.length+1)=s.length:=by rw [h]; simp
   have hc:=aGh x p
   simp only [bndD,iS h,aU,cX h,bnoS]
   have hfu:fuel=18446744073709551613+3:=rfl
   rw [hfu,cut_one y (cutS p x) _ (by omega),w_at h (by omega)]
   have ih:=cut_L (x:=x) hl r (p++[y]) f (pK h) (by simpa using hf)
   have e:cutS (p++[y]) x=cutS p x++parts y x:=by simp [cutS]
   rw [e] at ih
   exact ih
theorem aKC {s:List Iv} {x:Iv} (hl:s.length≤20000) (h:VS s) (hx:0≤x.aa∧x.aa≤4398046511104∧0≤x.To∧x.To≤4398046511104):rR s x=some (if x.To≤x.aa then s else cutS s x):=by
 have hm:mayB x=true:=by unfold mayB; simp; omega
 unfold rR
 rw [aGN (⟨x.aa,x.To⟩:Iv),show mayB (⟨x.aa,x.To⟩:Iv)=true from hm,bnoS]
 simp only [bndD,Ah,Ap,gdtt,zB,bnoS,BF]
 by_cases hn:x.To≤x.aa
 · rw [Ac hn,Az hn]
   simp only [tf,gdff,bnoS,BO,aU,aM0 (show s.length≤100000 by omega)]
 · rw [Aa hn,Aq hn]
   simp only [Ap,gdtt,aAQ (show s.length≤100000 by omega) h,bnoS,decide_true,Ah,Bc,aQ]
   exact cut_L hl s [] fuel rfl (bK (by omega))
end Go.Fn
open Bool renaming and_self → Bs,eq_iff_iff → BZ,false_and → AN,true_and → Bn
open List renaming concat_eq_append → BY,eq_nil_or_concat → Ch,length_singleton → AZ
open _root_ renaming absurd → AP
open Go Go.IL
namespace Go.Fn
def putS (s:List Iv) (x:Iv):List Iv:=match s.getLast? with
 | some y=>if x.aa≤y.To then s.dropLast++[⟨y.aa,max y.To x.To⟩] else s++[x]
 | none=>s++[x]
theorem aK7 (x:Iv):putS [] x=[x]:=rfl
theorem aI1 (p:List Iv) (y x:Iv):putS (p++[y]) x=if x.aa≤y.To then p++[⟨y.aa,max y.To x.To⟩] else p++[y]++[x]:=by
 unfold putS; simp
theorem aIz {s:List Iv} {x:Iv} (hl:s.length≤100000) (hx:x.aa<x.To):lZ x s=some (putS s x):=by
 unfold lZ
 rw [zB (⟨x.aa,x.To⟩:Iv),show decide ((⟨x.aa,x.To⟩:Iv).To≤(⟨x.aa,x.To⟩:Iv).aa)=false from Aa (by show ¬x.To≤x.aa; omega),bnoS,aQ]
 rcases Ch s with rfl | ⟨p,y,hs⟩
 · simp only [bndD,Bj,show decide ((0:Int)<((0:Nat):Int))=false from rfl,ft,gdff,bnoS,AN,aQ]
   rw [dU (by simp) (by simp),bnoS]; rfl
 · rw [BY] at hs
   subst hs
   have hlen:(p++[y]).length=p.length+1:=by simp
   have hw:Ab .i64 (((p++[y]).length:Int)-1)=(p.length:Int):=by rw [hlen,w64 (by omega) (by omega)]; omega
   have hg:gix (p++[y]) (p.length:Int)=some y:=cX (r:=[]) rfl
   have hge:(p++[y])[p.length]? = some y:=by rw [Bg (AJ _)]; simp
   have hset:∀ z:Iv,(p++[y]).set p.length z=p++[z]:=fun z=>by rw [CG _ _ (AJ _)]; simp
   simp only [bndD,Ac (show (0:Int)<((p++[y]).length:Int) by omega),Ap,gdtt,hw,hg,bnoS,Au,hge,Bn,hset]
   rw [aI1]
   by_cases h:x.aa≤y.To
   · rw [Ac h,aU,Az h]
   · rw [Aa h,aQ,Aq h,dU (by simp; omega) (by simp; omega),bnoS]
theorem aIy {s:List Iv} {x:Iv} (h:VS s) (hx:x.aa<x.To) (h0:0≤x.aa) (h1:x.To≤4398046511104) (hle:∀ y∈s,y.aa≤x.aa) :
 VS (putS s x)∧(∀ n,mem n (putS s x)↔mem n s∨(x.aa≤n∧n<x.To))∧(∀ y∈putS s x,y.aa≤x.aa)∧(putS s x).length≤s.length+1:=by
 rcases Ch s with rfl | ⟨p,y,hs⟩
 · rw [aK7]
   refine ⟨⟨by simp,fun z hz=>?_,fun z hz=>?_,fun z hz=>?_⟩,fun n=>?_,fun z hz=>?_,by simp⟩
   · rw [Av.1 hz]; exact hx
   · rw [Av.1 hz]; exact h0
   · rw [Av.1 hz]; exact h1
   · constructor
     · rintro ⟨z,hz,h2⟩; rw [Av.1 hz] at h2; exact .inr h2
     · rintro (⟨z,hz,_⟩ | h2)
       · exact (AW hz).elim
       · exact ⟨x,by simp,h2⟩
   · rw [Av.1 hz]; exact AU _
 · rw [BY] at hs
   subst hs
   rw [aI1]
   have hy:=hle y (by simp)
   have hyn:=h.ne y (by simp)
   have hpp:=Bm.1 h.pw
   by_cases hc:x.aa≤y.To
   · rw [Az hc]
     have hmem:∀ z,z∈p++[(⟨y.aa,max y.To x.To⟩:Iv)]→z∈p∨z=⟨y.aa,max y.To x.To⟩:=fun z hz=>by
      rcases As.1 hz with hz | hz
      · exact .inl hz
      · exact .inr (Av.1 hz)
     refine ⟨⟨?_,fun z hz=>?_,fun z hz=>?_,fun z hz=>?_⟩,fun n=>?_,fun z hz=>?_,by simp⟩
     · rw [Bm]
       refine ⟨hpp.1,by simp,fun a ha b hb=>?_⟩
       rw [Av.1 hb]; exact hpp.2.2 a ha y (by simp)
     · rcases hmem z hz with hz | rfl
       · exact h.ne z (by simp [hz])
       · show y.aa<max y.To x.To; omega
     · rcases hmem z hz with hz | rfl
       · exact h.lo z (by simp [hz])
       · exact h.lo y (by simp)
     · rcases hmem z hz with hz | rfl
       · exact h.hi z (by simp [hz])
       · have:=h.hi y (by simp); show max y.To x.To≤_; omega
     · constructor
       · rintro ⟨z,hz,h2,h3⟩
         rcases hmem z hz with hz | rfl
         · exact .inl ⟨z,by simp [hz],h2,h3⟩
         · have h2:y.aa≤n:=h2
           have h3:n<max y.To x.To:=h3
           by_cases h4:n<y.To
           · exact .inl ⟨y,by simp,h2,h4⟩
           · exact .inr (by omega)
       · rintro (⟨z,hz,h2,h3⟩ | h2)
         · rcases As.1 hz with hz | hz
           · exact ⟨z,by simp [hz],h2,h3⟩
           · rw [Av.1 hz] at h2 h3
             exact ⟨_,As.2 (.inr (Av.2 rfl)),h2,by show n<max y.To x.To; omega⟩
         · exact ⟨_,As.2 (.inr (Av.2 rfl)),by show y.aa≤n; omega,by show n<max y.To x.To; omega⟩
     · rcases hmem z hz with hz | rfl
       · exact hle z (by simp [hz])
       · exact hy
   · rw [Aq hc]
     refine ⟨⟨?_,fun z hz=>?_,fun z hz=>?_,fun z hz=>?_⟩,fun n=>?_,fun z hz=>?_,by simp⟩
     · rw [Bm]
       refine ⟨h.pw,by simp,fun a ha b hb=>?_⟩
       rw [Av.1 hb]
       rcases As.1 ha with ha | ha
       · have:=hpp.2.2 a ha y (by simp); omega
       · rw [Av.1 ha]; omega
     · rcases As.1 hz with hz | hz
       · exact h.ne z hz
       · rw [Av.1 hz]; exact hx
     · rcases As.1 hz with hz | hz
       · exact h.lo z hz
       · rw [Av.1 hz]; exact h0
     · rcases As.1 hz with hz | hz
       · exact h.hi z hz
       · rw [Av.1 hz]; exact h1
     · constructor
       · rintro ⟨z,hz,h2⟩
         rcases As.1 hz with hz | hz
         · exact .inl ⟨z,hz,h2⟩
         · rw [Av.1 hz] at h2; exact .inr h2
       · rintro (⟨z,hz,h2⟩ | h2)
         · exact ⟨z,As.2 (.inl hz),h2⟩
         · exact ⟨x,As.2 (.inr (by simp)),h2⟩
     · rcases As.1 hz with hz | hz
       · exact hle z hz
       · rw [Av.1 hz]; exact AU _
theorem aFb {n:Int} {p:List Iv} {y:Iv}:mem n (p++[y])↔mem n p∨(y.aa≤n∧n<y.To):=by
 constructor
 · rintro ⟨z,hz,h2⟩
   rcases As.1 hz with hz | hz
   · exact .inl ⟨z,hz,h2⟩
   · rw [Av.1 hz] at h2; exact .inr h2
 · rintro (⟨z,hz,h2⟩ | h2)
   · exact ⟨z,As.2 (.inl hz),h2⟩
   · exact ⟨y,As.2 (.inr (by simp)),h2⟩
theorem add_L {s:List Iv} {x:Iv} (hl:s.length≤20000) (h:VS s) (hx:x.aa<x.To) (h0:0≤x.aa) (h1:x.To≤4398046511104):∀ (r p:List Iv) (f:Nat) (out:List Iv) (laid:Bool),s=p++r→r.length<f→VS out →
 (∀ y∈out,∀ z∈r,y.aa≤z.aa)→(laid=false→∀ y∈out,y.aa≤x.aa)→(∀ n,mem n out↔mem n p∨(laid=true∧x.aa≤n∧n<x.To))→out.length≤p.length+1→(laid=false→out.length≤p.length) →
 ∃ t,lG s x f out laid (p.length:Int)=some t∧VS t∧(∀ n,mem n t↔mem n s∨(x.aa≤n∧n<x.To))∧t.length≤s.length+1:=by
 intro r
 induction r with
 | nil =>
   intro p f out laid hs hf hv ha hb hm hc hd
   obtain ⟨f,rfl⟩:∃ g,f=g+1:=⟨f-1,by simp at hf; omega⟩
   have hps:p=s:=by rw [hs,AQ]
   subst hps
   unfold lG
   simp only [bndD,uE,aQ]
   cases laid
   · obtain ⟨v1,v2,v3,v4⟩:=aIy hv hx h0 h1 (hb rfl)
     have:=hd rfl
     refine ⟨putS out x,?_,v1,fun n=>?_,by omega⟩
     · rw [Ba,aU,aIz (x:=(⟨x.aa,x.To⟩:Iv)) (by omega) hx,bnoS]
     · rw [v2,hm]; simp
   · refine ⟨out,by rw [Ah,aQ],hv,fun n=>?_,hc⟩
     rw [hm]; simp
 | cons y r ih =>
   intro p f out laid hs hf hv ha hb hm hc hd
   obtain ⟨f,rfl⟩:∃ g,f=g+1:=⟨f-1,by simp at hf; omega⟩
   have hpl:p.length+(r.length+1)=s.length:=by rw [hs]; simp
   have hym:y∈s:=by rw [hs]; simp
   have hyn:=h.ne y hym
   have hyr:∀ z∈r,y.aa≤z.aa:=fun z hz=>by
    have:=h.pw
    rw [hs] at this
    have:=(BE.1 (Bm.1 this).2.1).1 z hz
    omega
   unfold lG
   simp only [bndD,iS hs,aU,cX hs,bnoS]
   have fin:∀ (o1:List Iv) (l1:Bool),VS o1→(∀ z∈o1,z.aa≤y.aa)→(l1=false→y.aa≤x.aa)→(∀ n,mem n o1↔mem n p∨(l1=true∧x.aa≤n∧n<x.To))→o1.length≤p.length+1→(l1=false→o1.length≤p.length) →
    ∃ t,rS (p.length:Int) (lG s x f) y o1 l1=some t∧VS t∧(∀ n,mem n t↔mem n s∨(x.aa≤n∧n<x.To))∧t.length≤s.length+1:=fun o1 l1 b1 b2 b3 b4 b5 b6=>by
    obtain ⟨v1,v2,v3,v4⟩:=aIy b1 hyn (h.lo y hym) (h.hi y hym) b2
    unfold rS
    rw [aIz (x:=(⟨y.aa,y.To⟩:Iv)) (by omega) hyn,bnoS,bndD,w_at hs (by omega)]
    refine ih (p++[y]) f (putS o1 y) l1 (pK hs) (by simpa using hf) v1 (fun z hz w hw=>?_) (fun hl1 z hz=>?_) (fun n=>?_) ?_ (fun hl1=>?_)
    · have:=v3 z hz; have:=hyr w hw; omega
    · have:=v3 z hz; have:=b3 hl1; omega
    · rw [v2,b4,aFb]
      constructor
      · rintro ((h5 | h5) | h5)
        · exact .inl (.inl h5)
        · exact .inr h5
        · exact .inl (.inr h5)
      · rintro ((h5 | h5) | h5)
        · exact .inl (.inl h5)
        · exact .inr h5
        · exact .inl (.inr h5)
    · rw [Ae,AZ]; omega
    · have:=b6 hl1; rw [Ae,AZ]; omega
   by_cases hcond:laid=false∧x.aa≤y.aa
   · rw [hcond.1,Ac hcond.2]
     obtain ⟨v1,v2,v3,v4⟩:=aIy hv hx h0 h1 (hb hcond.1)
     have:=hd hcond.1
     simp only [Ba,Bs,aU]
     rw [aIz (x:=(⟨x.aa,x.To⟩:Iv)) (by omega) hx,bnoS]
     refine fin (putS out x) true v1 (fun z hz=>by have:=v3 z hz; omega) (fun h=>by cases h) (fun n=>?_) (by omega) (fun h=>by cases h)
     rw [v2,hm,hcond.1]; simp
   · rw [show (!laid&&decide (x.aa≤y.aa))=false by
      cases laid
      · simp only [true_and] at hcond; rw [Aa hcond]; rfl
      · rfl,aQ]
     refine fin out laid hv (fun z hz=>ha z hz y (by simp)) (fun hl1=>?_) hm hc hd
     simp only [hl1,true_and] at hcond; omega
theorem aNK {s:List Iv} {x:Iv} (hl:s.length≤20000) (h:VS s) (h0:0≤x.aa) (h1:x.To≤4398046511104) (hx:x.aa≤x.To) :
 ∃ t,aAE s x=some t∧VS t∧(∀ n,mem n t↔mem n s∨(x.aa≤n∧n<x.To))∧(x.aa=x.To→t=s)∧t.length≤s.length+1:=by
 have hm:mayB x=true:=by unfold mayB; simp; omega
 unfold aAE
 rw [aGN (⟨x.aa,x.To⟩:Iv),show mayB (⟨x.aa,x.To⟩:Iv)=true from hm,bnoS]
 simp only [bndD,Ah,Ap,gdtt,zB,bnoS,BF]
 by_cases hn:x.To≤x.aa
 · rw [Ac hn]
   refine ⟨s,?_,h,fun n=>⟨.inl,fun h=>by rcases h with h | h; exact h; omega⟩,fun _=>rfl,by omega⟩
   simp only [tf,gdff,bnoS,BO,aU,aM0 (show s.length≤100000 by omega)]
 · rw [Aa hn]
   obtain ⟨t,e1,e2,e3,e4⟩:=add_L hl h (by omega) h0 h1 s [] fuel [] false rfl (bK (by omega)) VS.nil (fun _ h=>(AW h).elim) (fun _ _ h=>(AW h).elim) (fun n=>by simp) (by simp) (fun _=>by simp)
   refine ⟨t,?_,e2,e3,fun h=>by omega,e4⟩
   simp only [Ap,gdtt,aAQ (show s.length≤100000 by omega) h,bnoS,decide_true,Ah,Bc,aQ]
   exact e1
theorem aM6 {s:List Iv} {x:Iv} (hl:s.length≤20000) (h:VS s) (hx:x.aa<x.To) (h0:0≤x.aa) (h1:x.To≤4398046511104) (hd:∀ y∈s,y.To≤x.aa∨x.To≤y.aa):∀ (r p:List Iv) (f:Nat),s=p++r→r.length<f→oH s f [x] (p.length:Int)=some [x]
 | [],p,f+1,hs,_=>by
   unfold oH
   simp only [bndD,jC hs,aQ]
 | y::r,p,f+1,hs,hf=>by
   have hym:y∈s:=by rw [hs]; simp
   have hyn:=h.ne y hym
   have a1:=h.lo y hym
   have a2:=h.hi y hym
   have hdy:=hd y hym
   have hv:VS [x]:=⟨by simp,fun z hz=>by rw [Av.1 hz]; exact hx,fun z hz=>by rw [Av.1 hz]; exact h0,fun z hz=>by rw [Av.1 hz]; exact h1⟩
   unfold oH
   simp only [bndD,iS hs,aU,cX hs,bnoS]
   rw [aKC (x:=(⟨y.aa,y.To⟩:Iv)) (by simp) hv ⟨a1,by show y.aa≤_; omega,by show 0≤y.To; omega,a2⟩,Aq (by show ¬y.To≤y.aa; omega),aKD (x:=(⟨y.aa,y.To⟩:Iv)) (fun z hz=>by rw [Av.1 hz]; exact ⟨hx,by show x.To≤y.aa∨y.To≤x.aa; omega⟩) hyn,bnoS,w_at hs (by omega)]
   exact aM6 hl h hx h0 h1 hd r (p++[y]) f (pK hs) (by simpa using hf)
theorem gaps_eq {s:List Iv} {x:Iv} (hl:s.length≤20000) (h:VS s) (hx:x.aa<x.To) (h0:0≤x.aa) (h1:x.To≤4398046511104) (hd:∀ n,x.aa≤n→n<x.To→¬ mem n s):xV s x=some [x]:=by
 have hm:mayB x=true:=by unfold mayB; simp; omega
 have hd2:∀ y∈s,y.To≤x.aa∨x.To≤y.aa:=fun y hy=>by
  have hyn:=h.ne y hy
  by_cases hc:y.To≤x.aa∨x.To≤y.aa
  · exact hc
  · exact AP ⟨y,hy,by omega,by omega⟩ (hd (max x.aa y.aa) (by omega) (by omega))
 unfold xV
 rw [aGN (⟨x.aa,x.To⟩:Iv),show mayB (⟨x.aa,x.To⟩:Iv)=true from hm,bnoS]
 simp only [bndD,Ah,Ap,gdtt,aAQ (show s.length≤100000 by omega) h,bnoS,decide_true,Bc,zB,Aa (show ¬x.To≤x.aa by omega),aQ]
 exact aM6 hl h hx h0 h1 hd2 s [] fuel rfl (bK (by omega))
theorem isame {l m:List Iv} (hl:l.length≤1000000):vD l m=some (decide (l=m)):=by
 have heq:∀ x y:Iv,(decide (x.aa=y.aa)&&(decide (x.To=y.To)&&true))=decide (x=y):=fun x y=>by
  obtain ⟨a,b⟩:=x; obtain ⟨c,d⟩:=y; rw [BZ]; simp
 have:=vH (L:=cD l m) (m:=m) (z:=true) hl (fun p x r s y t f h k e=>by
  rw [cD]
  simp only [bndD,iS h,aU,cX h,show gix m (p.length:Int)=some y by rw [e]; exact cX k,bnoS,heq,w_at h hl]) (fun _ f=>by
  rw [cD]
  simp only [bndD,uE,aQ])
 rw [Cw] at this
 have this:gA l m=_:=this
 unfold vD
 rw [this,bnoS]
end Go.Fn
open Bool renaming or_true → DU
open List renaming drop_of_length_le → Cc,filter_cons → Gg,length_eq_zero_iff → Bh,length_filter_le → DV,length_replicate → BG,mem_filter → DW,replicate → Ay
open _root_ renaming UInt8 → Ai
open Go Go.IL
namespace Go.Fn
def endS (s:S23):Int:=s.ag+(s.aj.length:Int)
def fins (l:List Pc):Nat:=(l.filter (·.bx)).length
structure G (s:S23):Prop where
 b0:0≤s.ag
 bn:s.ag≤s.ak
 nd:s.ak≤endS s
 en:endS s≤1099511623680
 dl:s.aj.length≤4096
 lv:VS s.ay
 lb:∀ x∈s.ay,s.ag≤x.aa∧x.To≤s.ak
 pw:s.ah.Pairwise (fun p q=>p.To≤q.aa)
 pb:∀ p∈s.ah,(s.ag≤p.aa∧p.aa≤p.To∧p.To≤s.ak)∧0≤p.bu∧p.bu<4
 pf:∀ p∈s.ah,p.aa=p.To→p.bx=true
 pd:∀ p∈s.ah,∀ n,p.aa≤n→n<p.To→¬ mem n s.ay
 fe:∀ p∈s.ah,p.bx=true→p.To=endS s
 fc:fins s.ah=if s.az=true∧s.ax=false∧s.ba=false then 1 else 0
 se:s.az=true→s.aw=true∧s.ak=endS s∧¬ (s.ax=true∧s.ba=true)
 ns:s.az=false→s.ax=false∧s.ba=false
 cov:∀ n,s.ag≤n→n<s.ak→mem n s.ay∨∃ p∈s.ah,p.aa≤n∧n<p.To
theorem aMt:∀ {l:List Pc} {a b:Int},l.Pairwise (fun p q=>p.To≤q.aa)→(∀ p∈l,a≤p.aa∧p.aa≤p.To∧p.To≤b)→(∀ p∈l,p.aa=p.To→p.bx=true)→a≤b→(l.length:Int)≤b-a+fins l
 | [],a,b,_,_,_,h=>by simp [fins]; omega
 | x :: l,a,b,hp,hb,hf,hab=>by
   have hp:=BE.1 hp
   have h1:=hb x (by simp)
   have:=aMt (l:=l) (a:=x.To) (b:=b) hp.2 (fun y hy=>⟨hp.1 y hy,(hb y (by simp [hy])).2⟩) (fun y hy=>hf y (by simp [hy])) h1.2.2
   have hf1:fins (x::l)=fins l+if x.bx=true then 1 else 0:=by unfold fins; rw [Gg]; split <;> simp
   rw [hf1]
   by_cases he:x.aa=x.To
   · rw [Az (hf x (by simp) he)]
     simp only [Ao]; omega
   · simp only [Ao]; split <;> omega
theorem G.ll {s:S23} (h:G s):s.ay.length≤4096:=by
 have h1:=aF4 h.lv.pw h.lv.ne h.lb h.bn
 have h2:=h.nd
 have h3:=h.dl
 unfold endS at h2; omega
theorem G.pl {s:S23} (h:G s):s.ah.length≤4097:=by
 have h1:=aMt h.pw (fun p hp=>(h.pb p hp).1) h.pf h.bn
 have h2:=h.nd
 have h3:=h.dl
 have h4:fins s.ah≤1:=by rw [h.fc]; split <;> omega
 unfold endS at h2; omega
theorem G.num {s:S23} (h:G s):0≤s.ag∧s.ag≤s.ak∧s.ak≤endS s∧endS s≤1099511623680:=⟨h.b0,h.bn,h.nd,h.en⟩
theorem uH {s:S23} (h:G s):eX s=some (endS s):=by
 obtain ⟨h1,h2,h3,h4⟩:=h.num
 unfold eX
 rw [bndD]; unfold endS at *; rw [w64 (by omega) (by omega)]
theorem aEV {s:S23} (hp:s.ah.length≤100000) (hl:s.ay.length≤100000):gM s=some (s.ag,s.aj,s.ak,s.ah,s.ay,s.aw,s.az,s.ax,s.ba):=by
 unfold gM
 have e:cpy (Ay s.ah.length (⟨0,0,0,false⟩:Pc)) s.ah=s.ah:=by
  unfold cpy
  rw [BG,AM,Cc (by rw [BG]; exact AJ _),AQ]
 rw [aJG (by omega) (by omega) (by omega),bnoS,Au,bndD,e,iclone2 hl,bnoS]
theorem lost23 {s:S23} (h:G s):qF s=some true:=by
 have hl:=h.ll
 unfold qF
 rw [aAQ (by omega) h.lv,bnoS]
 simp only [bndD,decide_true,Ah,aQ]
 cases hs:s.ay with
 | nil=>rfl
 | cons x r =>
   obtain ⟨p,y,hy⟩:∃ p y,x::r=p++[y]:=by
    rcases Ch (x::r) with h | ⟨p,y,h⟩
    · cases h
    · exact ⟨p,y,by rw [h,BY]⟩
   have hlen:((x::r).length:Int)=(p.length:Int)+1:=by rw [hy]; simp
   have hpl:p.length≤5000:=by rw [hs,hy] at hl; simp at hl; omega
   have hw:Ab .i64 (((x::r).length:Int)-1)=(p.length:Int):=by rw [hlen,w64 (by omega) (by omega)]; omega
   have hg:gix (x::r) (p.length:Int)=some y:=cX (r:=[]) hy
   have h0:gix (x::r) 0=some x:=rfl
   have hx:=h.lb x (by rw [hs]; simp)
   have hyb:=h.lb y (by rw [hs,hy]; simp)
   simp only [Aa (show ¬((x::r).length:Int)=0 by omega),Ap,gdtt,h0,bnoS,Ac hx.1,Bs,hw,hg,Ac hyb.2,DU]
theorem fits23 {s:S23} (h:G s) {p:Pc} (hp:p∈s.ah) {at_:Int} (ha:at_≤p.aa):qG s p at_=some true:=by
 obtain ⟨⟨a1,a2,a3⟩,a4,a5⟩:=h.pb p hp
 obtain ⟨n1,n2,n3,n4⟩:=h.num
 have hl:=h.ll
 unfold qG mV iJ
 simp only [bndD,Aa (show ¬p.aa<at_ by omega),Aa (show ¬p.To<p.aa by omega),Aa (show ¬s.ak<p.To by omega),Bc,Ap,gdtt,Ac a4,Ac a5,Bs,bnoS,Ah,aQ]
 by_cases he:p.aa=p.To
 · rw [Ac he,aU,h.pf p hp he]
 · rw [Aa he,aQ,gaps_eq (x:=(⟨p.aa,p.To⟩:Iv)) (by omega) h.lv (by show p.aa<p.To; omega) (by show 0≤p.aa; omega) (by show p.To≤_; omega) (h.pd p hp),bnoS,isame (by simp),bnoS,Ac rfl]
theorem wG (l m:List Pc):fins (l++m)=fins l+fins m:=by unfold fins; rw [EO,Ae]
theorem aNB {s:S23} (h:G s):∀ (r p:List Pc) (f:Nat),s.ah=p++r→r.length<f→gD s f (fins p:Int) (p.length:Int)=some true
 | [],p,f+1,hs,_=>by
   unfold gD
   rw [AQ] at hs
   have hc:=h.fc
   rw [hs] at hc
   simp only [bndD,show decide ((p.length:Int)<(s.ah.length:Int))=false by rw [hs]; exact uE,aQ]
   cases hS:s.az
   · obtain ⟨h1,h2⟩:=h.ns hS
     rw [hS] at hc
     simp at hc
     simp [hc,h1,h2]
   · obtain ⟨h1,h2,h3⟩:=h.se hS
     rw [hS] at hc
     simp only [h1,Ah,aQ,Ap,gdtt,uH h,bnoS,Ac h2,Bc,BF]
     cases hA:s.ax <;> cases hD:s.ba <;> rw [hA,hD] at hc h3 <;> simp at hc h3 <;> simp [hc]
 | x :: r,p,f+1,hs,hf=>by
   have hx:x∈s.ah:=by rw [hs]; simp
   have hpl:=h.pl
   have hpp:p.length+(r.length+1)=s.ah.length:=by rw [hs]; simp
   have hfl:fins p≤p.length:=DV _ _
   have ih:=aNB h r (p++[x]) f (pK hs) (by simpa using hf)
   rw [wG] at ih
   unfold gD
   simp only [bndD,iS hs,aU,cX hs,bnoS,uH h,w_at hs (show s.ah.length≤1000000 by omega)]
   cases hF:x.bx
   · rw [aQ]
     have:fins [x]=0:=by simp [fins,hF]
     rw [this] at ih; exact ih
   · have:fins [x]=1:=by simp [fins,hF]
     rw [this] at ih
     rw [aU,Ac (h.fe x hx hF),Ah,aQ,w64 (by omega) (by omega)]
     exact ih
theorem aGl {s:S23} (h:G s):∀ (r p:List Pc) (f:Nat) (at_:Int),s.ah=p++r→r.length<f→(∀ q∈r,at_≤q.aa)→oD s f at_ (p.length:Int)=some 0
 | [],p,f+1,at_,hs,_,_=>by
   unfold oD
   have he:=aNB h s.ah [] fuel rfl (bK (by have:=h.pl; omega))
   have he:tL s=some true:=he
   simp only [bndD,jC hs,aQ,he,bnoS,Ah]
 | x::r,p,f+1,at_,hs,hf,ha=>by
   have hx:x∈s.ah:=by rw [hs]; simp
   have hpl:=h.pl
   unfold oD
   simp only [bndD,iS hs,aU,cX hs,bnoS,fits23 h hx (ha x (by simp)),Ah,aQ,w_at hs (show s.ah.length≤1000000 by omega)]
   refine aGl h r (p++[x]) f x.To (pK hs) (by simpa using hf) (fun q hq=>?_)
   have:=h.pw
   rw [hs] at this
   exact (BE.1 (Bm.1 this).2.1).1 q hq
theorem xI {s:S23} (h:G s):lU s=some 0:=by
 obtain ⟨n1,n2,n3,n4⟩:=h.num
 have hd:=h.dl
 have e:endS s=s.ag+(s.aj.length:Int):=rfl
 unfold lU oE
 simp only [bndD,Aa (show ¬s.ag<0 by omega),Aa (show ¬1099511623680<s.ag by omega),Aa (show ¬s.ak<s.ag by omega),w64 (show -9223372036854775808≤s.ak-s.ag by omega) (by omega),Aa (show ¬(s.aj.length:Int)<s.ak-s.ag by omega),Aa (show ¬(4096:Int)<(s.aj.length:Int) by omega),aQ,lost23 h,bnoS,Ah]
 exact aGl h s.ah [] fuel s.ag rfl (bK (by have:=h.pl; omega)) (fun q hq=>(h.pb q hq).1.1)
def new23:S23:=⟨0,[],0,[],[],false,false,false,false⟩
theorem g_new:G new23:=⟨by decide,by decide,by decide,by decide,by decide,VS.nil,fun _ h=>(AW h).elim,.nil,fun _ h=>(AW h).elim,fun _ h=>(AW h).elim,fun _ h=>(AW h).elim,fun _ h=>(AW h).elim,rfl,fun h=>(by cases h),fun _=>⟨rfl,rfl⟩,fun n h1 h2=>by have h1:(0:Int)≤n:=h1; have h2:n<0:=h2; omega⟩
def uN (s:S23):Int:=if s.aw=true then 0 else 4096-(s.aj.length:Int)
theorem aMl {s:S23} (h:G s):wU s=some (uN s):=by
 have hd:=h.dl
 unfold wU uN
 cases s.aw
 · rw [aQ,bndD,w64 (by omega) (by omega)]; rfl
 · rfl
def writeN (s:S23) (str:List Ai):Nat:=if endS s≤1099511623680-min (uN s) (str.length:Int) then (min (uN s) (str.length:Int)).toNat else 0
def aA0 (s:S23) (str:List Ai):S23:=⟨s.ag,s.aj++str.take (writeN s str),s.ak,s.ah,s.ay,s.aw,s.az,s.ax,s.ba⟩
theorem xN {s:S23} (h:G s):0≤uN s∧uN s≤4096-(s.aj.length:Int):=by
 have hd:=h.dl
 unfold uN; split <;> omega
theorem aD4 {s:S23} (h:G s) (str:List Ai):(writeN s str:Int)≤uN s∧writeN s str≤str.length:=by
 have:=xN h
 unfold writeN; split <;> omega
theorem write23 {s:S23} (h:G s) (str:List Ai) (hs:str.length≤100000):xM s str=some (aA0 s str,(writeN s str:Int)):=by
 have hp:=h.pl
 have hl:=h.ll
 have hr:=xN h
 have hd:=h.dl
 obtain ⟨n1,n2,n3,n4⟩:=h.num
 unfold xM
 rw [aEV (by omega) (by omega),bnoS,xI h,bnoS]
 simp only [bndD,decide_true,Ah,aQ,aMl h,bnoS,uH h,w64 (show -9223372036854775808≤1099511623680-min (uN s) (str.length:Int) by omega) (by omega)]
 unfold aA0 writeN
 by_cases hc:endS s≤1099511623680-min (uN s) (str.length:Int)
 · rw [Aa (by omega),aQ,Az hc]
   obtain ⟨k,hk⟩:∃ k:Nat,min (uN s) (str.length:Int)=(k:Int):=⟨(min (uN s) (str.length:Int)).toNat,by omega⟩
   have hkl:k≤str.length:=by omega
   have hcat:cat s.aj (str.take k)=some (s.aj++str.take k):=by unfold cat; rw [Az (by rw [Aw]; omega)]
   rw [hk,aGg hkl,bnoS,hcat,bnoS,Au]
 · rw [Ac (by omega),aU,Aq hc]
   simp
theorem g_write {s:S23} (h:G s) (str:List Ai):G (aA0 s str):=by
 obtain ⟨k1,k2⟩:=aD4 h str
 have hr:=xN h
 obtain ⟨n1,n2,n3,n4⟩:=h.num
 have hd:=h.dl
 have hdl:(aA0 s str).aj.length=s.aj.length+writeN s str:=by show (s.aj++str.take _).length=_; rw [Ae,Aw]; omega
 have he:endS (aA0 s str)=endS s+writeN s str:=by unfold endS; rw [hdl]; show s.ag+_=_; omega
 have hen:endS s+writeN s str≤1099511623680:=by unfold writeN; split <;> omega
 have hcl:s.aw=true→writeN s str=0:=fun hc=>by
  have:uN s=0:=by unfold uN; rw [Az hc]
  omega
 refine ⟨h.b0,h.bn,by rw [he]; show s.ak≤_; omega,by rw [he]; exact hen,by rw [hdl]; omega,h.lv,h.lb,h.pw,h.pb,h.pf,h.pd,fun p hp hF=>?_,h.fc,fun hS=>?_,h.ns,h.cov⟩
 · rw [he,h.fe p hp hF]
   have:s.az=true:=by
    cases hS:s.az
    · have hc:=h.fc
      rw [hS] at hc; simp at hc
      have:p∈s.ah.filter (·.bx):=DW.2 ⟨hp,hF⟩
      rw [Bh.1 hc] at this
      exact (AW this).elim
    · rfl
   rw [hcl (h.se this).1]; omega
 · obtain ⟨a1,a2,a3⟩:=h.se hS
   refine ⟨a1,?_,a3⟩
   rw [he,hcl a1]; show s.ak=_; omega
end Go.Fn
open Bool renaming and_eq_false_iff → Gy,and_eq_true → Af,or_eq_false_iff → BC,or_eq_true → CB
open List renaming getElem?_append_left → AX,getElem?_drop → CJ,length → DH,length_drop → AA,mem_cons → AF,take_append_of_le_length → AC
open _root_ renaming congrArg → Bv,decide_eq_true_iff → BJ
open Go Go.IL
namespace Go.Fn
def dueS (s:S23):Bool:=if (!s.aw||s.ba)=true then false else s.ax || !s.az
theorem due23 (s:S23):oP s=some (dueS s):=by
 unfold oP dueS
 simp only [bndD]
 cases !s.aw||s.ba <;> rfl
theorem aNC {s:S23} (h:dueS s=true):s.aw=true∧s.ba=false∧(s.ax=true∨s.az=false):=by
 unfold dueS at h
 cases hC:s.aw <;> cases hD:s.ba <;> rw [hC,hD] at h <;> simp at h
 exact ⟨rfl,rfl,by simpa using h⟩
def fW (s:S23) (most limit:Int):Pc×Bool:=match s.ay with
 | x::_=>(⟨x.aa,x.aa+min most (x.To-x.aa),0,false⟩,true)
 | []=>if 0<endS s-s.ak then (⟨s.ak,s.ak+min (min (endS s-s.ak) most) (max limit s.ak-s.ak),0,false⟩,decide (0<min (min (endS s-s.ak) most) (max limit s.ak-s.ak))) else (⟨s.ak,s.ak,0,false⟩,dueS s)
theorem aJE {s:S23} (h:G s) {most limit:Int} (hm:1≤most∧most≤9223372036854775807) (hl:0≤limit∧limit≤4398046511104):nI s most limit=some (fW s most limit):=by
 obtain ⟨n1,n2,n3,n4⟩:=h.num
 unfold nI fW
 cases hs:s.ay with
 | cons x r =>
   have hx:x∈s.ay:=by rw [hs]; simp
   have a1:=h.lv.ne x hx
   have a2:=h.lb x hx
   have h0:gix (x::r) 0=some x:=rfl
   simp only [bndD,Ac (show (0:Int)<((x::r).length:Int) by simp only [Ao]; omega),aU,h0,bnoS,w64 (show -9223372036854775808≤x.To-x.aa by omega) (by omega),w64 (show -9223372036854775808≤x.aa+min most (x.To-x.aa) by omega) (by omega)]
 | nil =>
   simp only [bndD,Bj,show decide ((0:Int)<((0:Nat):Int))=false from rfl,aQ,uH h,bnoS,w64 (show -9223372036854775808≤endS s-s.ak by omega) (by omega)]
   by_cases hc:0<endS s-s.ak
   · rw [Ac hc,aU,Az hc,w64 (show -9223372036854775808≤max limit s.ak-s.ak by omega) (by omega),w64 (show -9223372036854775808≤s.ak+min (min (endS s-s.ak) most) (max limit s.ak-s.ak) by omega) (by omega)]
   · rw [Aa hc,aQ,Aq hc,due23,bnoS]
def before (p q:Pc):Bool:=decide (p.aa<q.aa)||(decide (q.aa=p.aa)&&decide (p.To≤q.To))
theorem place23 {s:S23} (h:G s) (p:Pc) (hp:p.aa≤endS s) (hp2:p.aa=endS s→p.To≤endS s):∃ A B:List Pc,s.ah=A++B∧(∀ a∈A,before p a=false)∧(∀ b B',B=b::B'→before p b=true)∧kJ s p=some (A.length:Int):=by
 obtain ⟨n1,n2,n3,n4⟩:=h.num
 have hpl:=h.pl
 have hsent:before p (⟨endS s,endS s+1,0,false⟩:Pc)=true:=by
  unfold before
  by_cases he:p.aa=endS s
  · have:=hp2 he
    simp [he]; omega
  · simp; left; omega
 rcases aBR (L:=bC (s.ah++[(⟨endS s,endS s+1,0,false⟩:Pc)]) p) (q:=before p) (l:=s.ah++[(⟨endS s,endS s+1,0,false⟩:Pc)]) (fun p' x r f hh=>by
  rw [bC]
  have hx:qE x p=some (before p x):=rfl
  simp only [bndD,iS hh,aU,cX hh,bnoS,hx,w_at hh (by simp; omega)]) (fun f=>by
  rw [bC]
  simp only [bndD,uE,aQ]) (s.ah++[(⟨endS s,endS s+1,0,false⟩:Pc)]) [] fuel rfl (bK (by simp; omega)) (fun _ h=>(AW h).elim) with ⟨_,e2⟩ | ⟨a,x,t,e1,e2,e3,e4⟩
 · have:=e2 _ (As.2 (.inr (Av.2 rfl)))
   rw [hsent] at this; cases this
 · have hal:a.length≤s.ah.length:=by have:=Bv DH e1; simp at this; omega
   have hA:a=s.ah.take a.length:=by
    have:=Bv (List.take a.length) e1
    rw [AC hal,AC (AJ _),AM] at this
    exact this.symm
   refine ⟨a,s.ah.drop a.length,by conv=>lhs; rw [←AO a.length s.ah,←hA],e2,fun b B' hb=>?_,?_⟩
   · have h5:(s.ah++[(⟨endS s,endS s+1,0,false⟩:Pc)])[a.length]? = some x:=by rw [e1,Bg (AJ _)]; simp
     have hlt:a.length<s.ah.length:=by
      have:=Bv DH hb
      rw [AA,Ao] at this; omega
     rw [AX hlt] at h5
     have h6:(s.ah.drop a.length)[0]? = some x:=by rw [CJ]; simpa using h5
     rw [hb] at h6
     have:b=x:=by simpa using h6
     rw [this]; exact e3
   · unfold kJ cL
     have hc:=aGg (l:=s.ah) (AJ _)
     rw [AM] at hc
     simp only [bndD,hc,bnoS,uH h,w64 (show -9223372036854775808≤endS s+1 by omega) (by omega)]
     rw [dU (by simp; omega) (by simp; omega),bnoS]
     have e4:bC (s.ah++[(⟨endS s,endS s+1,0,false⟩:Pc)]) p fuel 0=_:=e4
     rw [e4,bnoS]
structure Pk (s:S23) (p:Pc) (lost:List Iv):Prop where
 lo:s.ag≤p.aa
 le:p.aa≤p.To
 nx:p.aa≤s.ak
 hi:p.To≤endS s
 pa:0≤p.bu∧p.bu<4
 em:p.aa=p.To→p.aa=s.ak∧p.bx=true
 dj:∀ q∈s.ah,∀ n,p.aa≤n→n<p.To→¬ (q.aa≤n∧n<q.To)
 fi:p.bx=(decide (p.To=endS s)&&dueS s)
 lv:VS lost
 lb:∀ x∈lost,s.ag≤x.aa∧x.To≤s.ak
 lm:∀ n,mem n lost↔mem n s.ay∧¬ (p.aa≤n∧n<p.To)
def aA6 (s:S23) (p:Pc) (lost:List Iv) (A B:List Pc):S23:=⟨s.ag,s.aj,max s.ak p.To,A++[p]++B,lost,s.aw,if p.bx=true then true else s.az,if p.bx=true then false else s.ax,s.ba⟩
theorem g_pick {s:S23} (h:G s) {p:Pc} {lost:List Iv} {A B:List Pc} (k:Pk s p lost) (hs:s.ah=A++B) (hA:∀ a∈A,before p a=false) (hB:∀ b B',B=b::B'→before p b=true):G (aA6 s p lost A B):=by
 obtain ⟨n1,n2,n3,n4⟩:=h.num
 have he:endS (aA6 s p lost A B)=endS s:=rfl
 have hmem:∀ q,q∈A++[p]++B↔q=p∨q∈s.ah:=fun q=>by
  rw [hs]; simp only [As,Av]
  constructor
  · rintro ((h1 | h1) | h1)
    · exact .inr (.inl h1)
    · exact .inl h1
    · exact .inr (.inr h1)
  · rintro (h1 | h1 | h1)
    · exact .inl (.inr h1)
    · exact .inl (.inl h1)
    · exact .inr h1
 have k1:=k.lo; have k2:=k.le; have k3:=k.nx; have k4:=k.hi
 have hap:∀ a∈A,a.To≤p.aa:=fun a ha=>by
  have hb:=hA a ha
  have ham:a∈s.ah:=by rw [hs]; simp [ha]
  have hpb:=(h.pb a ham).1
  unfold before at hb
  simp only [BC,Gy,decide_eq_false_iff_not] at hb
  obtain ⟨b1,b2⟩:=hb
  by_cases hpe:p.aa=p.To
  · have:=(k.em hpe).1; omega
  · by_cases hae:a.aa=a.To
    · omega
    · have:=k.dj a ham (max p.aa a.aa) (by omega)
      by_cases hc:a.To≤p.aa
      · exact hc
      · exfalso; exact this (by omega) ⟨by omega,by omega⟩
 have hpb:∀ b∈B,p.To≤b.aa:=fun b hb=>by
  cases hBB:B with
  | nil=>rw [hBB] at hb; exact (AW hb).elim
  | cons b0 B' =>
    have hb0:=hB b0 B' hBB
    have hbm:b0∈s.ah:=by rw [hs,hBB]; simp
    have hbb:=(h.pb b0 hbm).1
    have key:p.To≤b0.aa:=by
     unfold before at hb0
     simp only [CB,Af,BJ] at hb0
     by_cases hpe:p.aa=p.To
     · omega
     · by_cases hbe:b0.aa=b0.To
       · have:=h.fe b0 hbm (h.pf b0 hbm hbe); omega
       · have:=k.dj b0 hbm (max p.aa b0.aa) (by omega)
         by_cases hc:p.To≤b0.aa
         · exact hc
         · exfalso; exact this (by omega) ⟨by omega,by omega⟩
    rw [hBB] at hb
    rcases AF.1 hb with rfl | hb
    · exact key
    · have:=h.pw
      rw [hs,hBB] at this
      have:=(BE.1 (Bm.1 this).2.1).1 b hb
      omega
 have hpw:=Bm.1 (hs ▸ h.pw)
 refine ⟨h.b0,by show s.ag≤max s.ak p.To; omega,by rw [he]; show max s.ak p.To≤_; omega,h.en,h.dl,k.lv,fun x hx=>⟨(k.lb x hx).1,by have:=(k.lb x hx).2; show x.To≤max s.ak p.To; omega⟩,?_,fun q hq=>?_,fun q hq hqe=>?_,fun q hq n h1 h2=>?_,fun q hq hF=>?_,?_,fun hS=>?_,fun hS=>?_,fun n h1 h2=>?_⟩
 · show (A++[p]++B).Pairwise _
   rw [Bm,Bm]
   refine ⟨⟨hpw.1,by simp,fun a ha b hb=>?_⟩,hpw.2.1,fun a ha b hb=>?_⟩
   · rw [Av.1 hb]; exact hap a ha
   · rcases As.1 ha with ha | ha
     · exact hpw.2.2 a ha b hb
     · rw [Av.1 ha]; exact hpb b hb
 · rcases (hmem q).1 hq with rfl | hq
   · exact ⟨⟨k1,k2,by show q.To≤max s.ak q.To; omega⟩,k.pa⟩
   · obtain ⟨⟨a1,a2,a3⟩,a4⟩:=h.pb q hq
     exact ⟨⟨a1,a2,by show q.To≤max s.ak p.To; omega⟩,a4⟩
 · rcases (hmem q).1 hq with rfl | hq
   · exact (k.em hqe).2
   · exact h.pf q hq hqe
 · rcases (hmem q).1 hq with rfl | hq
   · intro hm; exact ((k.lm n).1 hm).2 ⟨h1,h2⟩
   · intro hm; exact h.pd q hq n h1 h2 ((k.lm n).1 hm).1
 · rcases (hmem q).1 hq with rfl | hq
   · rw [k.fi,Af,BJ] at hF; exact hF.1
   · exact h.fe q hq hF
 · show fins (A++[p]++B)=_
   have hf:fins (A++[p]++B)=fins s.ah+if p.bx=true then 1 else 0:=by
    rw [hs,wG,wG,wG]
    have:fins [p]=if p.bx=true then 1 else 0:=by unfold fins; rw [Gg]; split <;> rfl
    rw [this]; omega
   rw [hf,h.fc]
   unfold aA6
   cases hF:p.bx
   · simp
   · have hd:=k.fi
     rw [hF] at hd
     have hd2:=aNC (Af _ _ |>.mp hd.symm).2
     simp only [if_true]
     rw [Aq (by rintro ⟨x1,x2,x3⟩; rcases hd2.2.2 with x4 | x4 <;> simp_all),Az (by simp [hd2.2.1])]
 · rw [he]
   cases hF:p.bx
   · have hS:s.az=true:=by have:(if p.bx=true then true else s.az)=true:=hS; rwa [hF] at this
     obtain ⟨a1,a2,a3⟩:=h.se hS
     refine ⟨a1,by show max s.ak p.To=_; omega,?_⟩
     show ¬((if p.bx=true then false else s.ax)=true∧s.ba=true)
     rw [hF]; exact a3
   · have hd:=k.fi
     rw [hF] at hd
     have hd1:=Af _ _ |>.mp hd.symm
     have hd2:=aNC hd1.2
     refine ⟨hd2.1,by have:=of_decide_eq_true hd1.1; show max s.ak p.To=_; omega,?_⟩
     show ¬((if p.bx=true then false else s.ax)=true∧s.ba=true)
     rw [hF]; simp
 · have hS:(if p.bx=true then true else s.az)=false:=hS
   cases hF:p.bx
   · rw [hF] at hS
     have:=h.ns (by simpa using hS)
     refine ⟨?_,this.2⟩
     show (if p.bx=true then false else s.ax)=false
     rw [hF]; exact this.1
   · rw [hF] at hS; cases hS
 · have h2:n<max s.ak p.To:=h2
   by_cases hp:p.aa≤n∧n<p.To
   · exact .inr ⟨p,(hmem p).2 (.inl rfl),hp⟩
   · rcases h.cov n h1 (by omega) with hm | ⟨q,hq,hqn⟩
     · exact .inl ((k.lm n).2 ⟨hm,hp⟩)
     · exact .inr ⟨q,(hmem q).2 (.inr hq),hqn⟩
def cK (s:S23) (by_ most limit:Int):Pc:=⟨(fW s most limit).1.aa,(fW s most limit).1.To,by_,decide ((fW s most limit).1.To=endS s)&&dueS s⟩
def vU (s:S23) (p:Pc):List Iv:=if p.To≤p.aa then s.ay else cutS s.ay ⟨p.aa,p.To⟩
theorem pk_of {s:S23} (h:G s) {by_ most limit:Int} (hb:0≤by_∧by_<4) (hm:1≤most∧most≤9223372036854775807) (hl:0≤limit∧limit≤4398046511104) (his:(fW s most limit).2=true):Pk s (cK s by_ most limit) (vU s (cK s by_ most limit)):=by
 obtain ⟨n1,n2,n3,n4⟩:=h.num
 have hlost:∀ p:Pc,p.aa≤p.To→VS (vU s p)∧(∀ x∈vU s p,s.ag≤x.aa∧x.To≤s.ak)∧∀ n,mem n (vU s p)↔mem n s.ay∧¬ (p.aa≤n∧n<p.To):=fun p hp=>by
  unfold vU
  by_cases hc:p.To≤p.aa
  · rw [Az hc]
    exact ⟨h.lv,h.lb,fun n=>⟨fun hm=>⟨hm,by omega⟩,fun hm=>hm.1⟩⟩
  · rw [Aq hc]
    have hx:(⟨p.aa,p.To⟩:Iv).aa<(⟨p.aa,p.To⟩:Iv).To:=by show p.aa<p.To; omega
    refine ⟨aFu h.lv hx,fun x hxm=>?_,fun n=>aDo hx⟩
    obtain ⟨y,hy,a1,a2,a3,_⟩:=yA hxm
    have:=h.lb y hy
    omega
 unfold cK
 unfold fW at his ⊢
 cases hs:s.ay with
 | cons x r =>
   simp only []
   have hx:x∈s.ay:=by rw [hs]; simp
   have a1:=h.lv.ne x hx
   have a2:=h.lb x hx
   have hle:x.aa≤x.aa+min most (x.To-x.aa):=by omega
   obtain ⟨b1,b2,b3⟩:=hlost ⟨x.aa,x.aa+min most (x.To-x.aa),by_,decide (x.aa+min most (x.To-x.aa)=endS s)&&dueS s⟩ hle
   refine ⟨a2.1,hle,by show x.aa≤s.ak; omega,by show x.aa+min most (x.To-x.aa)≤_; omega,hb,fun he=>?_,fun q hq n h1 h2 hqn=>?_,rfl,b1,b2,b3⟩
   · have he:x.aa=x.aa+min most (x.To-x.aa):=he
     omega
   · have h1:x.aa≤n:=h1
     have h2:n<x.aa+min most (x.To-x.aa):=h2
     exact h.pd q hq n hqn.1 hqn.2 ⟨x,hx,h1,by omega⟩
 | nil =>
   rw [hs] at his
   simp only [] at his ⊢
   by_cases hc:0<endS s-s.ak
   · rw [Az hc] at his
     simp only [Az hc]
     have hn:=of_decide_eq_true his
     have hle:s.ak≤s.ak+min (min (endS s-s.ak) most) (max limit s.ak-s.ak):=by omega
     obtain ⟨b1,b2,b3⟩:=hlost ⟨s.ak,s.ak+min (min (endS s-s.ak) most) (max limit s.ak-s.ak),by_,decide (s.ak+min (min (endS s-s.ak) most) (max limit s.ak-s.ak)=endS s)&&dueS s⟩ hle
     refine ⟨n2,hle,AU _,by show s.ak+min (min (endS s-s.ak) most) (max limit s.ak-s.ak)≤_; omega,hb,fun he=>?_,fun q hq n h1 h2 hqn=>?_,rfl,b1,b2,b3⟩
     · have he:s.ak=s.ak+min (min (endS s-s.ak) most) (max limit s.ak-s.ak):=he
       omega
     · have h1:s.ak≤n:=h1
       have:=(h.pb q hq).1; omega
   · rw [Aq hc] at his
     simp only [Aq hc]
     have hd:dueS s=true:=his
     have hne:s.ak=endS s:=by omega
     obtain ⟨b1,b2,b3⟩:=hlost ⟨s.ak,s.ak,by_,decide (s.ak=endS s)&&dueS s⟩ (AU _)
     refine ⟨n2,AU _,AU _,by show s.ak≤_; omega,hb,fun he=>⟨rfl,by show (decide (s.ak=endS s)&&dueS s)=true; rw [hd,Ac hne]; rfl⟩,fun q hq n h1 h2 hqn=>?_,rfl,b1,b2,b3⟩
     have h1:s.ak≤n:=h1
     have h2:n<s.ak:=h2
     omega
theorem aAj {s:S23} (h:G s) {by_ most limit:Int} (hb:0≤by_∧by_<4) (hm:most≤9223372036854775807) (hl:0≤limit∧limit≤4398046511104) (his:most<1∨(fW s most limit).2=false):lT s by_ most limit=some (s,⟨0,0,0,false⟩,[],false):=by
 have hp:=h.pl
 have hll:=h.ll
 unfold lT mV
 rw [aEV (by omega) (by omega),bnoS]
 simp only [bndD,Ac hb.1,Ac hb.2,Bs,bnoS,Ah,BF]
 by_cases h1:most<1
 · rw [Ac h1]
   simp only [tf,gdff,bnoS,BO,aU]
 · rw [Aa h1]
   have h2:(fW s most limit).2=false:=by rcases his with h2 | h2; exact AP h2 h1; exact h2
   simp only [Ap,gdtt,xI h,bnoS,decide_true,Ah,Bc,aQ,aJE h ⟨by omega,hm⟩ hl,h2,Ba,aU]
theorem aDF {s:S23} (h:G s) {by_ most limit:Int} (hb:0≤by_∧by_<4) (hm:1≤most∧most≤9223372036854775807) (hl:0≤limit∧limit≤4398046511104) (his:(fW s most limit).2=true) :
 ∃ A B:List Pc,s.ah=A++B∧G (aA6 s (cK s by_ most limit) (vU s (cK s by_ most limit)) A B) ∧
   lT s by_ most limit=some (aA6 s (cK s by_ most limit) (vU s (cK s by_ most limit)) A B,cK s by_ most limit,(s.aj.take ((cK s by_ most limit).To-s.ag).toNat).drop ((cK s by_ most limit).aa-s.ag).toNat,true):=by
 obtain ⟨n1,n2,n3,n4⟩:=h.num
 have hp:=h.pl
 have hll:=h.ll
 have k:=pk_of h hb hm hl his
 have k1:=k.lo; have k2:=k.le; have k3:=k.nx; have k4:=k.hi
 obtain ⟨A,B,e1,e2,e3,e4⟩:=place23 h (cK s by_ most limit) (by omega) (fun _=>k4)
 have hg:=g_pick h k e1 e2 e3
 refine ⟨A,B,e1,hg,?_⟩
 have hAl:A.length≤s.ah.length:=by rw [e1]; simp
 have hcut:cut s.aj ((cK s by_ most limit).aa-s.ag) ((cK s by_ most limit).To-s.ag)=some ((s.aj.take ((cK s by_ most limit).To-s.ag).toNat).drop ((cK s by_ most limit).aa-s.ag).toNat):=by
  unfold cut; rw [Az (by unfold endS at k4; omega)]
 have hJ1:∀ (p:Pc) (S1 A1:Bool) (L:List Iv),p=cK s by_ most limit→nJ s by_ (s.ag,s.aj,s.ak,s.ah,s.ay,s.aw,s.az,s.ax,s.ba) (fW s most limit) (max s.ak (fW s most limit).1.To) L S1 A1 p.bx =
  some (⟨s.ag,s.aj,max s.ak p.To,A++[p]++B,L,s.aw,S1,A1,s.ba⟩,p,(s.aj.take (p.To-s.ag).toNat).drop (p.aa-s.ag).toNat,true):=fun p S1 A1 L hp'=>by
  have hpe:(⟨(fW s most limit).1.aa,(fW s most limit).1.To,by_,p.bx⟩:Pc)=p:=by rw [hp']; rfl
  have hto:(fW s most limit).1.To=p.To:=by rw [hp']; rfl
  have hpe2:(⟨p.aa,p.To,by_,p.bx⟩:Pc)=p:=by rw [hp']; rfl
  have hfr:(fW s most limit).1.aa=p.aa:=by rw [hp']; rfl
  rw [←hp'] at e4 hcut k1 k2 k3 k4
  unfold nJ
  simp only [hpe,hto,hfr,hpe2,e4,bnoS,dN]
  rw [insS_ok (by omega) (by omega) (by simp; omega) (by simp; omega),bnoS]
  simp only [bndD,w64 (show -9223372036854775808≤p.aa-s.ag by omega) (by omega),w64 (show -9223372036854775808≤p.To-s.ag by omega) (by omega),hcut,bnoS,Au]
  rw [show s.ah.take A.length=A by rw [e1]; simp,show s.ah.drop A.length=B by rw [e1]; simp]
 have hJ0:∀ L:List Iv,rK s by_ (s.ag,s.aj,s.ak,s.ah,s.ay,s.aw,s.az,s.ax,s.ba) (fW s most limit) (max s.ak (fW s most limit).1.To) L =
  some (⟨s.ag,s.aj,max s.ak (cK s by_ most limit).To,A++[cK s by_ most limit]++B,L,s.aw,if (cK s by_ most limit).bx=true then true else s.az,if (cK s by_ most limit).bx=true then false else s.ax,s.ba⟩,cK s by_ most limit,(s.aj.take ((cK s by_ most limit).To-s.ag).toNat).drop ((cK s by_ most limit).aa-s.ag).toNat,true):=fun L=>by
  have hfin:∀ {β:Type} (g:Bool→Ad β),(bno (gd (decide ((fW s most limit).1.To=endS s) == true) (some (dueS s)) default) fun x32=>g (decide ((fW s most limit).1.To=endS s)&&x32))=g (cK s by_ most limit).bx:=fun g=>by
   show _=g (decide ((fW s most limit).1.To=endS s)&&dueS s)
   cases decide ((fW s most limit).1.To=endS s) <;> rfl
  unfold rK
  simp only [uH h,bnoS,bndD,due23]
  rw [hfin (fun z=>bif z then nJ s by_ (s.ag,s.aj,s.ak,s.ah,s.ay,s.aw,s.az,s.ax,s.ba) (fW s most limit) (max s.ak (fW s most limit).1.To) L true false z else nJ s by_ (s.ag,s.aj,s.ak,s.ah,s.ay,s.aw,s.az,s.ax,s.ba) (fW s most limit) (max s.ak (fW s most limit).1.To) L s.az s.ax z)]
  have a1:=hJ1 _ true false L rfl
  have a2:=hJ1 _ s.az s.ax L rfl
  cases hF:(cK s by_ most limit).bx
  · rw [hF] at a2; rw [aQ,a2]; rfl
  · rw [hF] at a1; rw [aU,a1]; rfl
 unfold lT mV
 rw [aEV (by omega) (by omega),bnoS]
 simp only [bndD,Ac hb.1,Ac hb.2,Bs,bnoS,Ah,BF,Aa (show ¬most<1 by omega),Ap,gdtt,xI h,decide_true,Bc,aQ,aJE h hm hl,his]
 unfold iJ
 have hpf:(cK s by_ most limit).aa=(fW s most limit).1.aa:=rfl
 have hpt:(cK s by_ most limit).To=(fW s most limit).1.To:=rfl
 by_cases hc:(fW s most limit).1.aa<(fW s most limit).1.To
 · rw [Ac hc,aU,bnoS]
   simp only []
   rw [aKC (x:=(⟨(fW s most limit).1.aa,(fW s most limit).1.To⟩:Iv)) (by omega) h.lv ⟨by show 0≤(fW s most limit).1.aa; omega,by show (fW s most limit).1.aa≤_; omega,by show 0≤(fW s most limit).1.To; omega,by show (fW s most limit).1.To≤_; omega⟩,bnoS]
   exact hJ0 _
 · rw [Aa hc,aQ]
   have hL:vU s (cK s by_ most limit)=s.ay:=by unfold vU; rw [Az (by omega)]
   have:=hJ0 s.ay
   rw [hL]
   exact this
end Go.Fn
open Bool renaming not_eq_true → Ia,or_false → Cr
open List renaming filter_eq_nil_iff → Gj,filter_filter → Hy,length_map → Bf,map_append → BR,mem_map → AL
open Go Go.IL
namespace Go.Fn
def cmap (b:Int) (fin:Bool) (p:Pc):Pc:=⟨max p.aa b,max p.To b,p.bu,p.bx && !fin⟩
def yE (p:Pc):Bool:=decide (p.aa=p.To) && !p.bx
def aCK (l:List Iv) (b:Int):List Iv:=if b≤0 then l else cutS l ⟨0,b⟩
def aB9 (s:S23) (n:Int) (fin:Bool):S23:=⟨max n s.ag,s.aj.drop (max n s.ag-s.ag).toNat,s.ak,(s.ah.map (cmap (max n s.ag) fin)).filter (fun p=>!yE p),aCK s.ay (max n s.ag),s.aw,s.az,if fin=true then false else s.ax,if fin=true then true else s.ba⟩
def uJ (s:S23) (n:Int) (fin:Bool):Prop:=0≤n∧n≤s.ak∧(fin=true→n=endS s∧s.az=true)
instance (s:S23) (n:Int) (fin:Bool):Decidable (uJ s n fin):=by unfold uJ; infer_instance
theorem delC {l:List Pc} (hl:l.length≤100000):cG l=some (l.filter fun y=>!yE y) :=
 yO (P:=fun x=>tM x) (q:=yE) (I:=cF l) (L:=bA) (fun _=>rfl) (fun _ _=>rfl) (fun _ _ _ _=>rfl) hl
theorem delD {l:List Pc} {k:Int} (hl:l.length≤100000):bU l k=some (l.filter fun y=>!decide (y.bu=k)) :=
 yO (P:=fun x=>pG x k) (q:=fun y=>decide (y.bu=k)) (I:=cE l k) (L:=aZ k) (fun _=>rfl) (fun _ _=>rfl) (fun _ _ _ _=>rfl) hl
theorem set_at {α:Type} {p r:List α} {x y:α}:(p++x::r).set p.length y=p++y::r:=by rw [CG _ _ (AJ _)]; simp
theorem get_at {α:Type} {p r:List α} {x:α}:(p++x::r)[p.length]? = some x:=by rw [Bg (AJ _)]; simp
def tup (s:S23):(Int×(List Ai)×Int×(List aD)×(List aC)×Bool×Bool×Bool×Bool):=(s.ag,s.aj,s.ak,s.ah,s.ay,s.aw,s.az,s.ax,s.ba)
theorem aNH {s:S23} (h:G s) {n:Int} {fin:Bool} (hn:uJ s n fin):∀ (r p:List Pc) (f:Nat),s.ah=p++r→r.length<f→mD s fin (tup s) (max n s.ag) f (p.length:Int) (p.map (cmap (max n s.ag) fin)++r)=some (aB9 s n fin)
 | [],p,f+1,hs,_=>by
   obtain ⟨n1,n2,n3,n4⟩:=h.num
   obtain ⟨c1,c2,c3⟩:=hn
   have hpl:=h.pl
   have hll:=h.ll
   have hlen:p.length=s.ah.length:=by rw [hs]; simp
   rw [AQ] at hs
   unfold mD
   have hcut:cut s.aj (max n s.ag-s.ag) (s.aj.length:Int)=some (s.aj.drop (max n s.ag-s.ag).toNat):=by
    unfold cut
    unfold endS at n3
    rw [Az (by omega),Au,AM]
   rw [AQ,←hs]
   have hlt:decide ((s.ah.length:Int)<((tup s).2.2.2.1.length:Int))=false:=uE
   have hL:(tup s).2.2.2.2.1=s.ay:=rfl
   simp only [bndD,hlt,aQ]
   rw [delC (by rw [Bf]; omega),bnoS,w64 (by omega) (by omega),hcut,bnoS,hL,aKC (x:=(⟨0,max n s.ag⟩:Iv)) (by omega) h.lv ⟨AU _,by show (0:Int)≤_; decide,by show 0≤max n s.ag; omega,by show max n s.ag≤_; omega⟩,bnoS]
   unfold aB9 aCK
   cases fin <;> rfl
 | x::r,p,f+1,hs,hf=>by
   have hpl:=h.pl
   have hpp:p.length+(r.length+1)=s.ah.length:=by rw [hs]; simp
   have ih:=aNH h hn r (p++[x]) f (pK hs) (by simpa using hf)
   unfold mD
   have hlt:decide ((p.length:Int)<((tup s).2.2.2.1.length:Int))=true:=iS hs
   have hm:(p.map (cmap (max n s.ag) fin)).length=p.length:=Bf _
   have hg:∀ y:Pc,(p.map (cmap (max n s.ag) fin)++y::r)[((p.length:Int)).toNat]? = some y:=fun y=>by rw [Au,←hm]; exact get_at
   have hst:∀ y z:Pc,(p.map (cmap (max n s.ag) fin)++y::r).set ((p.length:Int)).toNat z=p.map (cmap (max n s.ag) fin)++z::r:=fun y z=>by rw [Au,←hm]; exact set_at
   have hgx:gix (p.map (cmap (max n s.ag) fin)++x::r) (p.length:Int)=some x:=by rw [←hm]; exact cX rfl
   simp only [bndD,hlt,aU,hgx,hg,hst,bnoS,w_at hs (show s.ah.length≤1000000 by omega)]
   rw [BR,Ax] at ih
   exact ih
theorem came23 {s:S23} (h:G s) (n:Int) (fin:Bool):uX s n fin=some (if uJ s n fin then aB9 s n fin else s):=by
 have hp:=h.pl
 have hl:=h.ll
 unfold uX
 rw [aEV (by omega) (by omega),bnoS,xI h,bnoS]
 simp only [bndD,decide_true,Ah,BF]
 by_cases hc:uJ s n fin
 · obtain ⟨c1,c2,c3⟩:=hc
   rw [Az ⟨c1,c2,c3⟩,Aa (show ¬n<0 by omega),Aa (show ¬s.ak<n by omega)]
   have:=aNH h ⟨c1,c2,c3⟩ s.ah [] fuel rfl (bK (by omega))
   cases fin
   · simp only [Bc,Ap,ft,Ca,gdff,bnoS,AN,aQ]
     exact this
   · obtain ⟨c4,c5⟩:=c3 rfl
     have hx:(!decide (n=endS s) || !s.az)=false:=by rw [Ac c4,c5]; rfl
     simp only [Bc,Ap,Bs,gdtt,uH h,bnoS,hx,Ca,aQ]
     exact this
 · rw [Aq hc]
   by_cases c1:n<0
   · rw [Ac c1]
     simp only [BO,tf,AN,gdff,bnoS,aU]
   · by_cases c2:s.ak<n
     · rw [Ac c2]
       simp only [DU,BO,tf,AN,gdff,bnoS,aU]
     · cases fin
       · exact AP ⟨by omega,by omega,fun h=>(by cases h)⟩ hc
       · have:(!decide (n=endS s) || !s.az)=true:=by
          cases hS:s.az
          · simp
          · by_cases c3:n=endS s
            · exact AP ⟨by omega,by omega,fun _=>⟨c3,hS⟩⟩ hc
            · rw [Aa c3]; rfl
         rw [Aa c1,Aa c2]
         simp only [Bc,Ap,Bs,gdtt,uH h,bnoS,this,Cw,DU,aU]
theorem aEY {l:List Iv} {b:Int} (hl:∀ x∈l,0≤x.aa) {n:Int}:mem n (aCK l b)↔mem n l∧b≤n:=by
 unfold aCK
 split
 · refine ⟨fun hm=>⟨hm,?_⟩,fun hm=>hm.1⟩
   obtain ⟨x,hx,h1,h2⟩:=hm
   have:=hl x hx; omega
 · rw [aDo (by show 0<b; omega)]
   refine ⟨fun hm=>⟨hm.1,?_⟩,fun hm=>⟨hm.1,by have:=hm.2; show ¬(0≤n∧n<b); omega⟩⟩
   obtain ⟨x,hx,h1,h2⟩:=hm.1
   have:=hl x hx
   have h3:¬ (0≤n∧n<b):=hm.2
   omega
theorem aLl (b:Int) (l:List Pc):fins ((l.map (cmap b false)).filter (fun p=>!yE p))=fins l:=by
 unfold fins
 rw [Hy,List.filter_map,Bf]
 congr 1
 apply List.filter_congr
 intro p _
 unfold yE cmap
 cases hp:p.bx <;> simp [hp]
theorem aAY {s:S23} {b:Int} {fin:Bool} {q:Pc} (hq:q∈(s.ah.map (cmap b fin)).filter (fun p=>!yE p)):∃ p∈s.ah,q=cmap b fin p∧(q.aa=q.To→q.bx=true):=by
 obtain ⟨h1,h2⟩:=DW.1 hq
 obtain ⟨p,hp,rfl⟩:=AL.1 h1
 refine ⟨p,hp,rfl,fun he=>?_⟩
 unfold yE at h2
 rw [Ac he] at h2
 simpa using h2
theorem aLr {s:S23} (h:G s) {n:Int} {fin:Bool} (hc:uJ s n fin):endS (aB9 s n fin)=endS s:=by
 obtain ⟨n1,n2,n3,n4⟩:=h.num
 obtain ⟨c1,c2,c3⟩:=hc
 unfold endS at n3
 show max n s.ag+((s.aj.drop (max n s.ag-s.ag).toNat).length:Int)=s.ag+_
 rw [AA]; omega
theorem g_came {s:S23} (h:G s) {n:Int} {fin:Bool} (hc:uJ s n fin):G (aB9 s n fin):=by
 obtain ⟨n1,n2,n3,n4⟩:=h.num
 have he:=aLr h hc
 obtain ⟨c1,c2,c3⟩:=hc
 have hd:=h.dl
 refine ⟨by show 0≤max n s.ag; omega,by show max n s.ag≤s.ak; omega,by rw [he]; exact n3,by rw [he]; exact n4,by show (s.aj.drop _).length≤_; rw [AA]; omega,?_,fun x hx=>?_,?_,fun q hq=>?_,fun q hq=>?_,fun q hq m h1 h2=>?_,fun q hq hF=>?_,?_,fun hS=>?_,fun hS=>?_,fun m h1 h2=>?_⟩
 · show VS (aCK s.ay (max n s.ag))
   unfold aCK
   split
   · exact h.lv
   · exact aFu h.lv (by show 0<max n s.ag; omega)
 · have hx:x∈aCK s.ay (max n s.ag):=hx
   show max n s.ag≤x.aa∧x.To≤s.ak
   unfold aCK at hx
   split at hx
   · have:=h.lb x hx; omega
   · obtain ⟨y,hy,a1,a2,a3,a4⟩:=yA hx
     have:=h.lb y hy
     have a4:x.To≤0∨max n s.ag≤x.aa:=a4
     omega
 · show ((s.ah.map (cmap (max n s.ag) fin)).filter (fun p=>!yE p)).Pairwise _
   refine List.Pairwise.filter _ ?_
   rw [List.pairwise_map]
   exact h.pw.imp fun {a b} hab=>by show max a.To _≤max b.aa _; omega
 · obtain ⟨p,hp,rfl,_⟩:=aAY hq
   obtain ⟨⟨a1,a2,a3⟩,a4⟩:=h.pb p hp
   exact ⟨⟨by show max n s.ag≤max p.aa _; omega,by show max p.aa _≤max p.To _; omega,by show max p.To _≤s.ak; omega⟩,a4⟩
 · obtain ⟨p,hp,rfl,h1⟩:=aAY hq
   exact h1
 · obtain ⟨p,hp,rfl,_⟩:=aAY hq
   have h1:max p.aa (max n s.ag)≤m:=h1
   have h2:m<max p.To (max n s.ag):=h2
   intro hm
   have hm:mem m (aCK s.ay (max n s.ag)):=hm
   exact h.pd p hp m (by omega) (by omega) ((aEY h.lv.lo).1 hm).1
 · obtain ⟨p,hp,rfl,_⟩:=aAY hq
   have hF:(p.bx && !fin)=true:=hF
   rw [he]
   show max p.To _=_
   rw [h.fe p hp (Af _ _ |>.mp hF).1]; omega
 · show fins ((s.ah.map (cmap (max n s.ag) fin)).filter (fun p=>!yE p))=_
   cases fin
   · rw [aLl,h.fc]; rfl
   · have h0:fins ((s.ah.map (cmap (max n s.ag) true)).filter (fun p=>!yE p))=0:=by
      unfold fins
      rw [Bh,Gj]
      intro q hq hF
      obtain ⟨p,hp,rfl,_⟩:=aAY hq
      have hF:(p.bx && !true)=true:=hF
      simp at hF
     rw [h0,Aq]
     rintro ⟨x1,x2,x3⟩
     have x3:(if true=true then true else s.ba)=false:=x3
     simp at x3
 · obtain ⟨a1,a2,a3⟩:=h.se hS
   refine ⟨a1,by rw [he]; exact a2,?_⟩
   show ¬((if fin=true then false else s.ax)=true∧(if fin=true then true else s.ba)=true)
   cases fin
   · exact a3
   · simp
 · have hS:s.az=false:=hS
   cases fin
   · exact h.ns hS
   · have h5:s.az=true:=(c3 rfl).2
     exact AP (hS.symm.trans h5) (by decide)
 · have h1:max n s.ag≤m:=h1
   have h2:m<s.ak:=h2
   rcases h.cov m (by omega) h2 with hm | ⟨p,hp,hpm⟩
   · exact .inl ((aEY h.lv.lo).2 ⟨hm,h1⟩)
   · refine .inr ⟨cmap (max n s.ag) fin p,DW.2 ⟨AL.2 ⟨p,hp,rfl⟩,?_⟩,by show max p.aa _≤m; omega,by show m<max p.To _; omega⟩
     show (!(decide (max p.aa (max n s.ag)=max p.To (max n s.ag)) && !(p.bx && !fin)))=true
     rw [Aa (show ¬max p.aa (max n s.ag)=max p.To (max n s.ag) by omega)]; rfl
theorem pw_ne {l:List Pc} (h:l.Pairwise (fun p q=>p.To≤q.aa)) {p q:Pc} (hp:p∈l) (hq:q∈l) (hne:p≠q):p.To≤q.aa∨q.To≤p.aa:=by
 induction l with
 | nil=>exact (AW hp).elim
 | cons x l ih =>
   have h:=BE.1 h
   rcases AF.1 hp with h1 | h1
   · rcases AF.1 hq with h2 | h2
     · exact AP (h1.trans h2.symm) hne
     · rw [h1]; exact .inl (h.1 q h2)
   · rcases AF.1 hq with h2 | h2
     · rw [h2]; exact .inr (h.1 p h1)
     · exact ih h.2 h1 h2
def anyD (l:List Pc) (k:Int):Bool:=l.any fun p=>decide (p.bu=k)&&p.bx
structure DL (s:S23) (p:List Pc) (k:Int) (L:List Iv):Prop where
 lv:VS L
 lb:∀ x∈L,s.ag≤x.aa∧x.To≤s.ak
 lm:∀ n,mem n L↔mem n s.ay∨∃ q∈p,q.bu=k∧q.aa≤n∧n<q.To
 le:(∀ q∈p,q.bu=k→q.aa=q.To)→L=s.ay
theorem aFH {L:List Iv} {a b:Int} (h:VS L) (hm:∀ n,mem n L→a≤n∧n<b):∀ x∈L,a≤x.aa∧x.To≤b:=fun x hx=>by
 have h0:=h.ne x hx
 have h1:=hm x.aa ⟨x,hx,by omega,by omega⟩
 have h2:=hm (x.To-1) ⟨x,hx,by omega,by omega⟩
 omega
theorem DL.len {s:S23} (h:G s) {p:List Pc} {k:Int} {L:List Iv} (d:DL s p k L):L.length≤4096:=by
 have h1:=aF4 d.lv.pw d.lv.ne d.lb h.bn
 have h2:=h.nd
 have h3:=h.dl
 unfold endS at h2; omega
def aFs (s:S23) (k:Int) (L:List Iv):S23:=⟨s.ag,s.aj,s.ak,s.ah.filter (fun y=>!decide (y.bu=k)),L,s.aw,s.az,s.ax||anyD s.ah k,s.ba⟩
theorem aKB {s:S23} (h:G s) (k:Int):∀ (r p:List Pc) (f:Nat) (L:List Iv),s.ah=p++r→r.length<f→DL s p k L→∃ L',DL s s.ah k L'∧nK s k (tup s) f (p.length:Int) L (s.ax||anyD p k)=some (aFs s k L')
 | [],p,f+1,L,hs,_,d=>by
   have hpl:=h.pl
   rw [AQ] at hs
   rw [←hs] at d ⊢
   refine ⟨L,d,?_⟩
   unfold nK
   simp only [tup,bndD,uE,aQ,delD (show s.ah.length≤100000 by omega),bnoS]
   rfl
 | x :: r, p, f+1,L,hs,hf,d=>by
   have hx:x∈s.ah:=by rw [hs]; simp
   have hpl:=h.pl
   obtain ⟨n1,n2,n3,n4⟩:=h.num
   obtain ⟨⟨a1,a2,a3⟩,a4⟩:=h.pb x hx
   have hd1:pG x k=some (decide (x.bu=k)):=rfl
   have hany:anyD (p++[x]) k=(anyD p k||(decide (x.bu=k)&&x.bx)):=by unfold anyD; rw [List.any_append]; simp
   unfold nK
   simp only [bndD,iS hs,aU,cX hs,bnoS,hd1,w_at hs (show s.ah.length≤1000000 by omega)]
   by_cases hk:x.bu=k
   · have hdl := d.len h
     obtain ⟨t,e1,e2,e3,e4,e5⟩:=aNK (s:=L) (x:=(⟨x.aa,x.To⟩:Iv)) (by omega) d.lv (by show 0≤x.aa; omega) (by show x.To≤_; omega) a2
     have hb:∀ y∈t,s.ag≤y.aa∧y.To≤s.ak:=aFH e2 fun n hm=>by
      rcases (e3 n).1 hm with hm | hm
      · obtain ⟨y,hy,h1,h2⟩:=hm
        have:=d.lb y hy; omega
      · have:x.aa≤n∧n<x.To:=hm
        omega
     have d2:DL s (p++[x]) k t:=by
      refine ⟨e2,hb,fun n=>?_,fun hq=>?_⟩
      · rw [e3,d.lm]
        constructor
        · rintro ((h1 | ⟨q,hq,h2⟩) | h1)
          · exact .inl h1
          · exact .inr ⟨q,by simp [hq],h2⟩
          · exact .inr ⟨x,by simp,hk,h1⟩
        · rintro (h1 | ⟨q,hq,h2⟩)
          · exact .inl (.inl h1)
          · rcases As.1 hq with hq | hq
            · exact .inl (.inr ⟨q,hq,h2⟩)
            · rw [Av.1 hq] at h2
              exact .inr h2.2
      · rw [e4 (hq x (by simp) hk)]
        exact d.le fun q hq'=>hq q (by simp [hq'])
     have ih:=aKB h k r (p++[x]) f t (pK hs) (by simpa using hf) d2
     rw [hany,Ac hk,Bn,←Bool.or_assoc] at ih
     rw [Ac hk,aU]
     unfold iJ
     simp only [bnoS,e1]
     exact ih
   · have d2:DL s (p++[x]) k L:=by
      refine ⟨d.lv,d.lb,fun n=>?_,fun hq=>d.le fun q hq'=>hq q (by simp [hq'])⟩
      rw [d.lm]
      constructor
      · rintro (h1 | ⟨q,hq,h2⟩)
        · exact .inl h1
        · exact .inr ⟨q,by simp [hq],h2⟩
      · rintro (h1 | ⟨q,hq,h2⟩)
        · exact .inl h1
        · rcases As.1 hq with hq | hq
          · exact .inr ⟨q,hq,h2⟩
          · rw [Av.1 hq] at h2
            exact AP h2.1 hk
     have ih:=aKB h k r (p++[x]) f L (pK hs) (by simpa using hf) d2
     rw [hany,Aa hk,AN,Cr] at ih
     rw [Aa hk,aQ]
     exact ih
theorem dead23 {s:S23} (h:G s) (k:Int):∃ L,DL s s.ah k L∧zP s k=some (aFs s k L):=by
 have hp:=h.pl
 have hl:=h.ll
 obtain ⟨L,d,e⟩:=aKB h k s.ah [] fuel s.ay rfl (bK (by omega)) ⟨h.lv,h.lb,fun n=>by simp,fun _=>rfl⟩
 refine ⟨L,d,?_⟩
 unfold zP
 rw [aEV (by omega) (by omega),bnoS,xI h,bnoS]
 simp only [bndD,decide_true,Ah,aQ]
 rw [show anyD [] k=false from rfl,Cr] at e
 exact e
theorem aCh (l:List Pc) (k:Int):fins l=fins (l.filter fun y=>!decide (y.bu=k))+(l.filter fun p=>decide (p.bu=k)&&p.bx).length:=by
 unfold fins
 rw [Hy]
 induction l with
 | nil=>rfl
 | cons x l ih =>
   simp only [Gg]
   cases hF:x.bx <;> by_cases hk:x.bu=k <;> simp [hF,hk] <;> omega
theorem g_dead {s:S23} (h:G s) {k:Int} {L:List Iv} (d:DL s s.ah k L):G (aFs s k L):=by
 obtain ⟨n1,n2,n3,n4⟩:=h.num
 have hmem:∀ q,q∈s.ah.filter (fun y=>!decide (y.bu=k))↔q∈s.ah∧q.bu≠k:=fun q=>by rw [DW]; simp
 have hany:anyD s.ah k=true→s.az=true∧s.ax=false∧s.ba=false∧fins (s.ah.filter fun y=>!decide (y.bu=k))=0:=fun ha=>by
  unfold anyD at ha
  obtain ⟨p,hp,hpk⟩:=Fe.1 ha
  have h1:0<(s.ah.filter fun p=>decide (p.bu=k)&&p.bx).length:=List.length_pos_of_mem (DW.2 ⟨hp,hpk⟩)
  have h2:=aCh s.ah k
  have h3:=h.fc
  by_cases hc:s.az=true∧s.ax=false∧s.ba=false
  · rw [Az hc] at h3
    exact ⟨hc.1,hc.2.1,hc.2.2,by rw [h3] at h2; generalize fins (s.ah.filter fun y=>!decide (y.bu=k))=a at *; generalize (s.ah.filter fun p=>decide (p.bu=k)&&p.bx).length=b at *; clear h; omega⟩
  · rw [Aq hc] at h3; rw [h3] at h2; generalize fins (s.ah.filter fun y=>!decide (y.bu=k))=a at *; generalize (s.ah.filter fun p=>decide (p.bu=k)&&p.bx).length=b at *; clear h; omega
 have hno:anyD s.ah k=false→fins (s.ah.filter fun y=>!decide (y.bu=k))=fins s.ah:=fun ha=>by
  have h2:=aCh s.ah k
  have h1:(s.ah.filter fun p=>decide (p.bu=k)&&p.bx)=[]:=by
   rw [Gj]
   intro p hp
   exact Ia _ |>.mpr (Dg.1 ha p hp |> fun h=>by simpa using h)
  rw [h1] at h2; simpa using h2.symm
 refine ⟨h.b0,h.bn,h.nd,h.en,h.dl,d.lv,d.lb,List.Pairwise.filter _ h.pw,fun q hq=>h.pb q ((hmem q).1 hq).1,fun q hq=>h.pf q ((hmem q).1 hq).1,fun q hq m h1 h2 hm=>?_,fun q hq=>h.fe q ((hmem q).1 hq).1,?_,fun hS=>?_,fun hS=>?_,fun m h1 h2=>?_⟩
 · obtain ⟨q1,q2⟩:=(hmem q).1 hq
   rcases (d.lm m).1 hm with hm | ⟨p,hp,hpk,h3,h4⟩
   · exact h.pd q q1 m h1 h2 hm
   · have hne:p≠q:=fun e=>q2 (e ▸ hpk)
     have:=pw_ne h.pw hp q1 hne
     omega
 · show fins (s.ah.filter fun y=>!decide (y.bu=k))=if s.az=true∧(s.ax||anyD s.ah k)=false∧s.ba=false then 1 else 0
   cases ha:anyD s.ah k
   · rw [hno ha,h.fc,Cr]
   · rw [(hany ha).2.2.2,DU]; simp
 · obtain ⟨a1,a2,a3⟩:=h.se hS
   refine ⟨a1,a2,?_⟩
   show ¬((s.ax||anyD s.ah k)=true∧s.ba=true)
   cases ha:anyD s.ah k
   · rw [Cr]; exact a3
   · rw [(hany ha).2.2.1]; simp
 · have hS:s.az=false:=hS
   obtain ⟨a1,a2⟩:=h.ns hS
   refine ⟨?_,a2⟩
   show (s.ax||anyD s.ah k)=false
   cases ha:anyD s.ah k
   · rw [a1]; rfl
   · have:=(hany ha).1; rw [hS] at this; cases this
 · rcases h.cov m h1 h2 with hm | ⟨p,hp,hpm⟩
   · exact .inl ((d.lm m).2 (.inl hm))
   · by_cases hk:p.bu=k
     · exact .inl ((d.lm m).2 (.inr ⟨p,hp,hk,hpm⟩))
     · exact .inr ⟨p,(hmem p).2 ⟨hp,hk⟩,hpm⟩
end Go.Fn
open Go Go.IL
namespace Go.Fn
structure Went (s s':S23):Prop where
 g:G s'
 base:s.ag≤s'.ag
 data:s'.aj=s.aj.drop (s'.ag-s.ag).toNat
 next:s.ak≤s'.ak
 done:s.ba=true→s'.ba=true
 en:endS s'=endS s
theorem Went.refl {s:S23} (h:G s):Went s s:=⟨h,AU _,by simp,AU _,id,rfl⟩
theorem want23 {s:S23} (h:G s) {limit:Int} (hl:0≤limit∧limit≤4398046511104):zN s limit=some (fW s 1 limit).2:=by
 unfold zN
 rw [xI h,bnoS]
 simp only [bndD,decide_true,Ah,aQ,aJE h (show (1:Int)≤1∧(1:Int)≤9223372036854775807 by decide) hl,bnoS]
structure All (s:S23) (all:List Ai):Prop where
 g:G s
 data:s.aj=all.drop s.ag.toNat
 len:(all.length:Int)=endS s
end Go.Fn
open Go Go.IL
namespace Go.Fn
end Go.Fn
open Go Go.IL
namespace Go.Fn
theorem pcsame {l m:List Pc} (hl:l.length≤1000000):fU l m=some (decide (l=m)):=by
 have heq:∀ x y:Pc,(decide (x.aa=y.aa)&&(decide (x.To=y.To)&&(decide (x.bu=y.bu)&&((x.bx == y.bx)&&true))))=decide (x=y):=fun x y=>by
  obtain ⟨a,b,c,d⟩:=x; obtain ⟨e,f,g,h⟩:=y; rw [BZ]; simp
 have:=vH (L:=cA l m) (m:=m) (z:=true) hl (fun p x r s y t f h k e=>by
  rw [cA]
  simp only [bndD,iS h,aU,cX h,show gix m (p.length:Int)=some y by rw [e]; exact cX k,bnoS,heq,w_at h hl]) (fun _ f=>by
  rw [cA]
  simp only [bndD,uE,aQ])
 rw [Cw] at this
 exact this
end Go.Fn
open Go Go.IL
namespace Go.Fn
def sl (W:List Ai) (a b:Int):List Ai:=(W.take b.toNat).drop a.toNat
theorem sl_take (W:List Ai) (b:Int):sl W 0 b=W.take b.toNat:=by unfold sl; simp
end Go.Fn
open Go Go.IL
namespace Go.Fn
def jB (u:Iv):List Iv→Iv×List Iv
 | []=>(u,[])
 | p::r=>if u.To<p.aa then (u,p::r) else jB ⟨min u.aa p.aa,max u.To p.To⟩ r
structure Jd (u:Iv) (R:List Iv) (v:Iv) (C:List Iv) (B:List Iv):Prop where
 sp:R=B++C
 f:v.aa≤u.aa
 t:u.To≤v.To
 c:∀ y∈C,v.To<y.aa
 m:∀ n,(v.aa≤n∧n<v.To)↔((u.aa≤n∧n<u.To)∨mem n B)
 vf:v.aa=u.aa∨∃ y∈B,v.aa=y.aa
 vt:v.To=u.To∨∃ y∈B,v.To=y.To
theorem mem_cons {n:Int} {y:Iv} {p:List Iv}:mem n (y::p)↔(y.aa≤n∧n<y.To)∨mem n p:=by
 unfold mem
 constructor
 · rintro ⟨x,hx,h⟩
   rcases AF.1 hx with rfl | hx
   · exact .inl h
   · exact .inr ⟨x,hx,h⟩
 · rintro (h | ⟨x,hx,h⟩)
   · exact ⟨y,by simp,h⟩
   · exact ⟨x,by simp [hx],h⟩
def jA (x:Iv) (l:List Iv):List Iv:=l.takeWhile fun p=>decide (p.To<x.aa)
def jR (x:Iv) (l:List Iv):List Iv:=l.dropWhile fun p=>decide (p.To<x.aa)
def joinI (x:Iv) (l:List Iv):List Iv:=jA x l++[(jB x (jR x l)).1]++(jB x (jR x l)).2
structure Joined (x:Iv) (l:List Iv) (A:List Iv) (v:Iv) (B C:List Iv):Prop where
 e:joinI x l=A++[v]++C
 sp:l=A++(B++C)
 j:Jd x (B++C) v C B
 a:∀ y∈A,y.To<x.aa
 av:∀ y∈A,y.To<v.aa
def aCD (b:Int) (l:List Iv) (h:Int):Prop:=b≤h∧(∀ y∈l,y.To≤h)∧(h=b∨∃ y∈l,y.To=h)
theorem aCD.uniq {b:Int} {l:List Iv} {h k:Int} (p:aCD b l h) (q:aCD b l k):h=k:=by
 obtain ⟨p1,p2,p3⟩:=p
 obtain ⟨q1,q2,q3⟩:=q
 have a:h≤k:=by
  rcases p3 with e | ⟨y,hy,e⟩
  · omega
  · have:=q2 y hy; omega
 have b:k≤h:=by
  rcases q3 with e | ⟨y,hy,e⟩
  · omega
  · have:=p2 y hy; omega
 omega
end Go.Fn
open Go Go.IL
namespace Go.Fn
abbrev Pt:=aL
abbrev R12:=aH
def pt (W:List Ai) (x:Iv):Pt:=⟨x.aa,sl W x.aa x.To⟩
structure RQ (W:List Ai) (I:List Iv) (s:R12):Prop where
 wl:W.length≤100000
 b0:0≤s.ag
 bw:s.ag≤(W.length:Int)
 rl:(s.ap.length:Int)≤s.ag
 rm:s.ap.length≤4096
 rd:s.ap=sl W (s.ag-s.ap.length) s.ag
 ps:s.ao=I.map (pt W)
 vs:VS I
 ib:∀ x∈I,s.ag<x.aa∧x.To≤(W.length:Int)
 lim:∀ x∈I,x.To≤s.ag-s.ap.length+4096
theorem RQ.il {W:List Ai} {I:List Iv} {s:R12} (h:RQ W I s):I.length≤100000:=by
 have:=aF4 h.vs.pw h.vs.ne (fun x hx=>⟨by have:=(h.ib x hx).1; omega,(h.ib x hx).2⟩) h.bw
 have:=h.wl; have:=h.b0
 omega
theorem RQ.pl {W:List Ai} {I:List Iv} {s:R12} (h:RQ W I s):s.ao.length≤100000:=by rw [h.ps,Bf]; exact h.il
theorem aGG {l:List Pt} (hl:l.length≤100000):bX l=some l:=by
 unfold bX
 have h:(bno (app 24 ([]:(List aL)) l) fun x3=>some x3)=some l:=by
  rw [dU (by simp; omega) (by simp; omega),bnoS,AE]
 rw [h,yB]
 rintro rfl; rfl
theorem aM3 {s:R12} (hl:s.ao.length≤100000):∀ (r p:List Pt) (f:Nat) (v:Int),s.ao=p++r→r.length<f→∃ n,oF s f v (p.length:Int)=some n
 | [],p,f+1,v,hs,_=>by
   unfold oF
   simp only [bndD,jC hs,aQ]
   exact ⟨_,rfl⟩
 | x::r,p,f+1,v,hs,hf=>by
   unfold oF
   simp only [bndD,iS hs,aU,cX hs,bnoS,w_at hs (by omega)]
   exact aM3 hl r (p++[x]) f _ (pK hs) (by simpa using hf)
theorem held {s:R12} (hl:s.ao.length≤100000):∃ n,uY s=some n:=aM3 hl s.ao [] fuel _ rfl (bK (by omega))
structure JI (W:List Ai) (I:List Iv):Prop where
 wl:W.length≤100000
 il:I.length≤100000
 pw:I.Pairwise (fun x y=>x.To<y.aa)
 ne:∀ x∈I,x.aa<x.To
 lo:∀ x∈I,0≤x.aa
 hi:∀ x∈I,x.To≤(W.length:Int)
end Go.Fn
open Go Go.IL
namespace Go.Fn
structure Puts (W:List Ai) (s s':R12) (I I':List Iv) (at_ to:Int):Prop where
 rq:RQ W I' s'
 rd:s'.ag-s'.ap.length=s.ag-s.ap.length
 hi:∀ h,aCD s.ag I h→aCD s'.ag I' (if at_<to then max h to else h)
 bs:s.ag≤s'.ag
 hs:∀ n,(n<s.ag∨mem n I∨(at_≤n∧n<to))→n<s'.ag∨mem n I'
 hc:∀ n,(n<s'.ag∨mem n I')→n<s.ag∨mem n I∨(at_≤n∧n<to)
theorem aIf {s:R12} {a:Int} {str:List Ai} (hs:str=[]):iZ s s.ao a str=some (s,0):=by
 unfold iZ
 rw [hs]
 simp only [bndD,decide_true,aU]
end Go.Fn
open Int renaming lt_trichotomy → HM
open List renaming ext_getElem? → FJ,getElem?_eq_none → Cg,getElem?_eq_none_iff → Ev,length_pos_iff → DD
open Option renaming none_or → Co,or_assoc → Gz
open Go Go.IL
namespace Go.Fn
def pe (p:Pt):Int:=p.At+(p.aj.length:Int)
def bm:List Pt→Int→Ad Ai
 | [],_=>none
 | p::r,n=>if p.At≤n∧n<pe p then p.aj[(n-p.At).toNat]? else bm r n
def CP:Int→List Pt→Prop
 | _,[]=>True
 | b,p::r=>b<p.At∧p.aj≠[]∧CP (pe p) r
theorem pN {p:Pt} {r:List Pt} {n:Int} (h:p.At≤n∧n<pe p):bm (p::r) n=p.aj[(n-p.At).toNat]?:=Az h
theorem lK {p:Pt} {r:List Pt} {n:Int} (h:¬ (p.At≤n∧n<pe p)):bm (p::r) n=bm r n:=Aq h
theorem pL {p:Pt} {n:Int} (h:p.At≤n∧n<pe p):p.aj[(n-p.At).toNat]? ≠ none:=by
 unfold pe at h
 rw [Ne,Ev]; omega
theorem sE {p:Pt} (h:p.aj≠[]):p.At<pe p:=by
 unfold pe
 have:=DD.2 h; omega
theorem cp_le {b c:Int}:∀ {l:List Pt},CP b l→c≤b→CP c l
 | [],_,_=>trivial
 | p::r,h,hc=>⟨by have:=h.1; omega,h.2⟩
theorem aBK:∀ {l:List Pt} {b n:Int},CP b l→n≤b→bm l n=none
 | [],_,_,_,_=>rfl
 | p::r,b,n,h,hn=>by
   have h1:=h.1
   have h2:=sE h.2.1
   rw [lK (by omega)]
   exact aBK h.2.2 (by omega)
theorem aDx:∀ {l l':List Pt} {b b':Int},CP b l→CP b' l'→(∀ n,bm l n=bm l' n)→l=l'
 | [],[],_,_,_,_,_=>rfl
 | [],p::r,_,_,_,h',e=>by
   have hp:=sE h'.2.1
   have:=e p.At
   rw [pN (p:=p) (r:=r) ⟨AU _,hp⟩] at this
   exact AP this.symm (pL ⟨AU _,hp⟩)
 | p::r,[],_,_,h,_,e=>by
   have hp:=sE h.2.1
   have:=e p.At
   rw [pN (p:=p) (r:=r) ⟨AU _,hp⟩] at this
   exact AP this (pL ⟨AU _,hp⟩)
 | p :: r,q::t,b,b',h,h',e=>by
   have hp:=sE h.2.1
   have hq:=sE h'.2.1
   have hat:p.At=q.At:=by
    rcases HM p.At q.At with hl | hl | hl
    · have:=e p.At
      rw [pN (p:=p) (r:=r) ⟨AU _,hp⟩,aBK (l:=q::t) (b:=q.At-1) ⟨by omega,h'.2⟩ (by omega)] at this
      exact AP this (pL ⟨AU _,hp⟩)
    · exact hl
    · have:=e q.At
      rw [pN (p:=q) (r:=t) ⟨AU _,hq⟩,aBK (l:=p::r) (b:=p.At-1) ⟨by omega,h.2⟩ (by omega)] at this
      exact AP this.symm (pL ⟨AU _,hq⟩)
   have hpe:pe p=pe q:=by
    rcases HM (pe p) (pe q) with hl | hl | hl
    · have:=e (pe p)
      rw [lK (p:=p) (by omega),aBK h.2.2 (AU _),pN (p:=q) (by omega)] at this
      exact AP this.symm (pL (by omega))
    · exact hl
    · have:=e (pe q)
      rw [lK (p:=q) (by omega),aBK h'.2.2 (AU _),pN (p:=p) (by omega)] at this
      exact AP this (pL (by omega))
   have hlen:p.aj.length=q.aj.length:=by unfold pe at hpe; omega
   have hd:p.aj=q.aj:=by
    apply FJ
    intro i
    by_cases hi:i<p.aj.length
    · have:=e (p.At+(i:Int))
      rw [pN (p:=p) (by unfold pe; omega),pN (p:=q) (by unfold pe; omega)] at this
      rw [show (p.At+(i:Int)-p.At).toNat=i by omega,show (p.At+(i:Int)-q.At).toNat=i by omega] at this
      exact this
    · rw [Cg (by omega),Cg (by omega)]
   have hpq:p=q:=by cases p; cases q; simp only at hat hd; rw [hat,hd]
   subst hpq
   congr 1
   refine aDx h.2.2 h'.2.2 fun n=>?_
   by_cases hn:p.At≤n∧n<pe p
   · rw [aBK h.2.2 (by omega),aBK h'.2.2 (by omega)]
   · have:=e n
     rwa [lK hn,lK hn] at this
def mg (p x:Pt):Pt:=if p.At≤x.At then ⟨p.At,p.aj++x.aj.drop (pe p-x.At).toNat⟩ else ⟨x.At,x.aj.take (p.At-x.At).toNat++p.aj++x.aj.drop (pe p-x.At).toNat⟩
theorem aLD (p x:Pt):(mg p x).At=min p.At x.At:=by unfold mg; split <;> (simp only; omega)
theorem mg_pe {p x:Pt} (hp:p.aj≠[]) (h1:p.At≤pe x) (h2:x.At≤pe p):pe (mg p x)=max (pe p) (pe x):=by
 have:=sE hp
 unfold pe at this h1 h2 ⊢
 unfold mg
 split
 · simp only [Ae,AA]; unfold pe; omega
 · simp only [Ae,AA,Aw]; unfold pe; omega
theorem mg_bm {p x:Pt} (hp:p.aj≠[]) (h1:p.At≤pe x) (h2:x.At≤pe p) (n:Int):bm [mg p x] n=(bm [p] n).or (bm [x] n):=by
 have hpe:=mg_pe hp h1 h2
 have hat:=aLD p x
 have hpp:=sE hp
 by_cases a:p.At≤n∧n<pe p
 · rw [pN (p:=mg p x) (by omega),pN (p:=p) a]
   have hs:=pL a
   have e:(mg p x).aj[(n-(mg p x).At).toNat]? = p.aj[(n-p.At).toNat]?:=by
    rw [hat]
    unfold mg
    unfold pe at a
    split
    · simp only
      rw [AX (by omega)]
      congr 2; omega
    · simp only
      rw [Ax,Bg (by rw [Aw]; omega),AX (by rw [Aw]; unfold pe at h1; omega)]
      congr 1
      rw [Aw]; unfold pe at h1; omega
   rw [e]
   cases hc:p.aj[(n-p.At).toNat]? with
   | none=>exact AP hc hs
   | some c=>rfl
 · rw [lK (p:=p) a]
   show _=(bm [] n).or _
   rw [show bm [] n=none from rfl,Co]
   by_cases b:x.At≤n∧n<pe x
   · rw [pN (p:=mg p x) (by omega),pN (p:=x) b,hat]
     unfold mg
     unfold pe at a b h1 h2 hpp
     split
     · simp only
       rw [Bg (by omega),CJ]
       congr 1; unfold pe; omega
     · simp only
       by_cases c:n<p.At
       · rw [Ax,AX (by rw [Aw]; omega),List.getElem?_take_of_lt (by omega)]
         congr 1; omega
       · rw [Bg (by rw [Ae,Aw]; omega),CJ]
         congr 1
         rw [Ae,Aw]; unfold pe; omega
   · rw [lK (p:=mg p x) (by omega),lK b]
def jP (x:Pt):List Pt→List Pt
 | []=>[x]
 | p::r=>if pe p<x.At then p::jP x r else if pe x<p.At then x::p::r else jP (mg p x) r
theorem sP (a:Ad Ai):a.or none=a:=by cases a <;> rfl
theorem aDM {a:Ad Ai} (h:a≠none) (b:Ad Ai):a.or b=a:=by cases a with
 | none=>exact AP rfl h
 | some c=>rfl
theorem wI (p:Pt) (r:List Pt) (n:Int):bm (p::r) n=(bm [p] n).or (bm r n):=by
 by_cases h:p.At≤n∧n<pe p
 · rw [pN h,pN h,aDM (pL h)]
 · rw [lK h,lK h]; rfl
theorem aFc:∀ (l:List Pt) {x:Pt} {b:Int},CP b l→b<x.At→x.aj≠[]→CP b (jP x l)∧∀ n,bm (jP x l) n=(bm l n).or (bm [x] n)
 | [],x,b,h,hb,hx=>⟨⟨hb,hx,trivial⟩,fun n=>rfl⟩
 | p :: r,x,b,h,hb,hx=>by
   have hpp:=sE h.2.1
   have hxx:=sE hx
   unfold jP
   by_cases c1:pe p<x.At
   · rw [Az c1]
     obtain ⟨g1,g2⟩:=aFc r h.2.2 c1 hx
     refine ⟨⟨h.1,h.2.1,g1⟩,fun n=>?_⟩
     rw [wI p (jP x r),g2,wI p r,Gz]
   · rw [Aq c1]
     by_cases c2:pe x<p.At
     · rw [Az c2]
       refine ⟨⟨hb,hx,c2,h.2⟩,fun n=>?_⟩
       rw [wI x]
       by_cases hn:x.At≤n∧n<pe x
       · rw [aBK (l:=p::r) (b:=pe x) ⟨c2,h.2⟩ (by omega),Co,sP]
       · rw [show bm [x] n=none from lK hn,Co,sP]
     · rw [Aq c2]
       have hm:=aLD p x
       have hme:=mg_pe h.2.1 (by omega:p.At≤pe x) (by omega:x.At≤pe p)
       have hmd:(mg p x).aj≠[]:=fun e=>by
        have:pe (mg p x)=(mg p x).At:=by unfold pe; rw [e]; simp
        omega
       have h1:=h.1
       obtain ⟨g1,g2⟩:=aFc r (x:=mg p x) (cp_le h.2.2 (by omega:b≤pe p)) (by omega) hmd
       refine ⟨g1,fun n=>?_⟩
       rw [g2,mg_bm h.2.1 (by omega) (by omega),wI p r]
       by_cases hn:p.At≤n∧n<pe p
       · rw [aBK h.2.2 (by omega),Co,sP]
       · rw [show bm [p] n=none from lK hn,Co,Co]
end Go.Fn
open Int renaming min_eq_left → GA
open List renaming drop_eq_nil_of_le → EQ
open Go Go.IL
namespace Go.Fn
def Wi (lo hi:Int) (p:Pt):Prop:=lo≤p.At∧pe p≤hi
theorem Wi.len {lo hi:Int} {p:Pt} (h:Wi lo hi p):(p.aj.length:Int)≤hi-lo:=by
 have h1:=h.1; have h2:=h.2; unfold pe at h2; omega
theorem mg_wi {lo hi:Int} {p x:Pt} (hp:p.aj≠[]) (h:Wi lo hi p) (hx:Wi lo hi x) (h1:p.At≤pe x) (h2:x.At≤pe p):Wi lo hi (mg p x):=by
 have a:=aLD p x
 have b:=mg_pe hp h1 h2
 have:=h.1; have:=h.2; have:=hx.1; have:=hx.2
 exact ⟨by omega,by omega⟩
theorem aHs {lo hi:Int} {p:Pt} (h:Wi lo hi p) (h0:0≤lo) (h1:hi≤4398046511104):fY p=some (pe p):=by
 have a:=h.1; have b:=h.2; unfold pe at b
 unfold fY
 rw [w64 (by omega) (by omega),bndD]; rfl
theorem jn_J2 {l r q out:List Pt} (hl:l.length≤100000) (ho:out.length≤100000) (hs:l=q++r) (x:Pt):nL l out (q.length:Int) x.At x.aj=some (out++(x::r)):=by
 have h2:=aAX hs
 have hrl:r.length≤l.length:=by rw [hs]; simp
 unfold nL
 rw [dU (by simp; omega) (by simp; omega),bnoS,h2,bnoS,dU (by simp; omega) (by simp; omega),bnoS]
 simp
theorem aFM {l:List Ai} {k:Int} (h:0≤k):(bnd (min (l.length:Int) k) fun m=>cut l m (l.length:Int))=some (l.drop k.toNat):=by
 rw [bndD]
 by_cases c:k≤(l.length:Int)
 · rw [Int.min_eq_right c,tW h c]
 · rw [GA (by omega),tW (by omega) (AU _),EQ (by omega),EQ (by omega)]
theorem jn_L3 {lo hi:Int} (h0:0≤lo) (h1:hi≤4398046511104) (hw:hi-lo≤100000) {l out:List Pt} (hl:l.length≤100000) (ho:out.length≤100000) (hwi:∀ p∈l,Wi lo hi p∧p.aj≠[]):∀ (r q:List Pt) (f:Nat) (x:Pt),l=q++r→r.length<f→Wi lo hi x→(∀ p∈r,x.At≤pe p) →
 jW l out f (q.length:Int) x.At x.aj=some (out++jP x r)
 | _,_,0,_,_,hf,_,_=>AP hf (by omega)
 | [],q,f+1,x,hs,_,_,_=>by
   unfold jW
   simp only [bndD,jC hs,aQ]
   exact jn_J2 hl ho hs x
 | p :: r,q,f+1,x,hs,hf,hx,hu=>by
   obtain ⟨hp,hpd⟩:=hwi p (by rw [hs]; simp)
   have hup:=hu p (by simp)
   have hxl:=hx.len
   have hpl:=hp.len
   have a1:=hx.1; have a2:=hx.2; have a3:=hp.1; have a4:=hp.2
   have e1:fY ⟨x.At,x.aj⟩=some (pe x):=aHs hx h0 h1
   have hxp:x.At≤pe x:=by unfold pe; omega
   have hpp:=sE hpd
   rw [jW,bndD,iS hs,aU,cX hs,bnoS,e1,bnoS,bndD]
   by_cases c:pe x<p.At
   · rw [Ac c,aU,jn_J2 hl ho hs x,jP,Aq (by omega),Az c]
   · rw [Aa c,aQ,bndD,jP,Aq (by omega),Aq c]
     have hm:=mg_wi hpd hp hx (by omega) hup
     have hma:=aLD p x
     have hrec:=jn_L3 h0 h1 hw hl ho hwi r (q++[p]) f (mg p x) (by rw [hs]; simp) (by simpa using hf) hm (fun y hy=>by have:=hu y (by simp [hy]); omega)
     have hwp:Ab .i64 (pe p-x.At)=pe p-x.At:=w64 (by omega) (by omega)
     by_cases d:p.At≤x.At
     · have ht:∀ k:List Ai→Ad (List Pt),(bnd (min (x.aj.length:Int) (pe p-x.At)) fun x167=>bno (cut x.aj x167 (x.aj.length:Int)) k)=bno (some (x.aj.drop (pe p-x.At).toNat)) k:=fun k=>by
        have:=aFM (l:=x.aj) (k:=pe p-x.At) (by omega)
        rw [bndD] at this
        rw [bndD,this]
       have hmg:mg p x=⟨p.At,p.aj++x.aj.drop (pe p-x.At).toNat⟩:=by unfold mg; rw [Az d]
       rw [Ac d,aU,aHs hp h0 h1,bnoS,bndD,hwp,ht,bnoS,sM (by rw [AA]; omega),bnoS,w_at hs (by omega),bndD]
       rw [hmg] at hrec ⊢
       exact hrec
     · have ht:∀ k:List Ai→Ad (List Pt),(bnd (min (x.aj.length:Int) (pe p-x.At)) fun x167=>bno (cut x.aj x167 (x.aj.length:Int)) k)=bno (some (x.aj.drop (pe p-x.At).toNat)) k:=fun k=>by
        have:=aFM (l:=x.aj) (k:=pe p-x.At) (by omega)
        rw [bndD] at this
        rw [bndD,this]
       have hmg:mg p x=⟨x.At,x.aj.take (p.At-x.At).toNat++p.aj++x.aj.drop (pe p-x.At).toNat⟩:=by unfold mg; rw [Aq d]
       have hwq:Ab .i64 (p.At-x.At)=p.At-x.At:=w64 (by omega) (by omega)
       rw [Aa d,aQ,bndD,hwq,yQ (by omega) (by unfold pe at c; omega),bnoS,sM (by rw [Aw]; omega),bnoS,aHs hp h0 h1,bnoS,bndD,hwp,ht,bnoS,sM (by rw [Ae,Aw,AA]; omega),bnoS,w_at hs (by omega),bndD]
       rw [hmg] at hrec ⊢
       exact hrec
theorem aNF {b:Int}:∀ {q r:List Pt} {p:Pt},CP b (q++p::r)→∀ y∈r,pe p<y.At
 | [], r,p,h,y,hy=>by
   have h2:=h.2.2
   clear h
   induction r generalizing p with
   | nil=>cases hy
   | cons z r ih =>
     rcases AF.1 hy with rfl | hy
     · exact h2.1
     · have:=ih (p:=z) hy h2.2.2
       have:=sE h2.2.1
       have:=h2.1
       omega
 | z::q,r,p,h,y,hy=>aNF (q:=q) h.2.2 y hy
theorem jn_L0 {lo hi:Int} (h0:0≤lo) (h1:hi≤4398046511104) (hw:hi-lo≤100000) {l:List Pt} {b:Int} (hc:CP b l) (hl:l.length≤100000) (hwi:∀ p∈l,Wi lo hi p∧p.aj≠[]) {x:Pt} (hx:Wi lo hi x):∀ (r q:List Pt) (f:Nat),l=q++r→r.length<f →
 lV l x f q (q.length:Int)=some (q++jP x r)
 | _,_,0,_,hf=>AP hf (by omega)
 | [],q,f+1,hs,_=>by
   have hql:q.length≤100000:=by rw [hs] at hl; simp at hl; omega
   rw [lV,bndD,jC hs,ft,gdff,bnoS,gdff,bnoS,bndD,bndD,AN,aQ]
   exact jn_L3 h0 h1 hw hl hql hwi [] q fuel x hs (bK (by decide)) hx (fun _ h=>by cases h)
 | p :: r,q,f+1,hs,hf=>by
   have hql:q.length≤100000:=by rw [hs] at hl; simp at hl; omega
   obtain ⟨hp,hpd⟩:=hwi p (by rw [hs]; simp)
   have hrl:(p::r).length≤l.length:=by rw [hs]; simp
   rw [lV,bndD,iS hs,Ap,gdtt,cX hs,bnoS,gdtt,aHs hp h0 h1,bnoS,bndD,bndD,Bn]
   by_cases c:pe p<x.At
   · rw [Ac c,aU,bnoS,dU (by simp; omega) (by simp; omega),bnoS,w_at hs (by omega),bndD]
     have hrec:=jn_L0 h0 h1 hw hc hl hwi hx r (q++[p]) f (by rw [hs]; simp) (by simpa using hf)
     rw [jP,Az c]
     rw [hrec]; simp
   · rw [Aa c,aQ]
     refine jn_L3 h0 h1 hw hl hql hwi (p::r) q fuel x hs (bK (by omega)) hx (fun y hy=>?_)
     rcases AF.1 hy with rfl | hy
     · omega
     · have:=aNF (q:=q) (by rw [hs] at hc; exact hc) y hy
       have:=sE (hwi y (by rw [hs]; simp [hy])).2
       omega
theorem jn_eq {lo hi:Int} (h0:0≤lo) (h1:hi≤4398046511104) (hw:hi-lo≤100000) {l:List Pt} {b:Int} (hc:CP b l) (hl:l.length≤100000) (hwi:∀ p∈l,Wi lo hi p∧p.aj≠[]) {x:Pt} (hx:Wi lo hi x):rM l x=some (jP x l) :=
 jn_L0 h0 h1 hw hc hl hwi hx l [] fuel rfl (bK (by omega))
end Go.Fn
open Go Go.IL
namespace Go.Fn
theorem aE7 {b:Int}:∀ {l:List Pt},CP b l→∀ p∈l,b<p.At∧p.aj≠[]
 | [],_,p,hp=>by cases hp
 | q :: r,h,p,hp=>by
   rcases AF.1 hp with rfl | hp
   · exact ⟨h.1,h.2.1⟩
   · have:=aE7 h.2.2 p hp
     have:=sE h.2.1
     have:=h.1
     exact ⟨by omega,(aE7 h.2.2 p hp).2⟩
theorem aKF {c:Int}:∀ {l:List Pt} {b:Int},CP b l→(∀ p∈l,pe p≤c)→b≤c→(l.length:Int)≤c-b
 | [],b,_,_,hb=>by simp; omega
 | q::r,b,h,hp,hb=>by
   have h1:=aKF h.2.2 (fun p hh=>hp p (by simp [hh])) (hp q (by simp))
   have:=sE h.2.1
   have:=h.1
   rw [Ao]; omega
theorem aLL {lo hi:Int}:∀ {l:List Pt} {x:Pt},(∀ p∈l,Wi lo hi p∧p.aj≠[])→Wi lo hi x→∀ p∈jP x l,Wi lo hi p
 | [],x,_,hx,p,hp=>by
   rcases AF.1 hp with rfl | hp
   · exact hx
   · cases hp
 | q :: r,x,h,hx,p,hp=>by
   have hq:=h q (by simp)
   have hr:∀ p∈r,Wi lo hi p∧p.aj≠[]:=fun p hp=>h p (by simp [hp])
   unfold jP at hp
   by_cases c1:pe q<x.At
   · rw [Az c1] at hp
     rcases AF.1 hp with rfl | hp
     · exact hq.1
     · exact aLL hr hx p hp
   · rw [Aq c1] at hp
     by_cases c2:pe x<q.At
     · rw [Az c2] at hp
       rcases AF.1 hp with rfl | hp
       · exact hx
       · exact (h p hp).1
     · rw [Aq c2] at hp
       exact aLL hr (mg_wi hq.2 hq.1 hx (by omega) (by omega)) p hp
structure RX (s:R12):Prop where
 b0:0≤s.ag
 bh:s.ag≤1099511627776
 rl:(s.ap.length:Int)≤s.ag
 rm:s.ap.length≤4096
 cp:CP s.ag s.ao
 lm:∀ p∈s.ao,pe p≤s.ag-s.ap.length+4096∧pe p≤1099511627776
def limS (s:R12):Int:=min (s.ag-s.ap.length+4096) 1099511627776
def lowS (s:R12):Int:=s.ag-s.ap.length
theorem RX.wi {s:R12} (h:RX s):∀ p∈s.ao,Wi (lowS s) (limS s) p∧p.aj≠[]:=fun p hp=>by
 have:=h.lm p hp
 have:=aE7 h.cp p hp
 unfold lowS limS
 exact ⟨⟨by omega,by omega⟩,(aE7 h.cp p hp).2⟩
theorem RX.pl {s:R12} (h:RX s):s.ao.length≤5000:=by
 have h1:=aKF h.cp (c:=s.ag-s.ap.length+4096) (fun p hp=>(h.lm p hp).1) (by have:=h.rm; omega)
 omega
theorem aF2 {s:R12} (h:RX s):tQ s=some (limS s):=by
 have a:=h.b0; have b:=h.bh; have c:=h.rl; have d:=h.rm
 unfold tQ limS
 rw [w64 (by omega) (by omega),bndD,w64 (by omega) (by omega),bndD,bndD]
theorem aF3 {s:R12} (h:RX s):∀ (r q:List Pt) (f:Nat) (e:Int),s.ao=q++r→r.length<f→(CP e r)→mX s (limS s) f e (q.length:Int)=some 0
 | _,_,0,_,_,hf,_=>AP hf (by omega)
 | [],q,f+1,e,hs,_,_=>by
   rw [mX,bndD,jC hs,aQ]
 | p::r,q,f+1,e,hs,hf,hc=>by
   have hp:p∈s.ao:=by rw [hs]; simp
   have hw:=(h.wi p hp).1
   have hl:=hw.len
   have h1:=hw.1; have h2:=hw.2
   have h3:=hc.1
   have a:=h.b0; have b:=h.bh; have c:=h.rl; have d:=h.rm
   have hpl:=h.pl
   have e2:pe p=p.At+(p.aj.length:Int):=rfl
   have hlo:lowS s=s.ag-s.ap.length:=rfl
   have hli:limS s=min (s.ag-s.ap.length+4096) 1099511627776:=rfl
   have hrec:=aF3 h r (q++[p]) f (pe p) (by rw [hs]; simp) (by simpa using hf) hc.2.2
   unfold mX
   simp only [bndD,iS hs,aU,cX hs,bnoS,Aa (show ¬p.At≤e by omega),Aa hc.2.1,Bc,Aa (show ¬limS s<p.At by omega),w64 (show -9223372036854775808≤limS s-p.At by omega) (by omega),Aa (show ¬limS s-p.At<(p.aj.length:Int) by omega),aQ,aHs hw (by omega) (by omega),w_at hs (by omega)]
   exact hrec
theorem aD3 {s:R12} (h:RX s):qW s=some 0:=by
 have b:=h.b0; have c:=h.bh; have d:=h.rl; have e:=h.rm
 unfold qW
 simp only [bndD,Aa (show ¬s.ag<0 by omega),Aa (show ¬1099511627776<s.ag by omega),Bc,Aa (show ¬min s.ag 4096<(s.ap.length:Int) by omega),aQ,aF2 h,bnoS]
 exact aF3 h s.ao [] fuel s.ag rfl (bK (by have:=h.pl; omega)) h.cp
def rB (s:R12) (x:Pt):R12:=match jP x s.ao with
 | []=>s
 | p::r=>if p.At=s.ag then ⟨pe p,s.ap++p.aj,r⟩ else ⟨s.ag,s.ap,p::r⟩
structure Ov (s0 s:R12) (M:Int→Ad Ai):Prop where
 rx:RX s
 low:lowS s=lowS s0
 le:s0.ag≤s.ag
 rd:∃ D,s.ap=s0.ap++D∧(D.length:Int)=s.ag-s0.ag∧∀ n,s0.ag≤n→n<s.ag→D[(n-s0.ag).toNat]? = M n
 pm:∀ n,s.ag≤n→bm s.ao n=M n
theorem Ov.base {s0 s t:R12} {M:Int→Ad Ai} (h:Ov s0 s M) (k:Ov s0 t M):¬ s.ag<t.ag:=fun hl=>by
 obtain ⟨D,h1,h2,h3⟩:=k.rd
 have a:=h.pm s.ag (AU _)
 rw [aBK h.rx.cp (AU _)] at a
 have b:=h3 s.ag h.le hl
 rw [←a,Ev] at b
 have:=h.le
 omega
theorem Ov.uniq {s0 s t:R12} {M:Int→Ad Ai} (h:Ov s0 s M) (k:Ov s0 t M):s=t:=by
 have e1:s.ag=t.ag:=by have:=h.base k; have:=k.base h; omega
 obtain ⟨D,h1,h2,h3⟩:=h.rd
 obtain ⟨D',k1,k2,k3⟩:=k.rd
 have e2:D=D':=by
  apply FJ
  intro i
  by_cases hi:i<D.length
  · have a:=h3 (s0.ag+(i:Int)) (by omega) (by omega)
    have b:=k3 (s0.ag+(i:Int)) (by omega) (by omega)
    rw [show (s0.ag+(i:Int)-s0.ag).toNat=i by omega] at a b
    rw [a,b]
  · rw [Cg (by omega),Cg (by omega)]
 have e3:s.ao=t.ao:=aDx h.rx.cp k.rx.cp fun n=>by
  by_cases hn:n<s.ag
  · rw [aBK h.rx.cp (by omega),aBK k.rx.cp (by omega)]
  · rw [h.pm n (by omega),k.pm n (by omega)]
 have e4:s.ap=t.ap:=by rw [h1,k1,e2]
 cases s; cases t; simp only at e1 e3 e4; rw [e1,e3,e4]
theorem Ov.self {s:R12} (h:RX s):Ov s s (bm s.ao) :=
 ⟨h,rfl,AU _,⟨[],by simp,by simp,fun n h1 h2=>AP h1 (by omega)⟩,fun _ _=>rfl⟩
theorem Ov.trans {s0 s t:R12} {M M':Int→Ad Ai} (h:Ov s0 s M) (k:Ov s t M'):Ov s0 t (fun n=>if n<s.ag then M n else M' n):=by
 obtain ⟨D,h1,h2,h3⟩:=h.rd
 obtain ⟨D',k1,k2,k3⟩:=k.rd
 have l1:=h.le; have l2:=k.le
 refine ⟨k.rx,k.low.trans h.low,by omega,⟨D++D',by rw [k1,h1,Ax],by rw [Ae]; omega,fun n n1 n2=>?_⟩,fun n hn=>?_⟩
 · by_cases c:n<s.ag
   · rw [Az c,AX (by omega),h3 n n1 c]
   · rw [Aq c,Bg (by omega),←k3 n (by omega) n2]
     congr 1; omega
 · rw [Aq (show ¬n<s.ag by omega),k.pm n hn]
theorem Ov.ext {s0 s:R12} {M M':Int→Ad Ai} (h:Ov s0 s M) (e:∀ n,s0.ag≤n→M n=M' n):Ov s0 s M':=by
 have hle:=h.le
 obtain ⟨D,h1,h2,h3⟩:=h.rd
 exact ⟨h.rx,h.low,h.le,⟨D,h1,h2,fun n n1 n2=>(h3 n n1 n2).trans (e n n1)⟩,fun n hn=>(h.pm n hn).trans (e n (by omega))⟩
def ovM (s:R12) (x:Pt) (n:Int):Ad Ai:=(bm s.ao n).or (bm [x] n)
theorem aJA {s:R12} (h:RX s) {x:Pt} (hx:x.aj≠[]) (h1:s.ag≤x.At) (h2:pe x≤limS s):Ov s (rB s x) (ovM s x):=by
 have a:=h.b0; have b:=h.bh; have c:=h.rl; have d:=h.rm
 have hli:limS s=min (s.ag-s.ap.length+4096) 1099511627776:=rfl
 have hlo:lowS s=s.ag-s.ap.length:=rfl
 obtain ⟨g1,g2⟩:=aFc s.ao (x:=x) (b:=s.ag-1) (cp_le h.cp (by omega)) (by omega) hx
 have g3:=aLL h.wi (x:=x) ⟨by omega,h2⟩
 unfold rB
 unfold ovM
 cases hj:jP x s.ao with
 | nil =>
   have e:=g2 x.At
   rw [hj,pN (p:=x) ⟨AU _,sE hx⟩] at e
   cases hb:bm s.ao x.At with
   | some c=>rw [hb] at e; cases e
   | none=>rw [hb] at e; exact AP e.symm (pL ⟨AU _,sE hx⟩)
 | cons p r =>
   rw [hj] at g1 g2 g3
   have hp:=g3 p (by simp)
   have hp1:=hp.1; have hp2:=hp.2
   have e2:pe p=p.At+(p.aj.length:Int):=rfl
   simp only
   by_cases hc:p.At=s.ag
   · rw [Az hc]
     refine ⟨⟨by show 0≤pe p; omega,by show pe p≤1099511627776; omega,by show ((s.ap++p.aj).length:Int)≤pe p; rw [Ae]; omega,by show (s.ap++p.aj).length≤4096; rw [Ae]; omega,g1.2.2,fun q hq=>?_⟩,?_,by show s.ag≤pe p; omega,⟨p.aj,rfl,by show (p.aj.length:Int)=pe p-s.ag; omega,fun n n1 n2=>?_⟩,fun n hn=>?_⟩
     · have hq:=g3 q (by simp [hq])
       have:=hq.2
       show pe q≤pe p-((s.ap++p.aj).length:Int)+4096∧_
       rw [Ae]; omega
     · show pe p-((s.ap++p.aj).length:Int)=s.ag-s.ap.length
       rw [Ae]; omega
     · have n2:n<pe p:=n2
       rw [←g2 n,pN (by omega),hc]
     · have hn:pe p≤n:=hn
       rw [←g2 n,lK (by omega)]
   · rw [Aq hc]
     have g1':=g1.1
     refine ⟨⟨a,b,c,d,⟨by show s.ag<p.At; omega,g1.2⟩,fun q hq=>?_⟩,rfl,AU _,⟨[],by simp,by simp,fun n n1 n2=>AP n1 (by have n2:n<s.ag:=n2; omega)⟩,fun n _=>?_⟩
     · have hq:=g3 q hq
       have:=hq.2
       show pe q≤s.ag-(s.ap.length:Int)+4096∧_
       omega
     · exact (g2 n)
end Go.Fn
open Int renaming max_eq_left → Fs,max_eq_right → Ib
open List renaming drop_eq_nil_iff → Ff,drop_nil → Hg,drop_zero → EV
open Go Go.IL
namespace Go.Fn
theorem aM4 {R:Int} {B:Int} {D:List Ai} {P:List Pt} (hl:P.length≤100000) (w:Int):∃ n,rN w B D P=some ((⟨B,D,P⟩:R12),n):=by
 obtain ⟨m,hm⟩:=held (s:=⟨B,D,P⟩) hl
 unfold rN
 rw [hm,bnoS,bndD]
 exact ⟨_,rfl⟩
theorem aIH {s:R12} (h:RX s) {x:Pt} (hx:x.aj≠[]) (h1:s.ag≤x.At) (h2:pe x≤limS s):∃ n,iZ s s.ao x.At x.aj=some (rB s x,n):=by
 have a:=h.b0; have b:=h.bh; have c:=h.rl; have d:=h.rm
 have hpl:=h.pl
 have hli:limS s=min (s.ag-s.ap.length+4096) 1099511627776:=rfl
 have hlo:lowS s=s.ag-s.ap.length:=rfl
 have hwx:Wi (lowS s) (limS s) x:=⟨by omega,h2⟩
 have hj:rM s.ao x=some (jP x s.ao):=jn_eq (by omega) (by omega) (by omega) h.cp (by omega) h.wi hwx
 have hj:rM s.ao ⟨x.At,x.aj⟩=some (jP x s.ao):=hj
 obtain ⟨g1,g2⟩:=aFc s.ao (x:=x) (b:=s.ag-1) (cp_le h.cp (by omega)) (by omega) hx
 have g3:=aLL h.wi hwx
 have hcnt:=aKF g1 (c:=limS s) (fun p hp=>(g3 p hp).2) (by omega)
 obtain ⟨w,hw⟩:=held (s:=s) (by omega)
 have hw:uY ⟨s.ag,s.ap,s.ao⟩=some w:=hw
 unfold iZ rB
 rw [bndD,Aa hx,aQ,hw,bnoS,hj,bnoS]
 cases hjj:jP x s.ao with
 | nil =>
   have e:=g2 x.At
   rw [hjj,pN (p:=x) ⟨AU _,sE hx⟩] at e
   cases hb:bm s.ao x.At with
   | some c=>rw [hb] at e; cases e
   | none=>rw [hb] at e; exact AP e.symm (pL ⟨AU _,sE hx⟩)
 | cons p r =>
   rw [hjj] at g3 hcnt
   have hp:=g3 p (by simp)
   have hpl:=hp.len
   have hr:r.length≤100000:=by rw [Ao] at hcnt; omega
   show ∃ n,(bno (some p) fun x38=>bno (some p) fun x39=>bnd (decide (x39.At=s.ag)) fun x40=>bif x40 then _ else _)=_
   rw [bnoS,bnoS,bndD]
   simp only
   by_cases hc:p.At=s.ag
   · rw [Ac hc,aU,Az hc,aHs hp (by omega) (by omega),bnoS,sM (by omega),bnoS]
     have hd:cR 0 1 (p::r)=some r:=by
      unfold cR
      rw [delS_ok (by decide) (by decide) (by simp; omega)]; rfl
     rw [hd,bnoS]
     exact aM4 (R:=0) hr w
   · rw [Aa hc,aQ,Aq hc]
     exact aM4 (R:=0) (by omega) w
def putR (s:R12) (a:Int) (str:List Ai):R12:=if str.drop (s.ag-a).toNat=[] then s else rB s ⟨max a s.ag,str.drop (s.ag-a).toNat⟩
theorem aMU {s:R12} (h:RX s) {a:Int} {str:List Ai} (h1:s.ag≤a) (h2:a+(str.length:Int)≤limS s):∃ n,iZ s s.ao a str=some (if str=[] then s else rB s ⟨a,str⟩,n):=by
 by_cases hs:str=[]
 · rw [Az hs]
   exact ⟨0,aIf hs⟩
 · rw [Aq hs]
   exact aIH h (x:=⟨a,str⟩) hs h1 h2
theorem xput {s:R12} (h:RX s) {a:Int} {str:List Ai} (h0:0≤a) (h2:a+(str.length:Int)≤limS s):∃ n,rO s a str=some (putR s a str,n):=by
 have b0:=h.b0; have b:=h.bh; have c:=h.rl; have d:=h.rm
 have hpl:=h.pl
 have hli:limS s=min (s.ag-s.ap.length+4096) 1099511627776:=rfl
 have es:(⟨s.ag,s.ap,s.ao⟩:R12)=s:=rfl
 unfold rO
 rw [aGG (by omega),bnoS,es,bndD,Aa (show ¬a<0 by omega),bndD,Aa (show ¬1099511627776<a by omega),bndD,Bc,show (false == false)=true from rfl,gdtt,aD3 h,bnoS,bndD,Ac rfl,bndD,show (false || !true)=false from rfl,aQ,aF2 h,bnoS,bndD]
 unfold putR
 by_cases hc:limS s≤a
 · have:str=[]:=Bh.1 (by omega)
   subst this
   rw [Ac hc,aU,Hg,Az rfl]
   exact ⟨0,rfl⟩
 · rw [Aa hc,aQ,bndD,w64 (by omega) (by omega),bndD,GA (by omega),yQ (by omega) (AU _),bnoS,bndD]
   have ht:str.take (str.length:Int).toNat=str:=by rw [Au,AM]
   rw [ht]
   by_cases ha:a<s.ag
   · have hk:∀ k:List Ai→Ad (R12×Int),(bnd (min (str.length:Int) (s.ag-a)) fun x48=>bno (cut str x48 (str.length:Int)) k)=bno (some (str.drop (s.ag-a).toNat)) k:=fun k=>by
      have:=aFM (l:=str) (k:=s.ag-a) (by omega)
      rw [bndD] at this
      rw [bndD,this]
     rw [Ac ha,aU,bndD,w64 (by omega) (by omega),hk,bnoS]
     obtain ⟨n,hn⟩:=aMU h (a:=s.ag) (str:=str.drop (s.ag-a).toNat) (AU _) (by rw [AA]; omega)
     rw [Ib (by omega)]
     exact ⟨n,hn⟩
   · rw [Aa ha,aQ,show (s.ag-a).toNat=0 by omega,EV,Fs (by omega)]
     exact aMU h (by omega) h2
theorem aI2 {s:R12} (h:RX s) {a:Int} {str:List Ai} (h2:a+(str.length:Int)≤limS s):Ov s (putR s a str) (ovM s ⟨a,str⟩):=by
 unfold putR
 by_cases hd:str.drop (s.ag-a).toNat=[]
 · rw [Az hd]
   refine (Ov.self h).ext fun n hn=>?_
   unfold ovM
   have hl:str.length≤(s.ag-a).toNat:=Ff.1 hd
   rw [show bm [(⟨a,str⟩:Pt)] n=none from lK (by show ¬(a≤n∧n<a+(str.length:Int)); omega),sP]
 · rw [Aq hd]
   have hl:¬ str.length≤(s.ag-a).toNat:=fun hh=>hd (Ff.2 hh)
   refine (aJA h (x:=⟨max a s.ag,str.drop (s.ag-a).toNat⟩) hd (by show s.ag≤max a s.ag; omega) (by show max a s.ag+((str.drop (s.ag-a).toNat).length:Int)≤limS s; rw [AA]; omega)).ext fun n hn=>?_
   unfold ovM
   congr 1
   have e1:pe ⟨max a s.ag,str.drop (s.ag-a).toNat⟩=a+(str.length:Int):=by
    show max a s.ag+((str.drop (s.ag-a).toNat).length:Int)=_
    rw [AA]; omega
   have e2:pe ⟨a,str⟩=a+(str.length:Int):=rfl
   by_cases hi:a≤n∧n<a+(str.length:Int)
   · rw [pN (by show max a s.ag≤n∧n<_; rw [e1]; omega),pN (by rw [e2]; exact hi)]
     show (str.drop (s.ag-a).toNat)[(n-max a s.ag).toNat]? = str[(n-a).toNat]?
     rw [CJ]; congr 1; omega
   · rw [lK (by show ¬(max a s.ag≤n∧n<_); rw [e1]; omega),lK (by rw [e2]; exact hi)]
def yX (s:R12) (n:Int):Nat:=if n<1 then 0 else (min n (s.ap.length:Int)).toNat
def aCI (s:R12) (n:Int):R12:=⟨s.ag,s.ap.drop (yX s n),s.ao⟩
theorem xread {s:R12} (h:RX s) (n:Int):xP s n=some (aCI s n,s.ap.take (yX s n)):=by
 have hpl:=h.pl
 have d:=h.rm
 have es:(⟨s.ag,s.ap,s.ao⟩:R12)=s:=rfl
 unfold xP aCI yX
 rw [aGG (by omega),bnoS,bndD]
 by_cases c:n<1
 · rw [Ac c,Az c]
   rfl
 · rw [Aa c,Aq c,show (false == false)=true from rfl,gdtt,es,aD3 h,bnoS,bndD,Ac rfl,bndD,show (false || !true)=false from rfl,aQ,bndD,yQ (by omega) (by omega),bnoS,tW (by omega) (by omega),bnoS]
theorem rx_read {s:R12} (h:RX s) (n:Int):RX (aCI s n):=by
 have d:=h.rm; have e:=h.rl
 refine ⟨h.b0,h.bh,by show ((s.ap.drop (yX s n)).length:Int)≤s.ag; rw [AA]; omega,by show (s.ap.drop (yX s n)).length≤4096; rw [AA]; omega,h.cp,fun p hp=>?_⟩
 have:=h.lm p hp
 show pe p≤s.ag-((s.ap.drop (yX s n)).length:Int)+4096∧_
 rw [AA]; omega
end Go.Fn
open List renaming getElem?_replicate → Gc,map_cons → AB
open Go Go.IL
namespace Go.Fn
def ivp (x:Iv):Pt:=⟨x.aa,Ay (x.To-x.aa).toNat 0⟩
theorem aEb {x:Iv} (h:x.aa<x.To):pe (ivp x)=x.To:=by
 show x.aa+((Ay (x.To-x.aa).toNat (0:Ai)).length:Int)=_
 rw [BG]; omega
theorem aJS:∀ {l:List Iv} {b:Int},l.Pairwise (fun x y=>x.To<y.aa)→(∀ x∈l,x.aa<x.To)→(∀ x∈l,b<x.aa)→CP b (l.map ivp)
 | [],_,_,_,_=>trivial
 | x :: r,b,hp,hn,hb=>by
   obtain ⟨h1,h2⟩:=BE.1 hp
   have hx:=hn x (by simp)
   refine ⟨hb x (by simp),fun e=>?_,?_⟩
   · have:(Ay (x.To-x.aa).toNat (0:Ai)).length=0:=by
      have e:Ay (x.To-x.aa).toNat (0:Ai)=[]:=e
      rw [e]; rfl
     rw [BG] at this; omega
   · rw [aEb hx]
     exact aJS h2 (fun y hy=>hn y (by simp [hy])) h1
theorem aEc:∀ {l:List Iv} (n:Int),(∀ x∈l,x.aa<x.To)→(mem n l→bm (l.map ivp) n=some 0)∧(¬mem n l→bm (l.map ivp) n=none)
 | [],n,_=>⟨fun h=>(by obtain ⟨x,hx,_⟩:=h; cases hx),fun _=>rfl⟩
 | x :: r,n,hn=>by
   have hx:=hn x (by simp)
   have hr:=aEc n (l:=r) (fun y hy=>hn y (by simp [hy]))
   rw [AB]
   by_cases hi:x.aa≤n∧n<x.To
   · have e:bm (ivp x::r.map ivp) n=some 0:=by
      rw [pN (by rw [aEb hx]; exact hi)]
      show (Ay (x.To-x.aa).toNat (0:Ai))[(n-x.aa).toNat]? = _
      rw [Gc,Az (by omega)]
     exact ⟨fun _=>e,fun h=>AP ⟨x,by simp,hi⟩ h⟩
   · rw [lK (by rw [aEb hx]; exact hi)]
     exact ⟨fun h=>hr.1 ((mem_cons.1 h).resolve_left hi),fun h=>hr.2 fun k=>h (mem_cons.2 (.inr k))⟩
theorem aJR:∀ {l m:List Iv},(∀ x∈l,x.aa<x.To)→(∀ x∈m,x.aa<x.To)→l.map ivp=m.map ivp→l=m
 | [],[],_,_,_=>rfl
 | [],y::t,_,_,h=>by cases h
 | x::r,[],_,_,h=>by cases h
 | x::r,y::t,hl,hm,h=>by
   rw [AB,AB] at h
   injection h with h1 h2
   have e1:x.aa=y.aa:=by have:=Bv aL.At h1; exact this
   have e2:x.To=y.To:=by
    have:=Bv pe h1
    rwa [aEb (hl x (by simp)),aEb (hm y (by simp))] at this
   have:=aJR (fun z hz=>hl z (by simp [hz])) (fun z hz=>hm z (by simp [hz])) h2
   cases x; cases y; simp only at e1 e2; rw [e1,e2,this]
theorem aDY {l m:List Iv} (hl:l.Pairwise (fun x y=>x.To<y.aa)) (hm:m.Pairwise (fun x y=>x.To<y.aa)) (nl:∀ x∈l,x.aa<x.To) (nm:∀ x∈m,x.aa<x.To) (h:∀ n,mem n l↔mem n m):l=m:=by
 have ex:∀ (l:List Iv),∃ b:Int,∀ x∈l,b<x.aa:=fun l=>by
  induction l with
  | nil=>exact ⟨0,fun _ h=>by cases h⟩
  | cons x r ih =>
    obtain ⟨b,hb⟩:=ih
    refine ⟨min b (x.aa-1),fun y hy=>?_⟩
    rcases AF.1 hy with rfl | hy
    · omega
    · have:=hb y hy; omega
 obtain ⟨b,hb⟩:=ex l
 obtain ⟨c,hc⟩:=ex m
 refine aJR nl nm (aDx (aJS hl nl hb) (aJS hm nm hc) fun n=>?_)
 by_cases hn:mem n l
 · rw [(aEc n nl).1 hn,(aEc n nm).1 ((h n).1 hn)]
 · rw [(aEc n nl).2 hn,(aEc n nm).2 (fun k=>hn ((h n).2 k))]
end Go.Fn
open List renaming append_eq_nil_iff → Gh,cons_append → AY
open Go Go.IL
namespace Go.Fn
theorem aHP:∀ (A B:List Pt) (n:Int),bm (A++B) n=(bm A n).or (bm B n)
 | [],B,n=>by rw [AE]; show _=(none:Ad Ai).or _; rw [Co]
 | p::A,B,n=>by rw [AY,wI p (A++B),aHP A B n,wI p A,Gz]
def WC:Int→List Pt→Prop
 | _,[]=>True
 | b,p::r=>b≤p.At∧p.aj≠[]∧WC (pe p) r
theorem wc_of {b:Int}:∀ {l:List Pt},CP b l→WC b l
 | [],_=>trivial
 | p::r,h=>⟨by have:=h.1; omega,h.2.1,wc_of h.2.2⟩
theorem wc_le {b c:Int}:∀ {l:List Pt},WC b l→c≤b→WC c l
 | [],_,_=>trivial
 | p::r,h,hc=>⟨by have:=h.1; omega,h.2⟩
def gl1:Pt→List Pt→List Pt
 | z,[]=>[z]
 | z,p::r=>if pe z=p.At then gl1 ⟨z.At,z.aj++p.aj⟩ r else z::gl1 p r
theorem aJq:∀ (r:List Pt) (z:Pt) (b:Int),b<z.At→z.aj≠[]→WC (pe z) r→CP b (gl1 z r)∧∀ n,bm (gl1 z r) n=bm (z::r) n
 | [],z,b,hb,hz,_=>⟨⟨hb,hz,trivial⟩,fun _=>rfl⟩
 | p :: r,z,b,hb,hz,h=>by
   have h1:=h.1
   have hpp:=sE h.2.1
   have hzz:=sE hz
   unfold gl1
   by_cases c:pe z=p.At
   · rw [Az c]
     have e:pe ⟨z.At,z.aj++p.aj⟩=pe p:=by
      show z.At+((z.aj++p.aj).length:Int)=pe p
      unfold pe at c ⊢
      rw [Ae]; omega
     obtain ⟨g1,g2⟩:=aJq r ⟨z.At,z.aj++p.aj⟩ b hb (by intro hh; exact hz (Gh.1 hh).1) (by rw [e]; exact h.2.2)
     refine ⟨g1,fun n=>?_⟩
     rw [g2]
     by_cases hn:z.At≤n∧n<pe p
     · rw [pN (by rw [e]; exact hn)]
       show (z.aj++p.aj)[(n-z.At).toNat]? = _
       by_cases hz1:n<pe z
       · rw [pN ⟨hn.1,hz1⟩,AX (by unfold pe at hz1; omega)]
       · rw [lK (by omega),pN (by omega),Bg (by unfold pe at hz1; omega)]
         congr 1; unfold pe at c; omega
     · rw [lK (by rw [e]; exact hn),lK (by omega),lK (by omega)]
   · rw [Aq c]
     obtain ⟨g1,g2⟩:=aJq r p (pe z) (by omega) h.2.1 h.2.2
     refine ⟨⟨hb,hz,g1⟩,fun n=>?_⟩
     rw [wI z (gl1 p r),g2,wI z (p::r)]
theorem aEp {l:List Pt} {a:Int} {c:Ai}:∀ {A C:List Pt} {b:Int},l=A++C→CP b l→(∀ p∈A,p.At<a)→(∀ p,C.head? = some p→a≤p.At)→b<a→bm l a=none→WC (b+1) (A++⟨a,[c]⟩::C)
 | [],C,b,hl,hc,_,hC,hb,hn=>by
   rw [AE] at hl
   subst hl
   refine ⟨hb,by simp,?_⟩
   cases l with
   | nil=>trivial
   | cons p r =>
     have h1:=hC p rfl
     have hpp:=sE hc.2.1
     have:p.At≠a:=fun e=>by
      rw [pN (by omega)] at hn
      exact pL (by omega) hn
     refine ⟨?_,hc.2.1,wc_of hc.2.2⟩
     show a+(([c]:List Ai).length:Int)≤p.At
     simp; omega
 | p :: A,C,b,hl,hc,hA,hC,hb,hn=>by
   subst hl
   have hpp:=sE hc.2.1
   have h1:=hA p (by simp)
   have h2:pe p≤a:=by
    have hh:¬ (p.At≤a∧a<pe p):=fun hh=>by
     rw [AY,pN hh] at hn
     exact pL hh hn
    omega
   have hn2:bm (A++C) a=none:=by rwa [AY,lK (by omega)] at hn
   refine ⟨by have:=hc.1; omega,hc.2.1,?_⟩
   by_cases he:pe p<a
   · exact wc_le (aEp (l:=A++C) rfl hc.2.2 (fun q hq=>hA q (by simp [hq])) hC he hn2) (by omega)
   · have e:pe p=a:=by omega
     have hA0:A=[]:=by
      cases A with
      | nil=>rfl
      | cons q A =>
        have:=hA q (by simp)
        have:=hc.2.2.1
        omega
     subst hA0
     show WC (pe p) (⟨a,[c]⟩::C)
     refine ⟨by show pe p≤a; omega,by simp,?_⟩
     cases C with
     | nil=>trivial
     | cons q r =>
       have h3:pe p<q.At:=hc.2.2.1
       refine ⟨?_,hc.2.2.2.1,wc_of hc.2.2.2.2⟩
       show a+(([c]:List Ai).length:Int)≤q.At
       simp; omega
def gl:List Pt→List Pt
 | []=>[]
 | p::r=>gl1 p r
theorem gl_ins {l A C:List Pt} {a b:Int} {c:Ai} (hl:l=A++C) (hc:CP b l) (hA:∀ p∈A,p.At<a) (hC:∀ p,C.head? = some p→a≤p.At) (hb:b<a) (hn:bm l a=none):gl (A++⟨a,[c]⟩::C)=jP ⟨a,[c]⟩ l:=by
 have hw:=aEp (c:=c) hl hc hA hC hb hn
 obtain ⟨j1,j2⟩:=aFc l (x:=⟨a,[c]⟩) hc hb (by simp)
 have key:CP b (gl (A++⟨a,[c]⟩::C))∧∀ n,bm (gl (A++⟨a,[c]⟩::C)) n=bm (A++⟨a,[c]⟩::C) n:=by
  cases hL:A++⟨a,[c]⟩::C with
  | nil=>cases A <;> cases hL
  | cons p r =>
    rw [hL] at hw
    exact aJq r p b (by have:=hw.1; omega) hw.2.1 hw.2.2
 refine aDx key.1 j1 fun n=>?_
 rw [key.2,j2,hl,aHP,aHP,wI]
 by_cases hx:n=a
 · subst hx
   rw [hl,aHP] at hn
   have h1:bm A n=none:=by cases h:bm A n with
    | none=>rfl
    | some z=>rw [h] at hn; cases hn
   rw [h1,Co] at hn
   rw [h1,hn,Co,Co,Co,sP]
 · have:bm [(⟨a,[c]⟩:Pt)] n=none:=lK (by show ¬(a≤n∧n<a+(([c]:List Ai).length:Int)); simp; omega)
   rw [this,Co,sP]
end Go.Fn
open Go Go.IL
namespace Go.Fn
def hv (l:List Pt) (n:Int):Bool:=(bm l n).isSome
theorem hv_cons (p:Pt) (r:List Pt) (n:Int):hv (p::r) n=((decide (p.At≤n)&&decide (n<pe p))||hv r n):=by
 unfold hv
 by_cases h:p.At≤n∧n<pe p
 · rw [pN h,Ac h.1,Ac h.2,Bs,BO]
   cases hc:p.aj[(n-p.At).toNat]? with
   | none=>exact AP hc (pL h)
   | some c=>rfl
 · rw [lK h]
   have:(decide (p.At≤n)&&decide (n<pe p))=false:=by
    rw [Bool.eq_false_iff]; intro hh
    rw [Af,BJ,BJ] at hh
    exact h hh
   rw [this,BF]
theorem aM5 {s:R12} (h:RX s) (a:Int):∀ (r q:List Pt) (f:Nat),s.ao=q++r→r.length<f→gX s a f (q.length:Int)=some (hv r a)
 | _,_,0,_,hf=>AP hf (by omega)
 | [],q,f+1,hs,_=>by
   rw [gX,bndD,jC hs,aQ]; rfl
 | p :: r,q,f+1,hs,hf=>by
   have hp:p∈s.ao:=by rw [hs]; simp
   have hw:=(h.wi p hp).1
   have hl:=hw.len
   have h1:=hw.1; have h2:=hw.2
   have a0:=h.b0; have b:=h.bh; have c:=h.rl; have d:=h.rm
   have hpl:=h.pl
   have e2:pe p=p.At+(p.aj.length:Int):=rfl
   have hlo:lowS s=s.ag-s.ap.length:=rfl
   have hli:limS s=min (s.ag-s.ap.length+4096) 1099511627776:=rfl
   have hrec:=aM5 h a r (q++[p]) f (by rw [hs]; simp) (by simpa using hf)
   have hw1:Ab .i64 (p.At+(p.aj.length:Int))=pe p:=w64 (by omega) (by omega)
   rw [gX,bndD,iS hs,aU,cX hs,bnoS,bndD,hv_cons]
   by_cases c1:p.At≤a
   · rw [Ac c1,Ap,gdtt,bnoS,bnoS,bndD,hw1,bndD,bndD,Bn]
     by_cases c2:a<pe p
     · rw [Ac c2,aU]; rfl
     · rw [Aa c2,aQ,w_at hs (by omega),bndD,hrec,BF]
   · rw [Aa c1,ft,gdff,bnoS,bnoS,bndD,bndD,bndD,AN,aQ,w_at hs (by omega),bndD,hrec,AN,BF]
theorem rhave {s:R12} (h:RX s) (a:Int):rZ s a=some (hv s.ao a):=aM5 h a s.ao [] fuel rfl (bK (by have:=h.pl; omega))
theorem in_last {A:List Pt} {z:Pt}:gix (A++[z]) (A.length:Int)=some z:=cX (p:=A) (r:=[]) rfl
theorem aLh {A:List Pt} {z:Pt}:(A++[z])[(A.length:Int).toNat]? = some z:=by
 rw [Au,Bg (AJ _)]; simp
theorem aKx {A:List Pt} {z w:Pt}:(A++[z]).set (A.length:Int).toNat w=A++[w]:=by
 rw [Au,CG _ _ (AJ _)]; simp
theorem aFk {α:Type} {l p r:List α} {x:α} (h:l=p++x::r):l[(p.length:Int).toNat]? = some x:=by
 rw [h,Au,Bg (AJ _)]; simp
theorem aJd {l:List Pt} {lo hi:Int} (hl:l.length≤10000) (h0:0≤lo) (h1:hi≤4398046511104) (hw:hi-lo≤100000) (hwi:∀ p∈l,Wi lo hi p):∀ (r q A:List Pt) (z:Pt) (f:Nat),l=q++r→r.length<f→A.length≤q.length→Wi lo hi z→cH l f (A++[z]) (q.length:Int)=some (A++gl1 z r)
 | _,_,_,_,0,_,hf,_,_=>AP hf (by omega)
 | [],q,A,z,f+1,hs,_,_,_=>by
   rw [cH,bndD,jC hs,aQ]; rfl
 | p :: r,q,A,z,f+1,hs,hf,hA,hz=>by
   have hp:=hwi p (by rw [hs]; simp)
   have hpl:=hp.len; have hzl:=hz.len
   have a1:=hz.1; have a2:=hz.2; have a3:=hp.1; have a4:=hp.2
   have e2:pe z=z.At+(z.aj.length:Int):=rfl
   have e3:pe p=p.At+(p.aj.length:Int):=rfl
   have hq:q.length≤10000:=by rw [hs] at hl; simp at hl; omega
   have hpz:decide ((0:Int)<((A++[z]).length:Int))=true:=Ac (by rw [Ae,AZ]; omega)
   have hwl:Ab .i64 (((A++[z]).length:Int)-1)=(A.length:Int):=by rw [Ae,AZ,w64 (by omega) (by omega)]; omega
   have hwz:Ab .i64 (z.At+(z.aj.length:Int))=pe z:=w64 (by omega) (by omega)
   rw [cH,bndD,iS hs,aU]
   simp only [bndD,hpz,Ap,hwl,gdtt,in_last,bnoS,aLh,hwz,cX hs,aFk hs,Bn]
   unfold gl1
   by_cases c:pe z=p.At
   · have hrec:=aJd hl h0 h1 hw hwi r (q++[p]) A ⟨z.At,z.aj++p.aj⟩ f (by rw [hs]; simp) (by simpa using hf) (by simp; omega) ⟨a1,by show z.At+((z.aj++p.aj).length:Int)≤hi; rw [Ae]; omega⟩
     rw [Ac c,aU,Az c,sM (by omega)]
     simp only [bnoS,aKx,w_at hs (show l.length≤1000000 by omega)]
     exact hrec
   · have hrec:=aJd hl h0 h1 hw hwi r (q++[p]) (A++[z]) p f (by rw [hs]; simp) (by simpa using hf) (by simp; omega) hp
     rw [Aa c,aQ,Aq c,dU (by simp; omega) (by simp; omega),bnoS,w_at hs (by omega),hrec]
     simp
theorem ins_L1' {l:List Pt} {lo hi:Int} (hl:l.length≤10000) (h0:0≤lo) (h1:hi≤4398046511104) (hw:hi-lo≤100000) (hwi:∀ p∈l,Wi lo hi p):cH l fuel [] 0=some (gl l):=by
 obtain ⟨f,hf⟩:∃ f,fuel=f+1:=⟨fuel-1,by have:=bK (n:=1) (by decide); omega⟩
 have hfl:=bK (n:=20000) (by decide)
 rw [hf]
 cases l with
 | nil=>rw [cH,bndD]; rfl
 | cons p r =>
   have hs:p::r=[]++p::r:=rfl
   have hrec:=aJd hl h0 h1 hw hwi r [p] [] p f rfl (by simp at hl; omega) (by simp) (hwi p (by simp))
   have e0:((([]:List Pt).length:Int))=0:=rfl
   have hz:(0:Int)=(([]:List Pt).length:Int):=rfl
   rw [cH,hz,bndD,iS hs,aU]
   simp only [bndD,show decide ((([]:List Pt).length:Int)<(([]:List Pt).length:Int))=false from rfl,ft,gdff,bnoS,AN,aQ,cX hs,aFk hs]
   rw [dU (by simp) (by simp),bnoS,w_at hs (by omega)]
   exact hrec
theorem aMy {l:List Pt} {lo hi a b:Int} {c:Ai} (hl:l.length≤9000) (h0:0≤lo) (h1:hi≤4398046511104) (hw:hi-lo≤100000) (hwi:∀ p∈l,Wi lo hi p) (hx:Wi lo hi ⟨a,[c]⟩) (hc:CP b l) (hb:b<a) (hn:bm l a=none):∀ (r q:List Pt) (f:Nat),l=q++r→r.length<f→(∀ p∈q,p.At<a)→fQ l a [c] f (q.length:Int)=some (jP ⟨a,[c]⟩ l)
 | _,_,0,_,hf,_=>AP hf (by omega)
 | r, q,f+1,hs,hf,hq=>by
   have hql:q.length≤9000:=by rw [hs] at hl; simp at hl; omega
   have hrl:q.length+r.length≤9000:=by rw [hs,Ae] at hl; exact hl
   have fin:(∀ p,r.head? = some p→a≤p.At)→(bno (cut l 0 (q.length:Int)) fun x20=>bno (app 24 ([]:List Pt) x20) fun x21=>bno (app 24 x21 (([(⟨a,[c]⟩:Pt)]:List Pt))) fun x22=>bno (cut l (q.length:Int) (l.length:Int)) fun x23=>bno (app 24 x22 x23) fun x24=>cH x24 fuel ([]:List Pt) 0)=some (jP ⟨a,[c]⟩ l):=fun hC=>by
    have e:q++[(⟨a,[c]⟩:Pt)]++r=q++⟨a,[c]⟩::r:=by simp
    rw [aCi hs,bnoS,dU (by simp; omega) (by simp; omega),bnoS,AE,dU (by simp; omega) (by simp; omega),bnoS,aAX hs,bnoS,dU (by simp; omega) (by simp; omega),bnoS,e,ins_L1' (lo:=lo) (hi:=hi) (by simp; omega) h0 h1 hw (fun p hp=>?_),gl_ins hs hc hq hC hb hn]
    rcases As.1 hp with hp | hp
    · exact hwi p (by rw [hs]; simp [hp])
    · rcases AF.1 hp with rfl | hp
      · exact hx
      · exact hwi p (by rw [hs]; simp [hp])
   cases r with
   | nil =>
     rw [fQ,bndD,jC hs,ft,gdff,bnoS,bndD,bndD,AN,aQ]
     exact fin (fun p hp=>by cases hp)
   | cons p r =>
     rw [fQ,bndD,iS hs,Ap,gdtt,cX hs,bnoS,bndD,bndD,Bn]
     by_cases c1:p.At<a
     · rw [Ac c1,aU,w_at hs (by omega),bndD]
       exact aMy hl h0 h1 hw hwi hx hc hb hn r (q++[p]) f (by rw [hs]; simp) (by simpa using hf) (fun y hy=>by
        rcases As.1 hy with hy | hy
        · exact hq y hy
        · rcases AF.1 hy with rfl | hy
          · exact c1
          · cases hy)
     · rw [Aa c1,aQ]
       exact fin (fun y hy=>by injection hy with hy; subst hy; omega)
end Go.Fn
open List renaming take_of_length_le → BD
open Go Go.IL
namespace Go.Fn
theorem aDS (s:R12):limS s=min (lowS s+4096) 1099511627776:=rfl
theorem aC5 {s:R12} (h:RX s):jG s=some (limS s):=by
 have a:=h.b0; have b:=h.bh; have c:=h.rl; have d:=h.rm
 unfold jG limS
 rw [w64 (by omega) (by omega),bndD,w64 (by omega) (by omega),bndD,bndD,Int.min_comm]
theorem aLM {x:Pt} (hx:x.At≤pe x):∀ {l:List Pt},CP (pe x) l→jP x l=x::l
 | [],_=>rfl
 | p::r,h=>by
   have:=h.1
   have:=sE h.2.1
   unfold jP
   rw [Aq (by omega),Az (by omega)]
theorem one_ok {s:R12} (h:RX s) {a:Int} {c:Ai} (h1 : -1000000≤a) (h2:a<limS s):jO s a [c]=some (if a<s.ag∨hv s.ao a=true then (s,false) else (rB s ⟨a,[c]⟩,true)):=by
 have b0:=h.b0; have b:=h.bh; have c0:=h.rl; have d:=h.rm
 have hpl:=h.pl
 have hli:limS s=min (s.ag-s.ap.length+4096) 1099511627776:=rfl
 have hlo:lowS s=s.ag-s.ap.length:=rfl
 have es:(⟨s.ag,s.ap,s.ao⟩:R12)=s:=rfl
 unfold jO
 rw [bndD]
 by_cases c1:a<s.ag
 · rw [Ac c1,show (true == false)=false from rfl,gdff,bnoS,bndD,bndD,BO,show (true == false)=false from rfl,gdff,bnoS,bndD,BO,aU,Az (.inl c1)]
 · rw [Aa c1,show (false == false)=true from rfl,gdtt,aC5 h,bnoS,bndD,Aa (show ¬limS s≤a by omega),bndD,Bc,show (false == false)=true from rfl,gdtt,rhave h,bnoS,bndD,BF]
   by_cases c2:hv s.ao a=true
   · rw [c2,aU,Az (.inr rfl)]
   · have c2f:hv s.ao a=false:=Ia _ |>.mp c2
     have hn:bm s.ao a=none:=by
      unfold hv at c2f
      cases hb:bm s.ao a with
      | none=>rfl
      | some z=>rw [hb] at c2f; cases c2f
     rw [c2f,aQ,Aq (by rintro (hh | hh); exact c1 hh; cases hh),bndD]
     have hpx:pe (⟨a,[c]⟩:Pt)=a+1:=by show a+(([c]:List Ai).length:Int)=a+1; simp
     by_cases c3:s.ag<a
     · have hw:Wi (lowS s) (limS s) ⟨a,[c]⟩:=⟨by show lowS s≤a; omega,by rw [hpx]; omega⟩
       have hi:qB s.ao a [c]=some (jP ⟨a,[c]⟩ s.ao):=aMy (lo:=lowS s) (hi:=limS s) (by omega) (by omega) (by omega) (by omega) (fun p hp=>(h.wi p hp).1) hw h.cp c3 hn s.ao [] fuel rfl (bK (by omega)) (fun _ hp=>by cases hp)
       rw [Ac c3,aU,hi,bnoS]
       obtain ⟨j1,_⟩:=aFc s.ao (x:=⟨a,[c]⟩) h.cp c3 (by simp)
       unfold rB
       cases hj:jP ⟨a,[c]⟩ s.ao with
       | nil =>
         have:=(aFc s.ao (x:=⟨a,[c]⟩) h.cp c3 (by simp)).2 a
         rw [hj,hn,Co,pN (by rw [hpx]; show a≤a∧_; omega)] at this
         exact AP this.symm (pL (by rw [hpx]; show a≤a∧_; omega))
       | cons p r =>
         rw [hj] at j1
         have:=j1.1
         simp only
         rw [Aq (by omega)]
     · have ea:a=s.ag:=by omega
       subst ea
       rw [Aa c3,aQ,w64 (by omega) (by omega),bndD,sM (by simp; omega),bnoS,bndD]
       unfold rB
       cases hP:s.ao with
       | nil =>
         rw [show decide ((0:Int)<(([]:List Pt).length:Int))=false from rfl,ft,gdff,bnoS,bndD,bndD,AN,aQ]
         show _=some ((if s.ag=s.ag then (⟨pe ⟨s.ag,[c]⟩,s.ap++[c],[]⟩:R12) else _),true)
         rw [Az rfl,hpx]
       | cons p r =>
         have hcp:=h.cp
         rw [hP] at hcp
         have hp1:=hcp.1
         have hpp:=sE hcp.2.1
         have hp:p∈s.ao:=by rw [hP]; simp
         have hw:=(h.wi p hp).1
         have hpl:=hw.len
         have hw1:=hw.1; have hw2:=hw.2
         have e3:pe p=p.At+(p.aj.length:Int):=rfl
         rw [show decide ((0:Int)<((p::r).length:Int))=true from Ac (by rw [Ao]; omega),Ap,gdtt,show gix (p::r) 0=some p from rfl,bnoS,bndD,bndD,Bn]
         unfold jP
         rw [Aq (show ¬pe p<s.ag by omega),hpx]
         by_cases c4:p.At=s.ag+1
         · rw [Ac c4,aU,bnoS,w64 (by omega) (by omega),bndD,bnoS,sM (by simp; omega),bnoS,show cut (p::r) 1 ((p::r).length:Int)=some r from aAX (p:=[p]) (r:=r) rfl,bnoS,Aq (by omega)]
           have em:mg p ⟨s.ag,[c]⟩=⟨s.ag,[c]++p.aj⟩:=by
            unfold mg
            rw [Aq (by show ¬p.At≤s.ag; omega)]
            show (⟨s.ag,([c]:List Ai).take (p.At-s.ag).toNat++p.aj++([c]:List Ai).drop (pe p-s.ag).toNat⟩:Pt)=_
            rw [BD (by simp; omega),EQ (by simp; omega),AQ]
           have epe:pe (⟨s.ag,[c]++p.aj⟩:Pt)=pe p:=by
            show s.ag+(([c]++p.aj).length:Int)=_
            rw [Ae,AZ]; omega
           rw [em,aLM (by rw [epe]; show s.ag≤pe p; omega) (by rw [epe]; exact hcp.2.2)]
           show _=some ((if s.ag=s.ag then (⟨pe ⟨s.ag,[c]++p.aj⟩,s.ap++([c]++p.aj),r⟩:R12) else _),true)
           rw [Az rfl,epe,Ax,c4.symm]; rfl
         · rw [Aa c4,aQ,Az (by omega)]
           show _=some ((if s.ag=s.ag then (⟨pe ⟨s.ag,[c]⟩,s.ap++[c],p::r⟩:R12) else _),true)
           rw [Az rfl,hpx]
theorem bm_take {a:Int} {str q r:List Ai} {c:Ai} (hs:str=q++c::r) (n:Int):bm [(⟨a,q++[c]⟩:Pt)] n=(bm [(⟨a,q⟩:Pt)] n).or (bm [(⟨a+(q.length:Int),[c]⟩:Pt)] n):=by
 have e1:pe (⟨a,q++[c]⟩:Pt)=a+(q.length:Int)+1:=by show a+((q++[c]).length:Int)=_; rw [Ae,AZ]; omega
 have e2:pe (⟨a,q⟩:Pt)=a+(q.length:Int):=rfl
 have e3:pe (⟨a+(q.length:Int),[c]⟩:Pt)=a+(q.length:Int)+1:=by show a+(q.length:Int)+(([c]:List Ai).length:Int)=_; simp
 by_cases h1:a≤n∧n<a+(q.length:Int)
 · rw [pN (p:=⟨a,q++[c]⟩) (by rw [e1]; show a≤n∧_; omega),pN (p:=⟨a,q⟩) (by rw [e2]; exact h1),aDM (pL (p:=⟨a,q⟩) (by rw [e2]; exact h1))]
   show (q++[c])[(n-a).toNat]? = q[(n-a).toNat]?
   rw [AX (by omega)]
 · rw [lK (p:=⟨a,q⟩) (by rw [e2]; exact h1),show bm [] n=none from rfl,Co]
   by_cases h2:n=a+(q.length:Int)
   · rw [pN (p:=⟨a,q++[c]⟩) (by rw [e1]; show a≤n∧_; omega),pN (p:=⟨a+(q.length:Int),[c]⟩) (by rw [e3]; show a+(q.length:Int)≤n∧_; omega)]
     show (q++[c])[(n-a).toNat]? = ([c]:List Ai)[(n-(a+(q.length:Int))).toNat]?
     rw [Bg (by omega)]
     congr 1; omega
   · rw [lK (p:=⟨a,q++[c]⟩) (by rw [e1]; show ¬(a≤n∧_); omega),lK (p:=⟨a+(q.length:Int),[c]⟩) (by rw [e3]; show ¬(a+(q.length:Int)≤n∧_); omega)]
theorem aCU {s:R12} (h:RX s):∀ (r q:List Pt) (f:Nat) (e:Int),s.ao=q++r→r.length<f→CP e r→gH s f e (q.length:Int)=some 0
 | _,_,0,_,_,hf,_=>AP hf (by omega)
 | [],q,f+1,e,hs,_,_=>by
   rw [gH,bndD,jC hs,aQ]
 | p::r,q,f+1,e,hs,hf,hc=>by
   have hp:p∈s.ao:=by rw [hs]; simp
   have hw:=(h.wi p hp).1
   have hl:=hw.len
   have h1:=hw.1; have h2:=hw.2
   have h3:=hc.1
   have a:=h.b0; have b:=h.bh; have c:=h.rl; have d:=h.rm
   have hpl:=h.pl
   have e2:pe p=p.At+(p.aj.length:Int):=rfl
   have hlo:lowS s=s.ag-s.ap.length:=rfl
   have hli:limS s=min (s.ag-s.ap.length+4096) 1099511627776:=rfl
   have hrec:=aCU h r (q++[p]) f (pe p) (by rw [hs]; simp) (by simpa using hf) hc.2.2
   unfold gH
   simp only [bndD,iS hs,aU,cX hs,bnoS,Aa (show ¬p.At≤e by omega),Aa hc.2.1,Bc,Ap,gdtt,aC5 h,Aa (show ¬limS s<p.At by omega),w64 (show -9223372036854775808≤limS s-p.At by omega) (by omega),Aa (show ¬limS s-p.At<(p.aj.length:Int) by omega),aQ,w64 (show -9223372036854775808≤p.At+(p.aj.length:Int) by omega) (by omega),w_at hs (by omega)]
   rw [←e2]
   exact hrec
theorem aDB {s:R12} (h:RX s):jH s=some 0:=by
 have b:=h.b0; have c:=h.bh; have d:=h.rl; have e:=h.rm
 unfold jH
 simp only [bndD,Aa (show ¬s.ag<0 by omega),Aa (show ¬1099511627776<s.ag by omega),Bc,Aa (show ¬(4096:Int)<(s.ap.length:Int) by omega),Aa (show ¬s.ag<(s.ap.length:Int) by omega),aQ]
 exact aCU h s.ao [] fuel s.ag rfl (bK (by have:=h.pl; omega)) h.cp
theorem rread12 {s:R12} (h:RX s) (n:Int):pA s n=some (aCI s n,s.ap.take (yX s n)):=by
 have d:=h.rm
 unfold pA aCI yX
 rw [aDB h,bnoS,bndD,Ac rfl,bndD,bndD]
 by_cases c:n<1
 · rw [Ac c,Az c]; rfl
 · rw [Aa c,Aq c,show (!true||false)=false from rfl,aQ,bndD,yQ (by omega) (by omega),bnoS,tW (by omega) (by omega),bnoS]
end Go.Fn
open List renaming pairwise_singleton → De
open Go Go.IL
namespace Go.Fn
def inI (v:Int):List Int→List Int
 | []=>[v]
 | y::r=>if y<v then y::inI v r else if y=v then y::r else v::y::r
theorem aFi (v x:Int):∀ l,x∈inI v l↔x=v∨x∈l
 | []=>by simp [inI]
 | y :: r=>by
   unfold inI
   by_cases c:y<v
   · rw [Az c,AF,aFi v x r,AF]
     constructor
     · rintro (h | h | h)
       · exact .inr (.inl h)
       · exact .inl h
       · exact .inr (.inr h)
     · rintro (h | h | h)
       · exact .inr (.inl h)
       · exact .inl h
       · exact .inr (.inr h)
   · rw [Aq c]
     by_cases d:y=v
     · rw [Az d]
       subst d
       exact ⟨.inr,fun h=>h.elim (fun e=>by rw [e]; simp) id⟩
     · rw [Aq d,AF]
theorem aMz {v:Int}:∀ {l:List Int},l.Pairwise (· < ·)→(inI v l).Pairwise (· < ·)
 | [],_=>De _ _
 | y :: r,h=>by
   obtain ⟨h1,h2⟩:=BE.1 h
   unfold inI
   by_cases c:y<v
   · rw [Az c]
     refine BE.2 ⟨fun z hz=>?_,aMz h2⟩
     rcases (aFi v z r).1 hz with rfl | hz
     · exact c
     · exact h1 z hz
   · rw [Aq c]
     by_cases d:y=v
     · rw [Az d]; exact h
     · rw [Aq d]
       refine BE.2 ⟨fun z hz=>?_,h⟩
       rcases AF.1 hz with rfl | hz
       · omega
       · have:=h1 z hz; omega
theorem aJe (v:Int):∀ l,(inI v l).length≤l.length+1
 | []=>AJ _
 | y::r=>by
   unfold inI
   have:=aJe v r
   split
   · simp; omega
   · split <;> simp
theorem aJ5 {all l:List Int} {i v:Int} (hi:0≤i∧i≤1000000) (hv:gix all i=some v) (hl:l.length≤100000) (kk:List Int→Int→Ad (List Int)):∀ (r p:List Int) (f:Nat),l=p++r→r.length<f →
 fL all l i kk f (p.length:Int)=kk (p++inI v r) (i+1)
 | _,_,0,_,hf=>AP hf (by omega)
 | [],p,f+1,hs,_=>by
   rw [AQ] at hs
   subst hs
   have hn:decide ((l.length:Int)<(l.length:Int))=false:=Aa (by omega)
   rw [fL]
   simp only [bndD,hn,ft,gdff,bnoS,AN,aQ,hv]
   rw [yQ (by omega) (AU _),bnoS,dU (by simp; omega) (by simp; omega),bnoS,dU (by simp; omega) (by simp; omega),bnoS,tW (by omega) (AU _),bnoS,dU (by simp; omega) (by simp; omega),bnoS,w64 (by omega) (by omega)]
   simp [inI]
 | y :: r,p,f+1,hs,hf=>by
   have hpl:p.length≤100000:=by rw [hs,Ae] at hl; omega
   rw [fL]
   simp only [bndD,iS hs,Ap,gdtt,cX hs,bnoS,hv,Bn]
   unfold inI
   by_cases c:y<v
   · have hrec:=aJ5 hi hv hl kk r (p++[y]) f (by rw [hs]; simp) (by simpa using hf)
     rw [Ac c,aU,Az c,w_at hs (by omega),hrec]
     simp
   · rw [Aa c,aQ,Aq c]
     by_cases d:y=v
     · rw [Ac d,aU,Az d,w64 (by omega) (by omega),←hs]
     · have hrl:p.length+(y::r).length≤100000:=by rw [hs,Ae] at hl; exact hl
       rw [Aa d,aQ,Aq d,aCi hs,bnoS,dU (by simp; omega) (by simp; omega),bnoS,dU (by simp; omega) (by simp; omega),bnoS,aAX hs,bnoS,dU (by simp at hrl ⊢; omega) (by simp at hrl ⊢; omega),bnoS,w64 (by omega) (by omega)]
       simp
theorem aJ6 {all:List Int} (hl:all.length≤90000):∀ (r q:List Int) (f:Nat) (acc:List Int),all=q++r→r.length<f→acc.Pairwise (· < ·)→acc.length≤q.length →
 ∃ e,cQ all f acc (q.length:Int)=some e∧e.Pairwise (· < ·)∧(∀ x,x∈e↔x∈acc∨x∈r)∧e.length≤90000
 | _,_,0,_,_,hf,_,_=>AP hf (by omega)
 | [],q,f+1,acc,hs,_,ha,hc=>by
   rw [cQ,bndD,jC hs,aQ]
   rw [AQ] at hs
   exact ⟨acc,rfl,ha,fun x=>by simp,by rw [hs] at hl; omega⟩
 | v :: r,q,f+1,acc,hs,hf,ha,hc=>by
   have hql:q.length+(v::r).length≤90000:=by rw [hs,Ae] at hl; exact hl
   rw [cQ,bndD,iS hs,aU]
   have h3:=aJ5 (all:=all) (l:=acc) (i:=(q.length:Int)) (v:=v) (by omega) (cX hs) (by omega) (cQ all f) acc [] fuel rfl (bK (by omega))
   have h3:fL all acc (q.length:Int) (cQ all f) fuel 0=_:=h3
   have hq1:(q.length:Int)+1=((q++[v]).length:Int):=by simp
   obtain ⟨e,e1,e2,e3,e4⟩:=aJ6 hl r (q++[v]) f (inI v acc) (by rw [hs]; simp) (by simpa using hf) (aMz ha) (by have:=aJe v acc; simp; omega)
   rw [h3,AE,hq1]
   refine ⟨e,e1,e2,fun x=>?_,e4⟩
   rw [e3,aFi,AF]
   constructor
   · rintro ((h | h) | h)
     · exact .inr (.inl h)
     · exact .inl h
     · exact .inr (.inr h)
   · rintro (h | h | h)
     · exact .inl (.inr h)
     · exact .inl (.inl h)
     · exact .inr h
def endL (l:List Iv):List Int:=l.flatMap fun x=>[x.aa,x.To]
theorem xZ:∀ l:List Iv,(endL l).length=2*l.length
 | []=>rfl
 | x::r=>by
   show ([x.aa,x.To]++endL r).length=_
   rw [Ae,xZ r]; simp; omega
theorem aJ7 {b:List Iv} {base:List Int} (hb:b.length≤20000) (hbl:base.length≤40000):∀ (r q:List Iv) (f:Nat),b=q++r→r.length<f →
 gZ b f (base++endL q) (q.length:Int)=cQ (base++endL b) fuel [] 0
 | _,_,0,_,hf=>AP hf (by omega)
 | [],q,f+1,hs,_=>by
   rw [gZ,bndD,jC hs,aQ]
   rw [AQ] at hs
   rw [hs]
 | x::r,q,f+1,hs,hf=>by
   have hq:q.length≤20000:=by rw [hs,Ae] at hb; omega
   have hrec:=aJ7 hb hbl r (q++[x]) f (by rw [hs]; simp) (by simpa using hf)
   have e:endL (q++[x])=endL q++[x.aa,x.To]:=by unfold endL; simp
   have hel:=xZ q
   rw [e,←Ax] at hrec
   rw [gZ,bndD,iS hs,aU,cX hs,bnoS,bnoS,dU (by simp; omega) (by simp; omega),bnoS,w_at hs (by omega),bndD]
   exact hrec
theorem aJ8 {a b:List Iv} (ha:a.length≤20000) (hb:b.length≤20000):∀ (r q:List Iv) (f:Nat),a=q++r→r.length<f →
 hU a b f (endL q) (q.length:Int)=cQ (endL a++endL b) fuel [] 0
 | _,_,0,_,hf=>AP hf (by omega)
 | [],q,f+1,hs,_=>by
   rw [hU,bndD,jC hs,aQ]
   rw [AQ] at hs
   have:=aJ7 hb (base:=endL a) (by rw [xZ]; omega) b [] fuel rfl (bK (by omega))
   have e:endL a++endL []=endL a:=by show endL a++[]=_; simp
   rw [e] at this
   rw [←hs]; exact this
 | x::r,q,f+1,hs,hf=>by
   have hq:q.length≤20000:=by rw [hs,Ae] at ha; omega
   have hrec:=aJ8 ha hb r (q++[x]) f (by rw [hs]; simp) (by simpa using hf)
   have e:endL (q++[x])=endL q++[x.aa,x.To]:=by unfold endL; simp
   have hel:=xZ q
   rw [e] at hrec
   rw [hU,bndD,iS hs,aU,cX hs,bnoS,bnoS,dU (by simp; omega) (by simp; omega),bnoS,w_at hs (by omega),bndD]
   exact hrec
theorem ends06 {a b:List Iv} (ha:a.length≤20000) (hb:b.length≤20000):∃ e,pB a b=some e∧e.Pairwise (· < ·)∧(∀ x,x∈e↔x∈endL a∨x∈endL b)∧e.length≤90000:=by
 have h0:pB a b=cQ (endL a++endL b) fuel [] 0:=aJ8 ha hb a [] fuel rfl (bK (by omega))
 have hl:(endL a++endL b).length≤90000:=by rw [Ae,xZ,xZ]; omega
 obtain ⟨e,e1,e2,e3,e4⟩:=aJ6 hl (endL a++endL b) [] fuel [] rfl (bK (by omega)) .nil (AJ _)
 refine ⟨e,h0.trans e1,e2,fun x=>?_,e4⟩
 rw [e3,As]
 exact ⟨fun h=>h.elim (fun h=>by cases h) id,.inr⟩
end Go.Fn
open List renaming getLast?_concat → GJ
open Go Go.IL
namespace Go.Fn
def hasI (l:List Iv) (n:Int):Bool:=l.any fun x=>decide (x.aa≤n)&&decide (n<x.To)
theorem rG {l:List Iv} {n:Int}:hasI l n=true↔mem n l:=by
 unfold hasI mem
 rw [Fe]; simp
theorem aJl {l:List Iv} (hl:l.length≤100000) (n:Int):∀ (r q:List Iv) (f:Nat),l=q++r→r.length<f→iO l n f (q.length:Int)=some (hasI r n)
 | _,_,0,_,hf=>AP hf (by omega)
 | [],q,f+1,hs,_=>by
   rw [iO,bndD,jC hs,aQ]; rfl
 | x :: r,q,f+1,hs,hf=>by
   have hrec:=aJl hl n r (q++[x]) f (by rw [hs]; simp) (by simpa using hf)
   have e:hasI (x::r) n=((decide (x.aa≤n)&&decide (n<x.To))||hasI r n):=rfl
   rw [iO,bndD,iS hs,aU,cX hs,bnoS,bndD,e]
   by_cases c:x.aa≤n
   · rw [Ac c,Ap,gdtt,bnoS,bndD,bndD,Bn]
     by_cases d:n<x.To
     · rw [Ac d,aU]; rfl
     · rw [Aa d,aQ,w_at hs (by omega),bndD,hrec,BF]
   · rw [Aa c,ft,gdff,bnoS,bndD,bndD,AN,aQ,w_at hs (by omega),bndD,hrec,AN,BF]
theorem has06 {l:List Iv} (hl:l.length≤100000) (n:Int):qD l n=some (hasI l n):=aJl hl n l [] fuel rfl (bK (by omega))
def p06 (l:List Iv) (x:Iv):List Iv:=match l.getLast? with
 | none=>[x]
 | some z=>if z.To<x.aa then l++[x] else l.dropLast++[⟨z.aa,x.To⟩]
theorem aI9 (p:List Iv) (z x:Iv):p06 (p++[z]) x=if z.To<x.aa then p++[z]++[x] else p++[⟨z.aa,x.To⟩]:=by
 unfold p06; rw [GJ,List.dropLast_concat]
theorem put06 {l:List Iv} (hl:l.length≤100000) (x:Iv):oC x l=some (p06 l x):=by
 unfold oC
 rcases Ch l with rfl | ⟨p,z,rfl⟩
 · rfl
 · rw [BY,aI9]
   rw [BY] at hl
   have hlen:(((p++[z]).length:Nat):Int)=(p.length:Int)+1:=by rw [Ae,AZ]; rfl
   have hl':p.length≤100000:=by rw [Ae] at hl; omega
   have hw:Ab .i64 (((p++[z]).length:Int)-1)=(p.length:Int):=by rw [hlen,w64 (by omega) (by omega)]; omega
   have hg:gix (p++[z]) (p.length:Int)=some z:=cX (p:=p) (r:=[]) rfl
   have hg2:(p++[z])[(p.length:Int).toNat]? = some z:=aFk (p:=p) (r:=[]) rfl
   have hz:decide (((p++[z]).length:Int)=0)=false:=Aa (by rw [hlen]; omega)
   simp only [bndD,hz,hw,Ap,gdtt,hg,bnoS,hg2,BF]
   by_cases c:z.To<x.aa
   · rw [Ac c,aU,Az c,dU (by simp; omega) (by simp; omega),bnoS]
   · rw [Aa c,aQ,Aq c,dU (by simp; omega) (by simp; omega),bnoS,AE,hg,bnoS,hg2,bnoS]
     congr 1
     rw [Au,CG _ _ (AJ _)]; simp
def kd (a b:List Iv) (how n:Int):Bool:=((decide (how=0)&&(hasI a n||hasI b n))||((decide (how=1)&&hasI a n) && !hasI b n))||((decide (how=2)&&hasI a n)&&hasI b n)
theorem aEs {l:List Iv} {e:List Int} (he:∀ x∈endL l,x∈e) {x y n:Int} (hxy:∀ z∈e,¬(x<z∧z<y)) (h1:x≤n) (h2:n<y):hasI l n=hasI l x:=by
 rw [BZ,rG,rG]
 constructor
 · rintro ⟨i,hi,a,b⟩
   refine ⟨i,hi,?_,by omega⟩
   have:=hxy i.aa (he _ (BQ.2 ⟨i,hi,by simp⟩))
   omega
 · rintro ⟨i,hi,a,b⟩
   refine ⟨i,hi,by omega,?_⟩
   have:=hxy i.To (he _ (BQ.2 ⟨i,hi,by simp⟩))
   omega
theorem aLK {a b:List Iv} {how:Int} {e:List Int} (ha:∀ x∈endL a,x∈e) (hb:∀ x∈endL b,x∈e) {x y n:Int} (hxy:∀ z∈e,¬(x<z∧z<y)) (h1:x≤n) (h2:n<y):kd a b how n=kd a b how x:=by
 unfold kd
 rw [aEs ha hxy h1 h2,aEs hb hxy h1 h2]
structure KO (a b:List Iv) (how:Int) (out:List Iv) (x:Int):Prop where
 pw:out.Pairwise (fun p q=>p.To<q.aa)
 ne:∀ z∈out,z.aa<z.To
 le:∀ z∈out,z.To≤x
 me:∀ n,mem n out↔n<x∧kd a b how n=true
theorem ko_put {a b:List Iv} {how:Int} {out:List Iv} {x y:Int} (h:KO a b how out x) (hxy:x<y) (hk:∀ n,x≤n→n<y→kd a b how n=true):KO a b how (p06 out ⟨x,y⟩) y:=by
 rcases Ch out with rfl | ⟨p,z,rfl⟩
 · refine ⟨De _ _,fun w hw=>?_,fun w hw=>?_,fun n=>?_⟩
   · rcases AF.1 hw with rfl | hw
     · exact hxy
     · cases hw
   · rcases AF.1 hw with rfl | hw
     · exact AU _
     · cases hw
   · show mem n [(⟨x,y⟩:Iv)]↔_
     rw [mem_cons]
     constructor
     · rintro (⟨h1,h2⟩ | ⟨_,hh,_⟩)
       · exact ⟨h2,hk n h1 h2⟩
       · cases hh
     · rintro ⟨h1,h2⟩
       by_cases c:x≤n
       · exact .inl ⟨c,h1⟩
       · obtain ⟨w,hw,_⟩:=(h.me n).2 ⟨by omega,h2⟩
         cases hw
 · rw [BY] at h ⊢
   have hz:=h.le z (by simp)
   have hzn:=h.ne z (by simp)
   have hpw:=Bm.1 h.pw
   have hme:∀ n,mem n (p++[z])↔n<x∧kd a b how n=true:=h.me
   rw [aI9]
   by_cases c:z.To<x
   · rw [Az c]
     refine ⟨Bm.2 ⟨h.pw,De _ _,fun u hu v hv=>?_⟩,fun w hw=>?_,fun w hw=>?_,fun n=>?_⟩
     · rcases AF.1 hv with rfl | hv
       · show u.To<x
         rcases As.1 hu with hu | hu
         · have:=hpw.2.2 u hu z (by simp); omega
         · rcases AF.1 hu with rfl | hu
           · exact c
           · cases hu
       · cases hv
     · rcases As.1 hw with hw | hw
       · exact h.ne w hw
       · rcases AF.1 hw with rfl | hw
         · exact hxy
         · cases hw
     · rcases As.1 hw with hw | hw
       · have:=h.le w hw; omega
       · rcases AF.1 hw with rfl | hw
         · exact AU _
         · cases hw
     · rw [aFb,hme]
       constructor
       · rintro (⟨h1,h2⟩ | ⟨h1,h2⟩)
         · exact ⟨by omega,h2⟩
         · exact ⟨h2,hk n h1 h2⟩
       · rintro ⟨h1,h2⟩
         by_cases d:n<x
         · exact .inl ⟨d,h2⟩
         · exact .inr ⟨by show x≤n; omega,h1⟩
   · rw [Aq c]
     have ez:z.To=x:=by show z.To=x; have c:¬ z.To<x:=c; omega
     refine ⟨Bm.2 ⟨hpw.1,De _ _,fun u hu v hv=>?_⟩,fun w hw=>?_,fun w hw=>?_,fun n=>?_⟩
     · rcases AF.1 hv with rfl | hv
       · exact hpw.2.2 u hu z (by simp)
       · cases hv
     · rcases As.1 hw with hw | hw
       · exact h.ne w (by simp [hw])
       · rcases AF.1 hw with rfl | hw
         · show z.aa<y; omega
         · cases hw
     · rcases As.1 hw with hw | hw
       · have:=h.le w (by simp [hw]); omega
       · rcases AF.1 hw with rfl | hw
         · exact AU _
         · cases hw
     · have h0:=hme n
       rw [aFb] at h0 ⊢
       constructor
       · rintro (h1 | ⟨h1,h2⟩)
         · obtain ⟨k1,k2⟩:=h0.1 (.inl h1)
           exact ⟨by omega,k2⟩
         · have h1:z.aa≤n:=h1
           have h2:n<y:=h2
           by_cases d:n<x
           · obtain ⟨k1,k2⟩:=h0.1 (.inr ⟨h1,by omega⟩)
             exact ⟨h2,k2⟩
           · exact ⟨h2,hk n (by omega) h2⟩
       · rintro ⟨h1,h2⟩
         by_cases d:n<x
         · rcases h0.2 ⟨d,h2⟩ with k | ⟨k1,k2⟩
           · exact .inl k
           · exact .inr ⟨k1,by show n<y; exact h1⟩
         · exact .inr ⟨by show z.aa≤n; omega,h1⟩
theorem ko_skip {a b:List Iv} {how:Int} {out:List Iv} {x y:Int} (h:KO a b how out x) (hxy:x<y) (hk:∀ n,x≤n→n<y→kd a b how n=false):KO a b how out y :=
 ⟨h.pw,h.ne,fun z hz=>by have:=h.le z hz; omega,fun n=>by
  rw [h.me]
  constructor
  · rintro ⟨h1,h2⟩; exact ⟨by omega,h2⟩
  · rintro ⟨h1,h2⟩
    by_cases d:n<x
    · exact ⟨d,h2⟩
    · rw [hk n (by omega) h1] at h2; cases h2⟩
theorem p06_len (l:List Iv) (x:Iv):(p06 l x).length≤l.length+1:=by
 rcases Ch l with rfl | ⟨p,z,rfl⟩
 · exact AJ _
 · rw [BY,aI9]; split <;> simp
theorem aMx {a b:List Iv} {how:Int} (hal:a.length≤100000) (hbl:b.length≤100000) {e:List Int} (he:e.Pairwise (· < ·)) (hel:e.length≤90000) (ha:∀ x∈endL a,x∈e) (hb:∀ x∈endL b,x∈e):∀ (r q:List Int) (x:Int) (f:Nat) (out:List Iv),e=q++x::r→r.length<f→KO a b how out x→out.length≤q.length →
 ∃ o y,eR a b how e f out ((q.length:Int)+1)=some o∧KO a b how o y∧(∀ z∈e,z≤y)
 | _,_,_,0,_,_,hf,_,_=>AP hf (by omega)
 | [],q,x,f+1,out,hs,_,h,_=>by
   have hn:decide ((q.length:Int)+1<(e.length:Int))=false:=Aa (by rw [hs]; simp)
   rw [eR,bndD,hn,aQ]
   refine ⟨out,x,rfl,h,fun z hz=>?_⟩
   rw [hs] at hz he
   rcases As.1 hz with hz | hz
   · have:=(Bm.1 he).2.2 z hz x (by simp); omega
   · rcases AF.1 hz with rfl | hz
     · exact AU _
     · cases hz
 | y :: r,q,x,f+1,out,hs,hf,h,ho=>by
   have hs2:e=(q++[x])++y::r:=by rw [hs]; simp
   have hq1:(((q++[x]).length:Nat):Int)=(q.length:Int)+1:=by rw [Ae,AZ]; rfl
   have hql:q.length+2≤90000:=by rw [hs] at hel; simp at hel; omega
   have hl:=iS hs2
   have hg:=cX hs2
   have hw:=w_at hs2 (by omega)
   have hgx:=cX hs
   rw [hq1] at hl hg hw
   have hwm:Ab .i64 ((q.length:Int)+1-1)=(q.length:Int):=by rw [w64 (by omega) (by omega)]; omega
   have hpw:=he
   rw [hs] at hpw
   have hp2:=Bm.1 hpw
   have hp3:=BE.1 hp2.2.1
   have hxy:x<y:=hp3.1 y (by simp)
   have hgap:∀ z∈e,¬(x<z∧z<y):=fun z hz=>by
    rw [hs] at hz
    rcases As.1 hz with hz | hz
    · have:=hp2.2.2 z hz x (by simp); omega
    · rcases AF.1 hz with rfl | hz
      · omega
      · rcases AF.1 hz with rfl | hz
        · omega
        · have:=(BE.1 hp3.2).1 z hz; omega
   have hco:∀ n,x≤n→n<y→kd a b how n=kd a b how x:=fun n h1 h2=>aLK ha hb hgap h1 h2
   rw [eR,bndD,hl,aU]
   simp only [bndD,hwm,hgx,bnoS,has06 hal,has06 hbl,hg]
   have ek:(((decide (how=0)&&(hasI a x||hasI b x))||((decide (how=1)&&hasI a x) && !hasI b x))||((decide (how=2)&&hasI a x)&&hasI b x))=kd a b how x:=rfl
   rw [ek,hw]
   have hfin:=fun out' (hk:KO a b how out' y) (hlen:out'.length≤(q++[x]).length)=>aMx hal hbl he hel ha hb r (q++[x]) y f out' hs2 (by simpa using hf) hk hlen
   rw [show (((q++[x]++[y]).length:Nat):Int)=((q++[x]).length:Int)+1 by rw [Ae,AZ]; rfl]
   cases hk:kd a b how x with
   | true =>
     rw [aU,put06 (by omega),bnoS]
     exact hfin _ (ko_put h hxy fun n h1 h2=>(hco n h1 h2).trans hk) (by have:=p06_len out ⟨x,y⟩; rw [Ae,AZ]; omega)
   | false =>
     rw [aQ]
     exact hfin _ (ko_skip h hxy fun n h1 h2=>(hco n h1 h2).trans hk) (by rw [Ae]; omega)
theorem aJM {a b:List Iv} {how:Int} (hal:a.length≤20000) (hbl:b.length≤20000):∃ o,kG a b how=some o∧o.Pairwise (fun p q=>p.To<q.aa)∧(∀ z∈o,z.aa<z.To)∧∀ n,mem n o↔kd a b how n=true:=by
 obtain ⟨e,e1,e2,e3,e4⟩:=ends06 hal hbl
 have ha:∀ x∈endL a,x∈e:=fun x hx=>(e3 x).2 (.inl hx)
 have hb:∀ x∈endL b,x∈e:=fun x hx=>(e3 x).2 (.inr hx)
 have hin:∀ n,kd a b how n=true→∃ u v,u∈e∧v∈e∧u≤n∧n<v:=fun n hn=>by
  have:hasI a n=true∨hasI b n=true:=by
   unfold kd at hn
   cases h1:hasI a n
   · cases h2:hasI b n
     · rw [h1,h2] at hn; simp at hn
     · exact .inr rfl
   · exact .inl rfl
  rcases this with h | h
  · obtain ⟨i,hi,h1,h2⟩:=rG.1 h
    exact ⟨i.aa,i.To,ha _ (BQ.2 ⟨i,hi,by simp⟩),ha _ (BQ.2 ⟨i,hi,by simp⟩),h1,h2⟩
  · obtain ⟨i,hi,h1,h2⟩:=rG.1 h
    exact ⟨i.aa,i.To,hb _ (BQ.2 ⟨i,hi,by simp⟩),hb _ (BQ.2 ⟨i,hi,by simp⟩),h1,h2⟩
 unfold kG
 rw [e1,bnoS]
 cases hE:e with
 | nil =>
   obtain ⟨f,hf⟩:∃ f,fuel=f+1:=⟨fuel-1,by have:=bK (n:=1) (by decide); omega⟩
   rw [hf,eR,bndD]
   refine ⟨[],rfl,.nil,fun _ h=>(by cases h),fun n=>⟨fun h=>(by obtain ⟨x,hx,_⟩:=h; cases hx),fun hn=>?_⟩⟩
   obtain ⟨u,v,hu,_⟩:=hin n hn
   rw [hE] at hu; cases hu
 | cons x r =>
   have hs:e=[]++x::r:=hE
   have hfst:∀ z∈e,x≤z:=fun z hz=>by
    rw [hE] at hz e2
    rcases AF.1 hz with rfl | hz
    · exact AU _
    · have:=(BE.1 e2).1 z hz; omega
   have h0:KO a b how [] x:=by
    refine ⟨.nil,fun _ h=>(by cases h),fun _ h=>(by cases h),fun n=>⟨fun h=>?_,fun h=>?_⟩⟩
    · obtain ⟨w,hw,_⟩:=h
      cases hw
    · obtain ⟨h1,h2⟩:=h
      obtain ⟨u,v,hu,_,hh,_⟩:=hin n h2
      have:=hfst u hu
      omega
   obtain ⟨o,y,o1,o2,o3⟩:=aMx (how:=how) (by omega) (by omega) e2 e4 ha hb r [] x fuel [] hs (bK (by rw [hE] at e4; simp at e4; omega)) h0 (AJ _)
   rw [hE] at o1
   refine ⟨o,o1,o2.pw,o2.ne,fun n=>?_⟩
   rw [o2.me]
   refine ⟨fun h=>h.2,fun h=>⟨?_,h⟩⟩
   obtain ⟨u,v,_,hv,_,hh⟩:=hin n h
   have:=o3 v hv; omega
end Go.Fn
open Go Go.IL
namespace Go.Fn
theorem may06 {x:Iv} (h:0≤x.aa∧x.aa≤4398046511104∧0≤x.To∧x.To≤4398046511104):lS ⟨x.aa,x.To⟩=some true:=by
 unfold lS rD
 simp only [bndD,bnoS,Ac (show 0≤x.aa by omega),Ac (show x.aa≤4611686018427387903 by omega),Bs,Ap,gdtt,Ac (show 0≤x.To by omega),Ac (show x.To≤4611686018427387903 by omega)]
theorem VS.rg {l:List Iv} (h:VS l) {x:Iv} (hx:x∈l):0≤x.aa∧x.aa≤4398046511104∧0≤x.To∧x.To≤4398046511104:=by
 have:=h.lo x hx; have:=h.hi x hx; have:=h.ne x hx
 omega
theorem aCj {l:List Iv} (hl:l.length≤100000) (h:VS l):∀ (r q:List Iv) (x:Iv) (f:Nat),l=q++x::r→r.length<f→fD l f ((q.length:Int)+1)=some 0
 | _,_,_,0,_,hf=>AP hf (by omega)
 | [],q,x,f+1,hs,_=>by
   rw [fD,bndD,Aa (show ¬(q.length:Int)+1<(l.length:Int) by rw [hs]; simp),aQ]
 | y::r,q,x,f+1,hs,hf=>by
   have hs2:l=(q++[x])++y::r:=by rw [hs]; simp
   have hq1:(((q++[x]).length:Nat):Int)=(q.length:Int)+1:=by rw [Ae,AZ]; rfl
   have hl2:=iS hs2
   have hg:=cX hs2
   have hw:=w_at hs2 (by omega)
   rw [hq1] at hl2 hg hw
   have hql:q.length≤100000:=by rw [hs] at hl; simp at hl; omega
   have hwm:Ab .i64 ((q.length:Int)+1-1)=(q.length:Int):=by rw [w64 (by omega) (by omega)]; omega
   have hlt:x.To<y.aa:=by
    have:=h.pw
    rw [hs] at this
    exact (BE.1 (Bm.1 this).2.1).1 y (by simp)
   have hrec:=aCj hl h r (q++[x]) y f hs2 (by simpa using hf)
   rw [hq1] at hrec
   rw [fD,bndD,hl2,aU,hg,bnoS,bndD,hwm,cX hs,bnoS,bndD,Aa (show ¬y.aa≤x.To by omega),aQ,hw,bndD]
   rw [show (((q++[x]++[y]).length:Nat):Int)=(q.length:Int)+1+1 by rw [Ae,Ae,AZ,AZ]; rfl]
   exact hrec
theorem aCk {l:List Iv} (hl:l.length≤100000) (h:VS l):∀ (r q:List Iv) (f:Nat),l=q++r→r.length<f→gI l f (q.length:Int)=some 0
 | _,_,0,_,hf=>AP hf (by omega)
 | [],q,f+1,hs,_=>by
   rw [gI,bndD,jC hs,aQ]
   cases hL:l with
   | nil =>
     obtain ⟨g,hg⟩:∃ g,fuel=g+1:=⟨fuel-1,by have:=bK (n:=1) (by decide); omega⟩
     rw [hg,fD,bndD]; rfl
   | cons x t =>
     have:=aCj hl h t [] x fuel hL (bK (by rw [hL] at hl; simp at hl; omega))
     rw [hL] at this
     exact this
 | x::r,q,f+1,hs,hf=>by
   have hx:=h.ne x (by rw [hs]; simp)
   rw [gI,bndD,iS hs,aU,cX hs,bnoS,bnoS,bndD,Aa (show ¬x.To≤x.aa by omega),aQ,w_at hs (by omega),bndD]
   exact aCk hl h r (q++[x]) f (by rw [hs]; simp) (by simpa using hf)
theorem aCl {l:List Iv} (hl:l.length≤100000) (h:VS l):∀ (r q:List Iv) (f:Nat),l=q++r→r.length<f→gJ l f (q.length:Int)=some 0
 | _,_,0,_,hf=>AP hf (by omega)
 | [],q,f+1,hs,_=>by
   rw [gJ,bndD,jC hs,aQ]
   exact aCk hl h l [] fuel rfl (bK (by omega))
 | x::r,q,f+1,hs,hf=>by
   rw [gJ,bndD,iS hs,aU,cX hs,bnoS,may06 (h.rg (by rw [hs]; simp)),bnoS,Ah,aQ,w_at hs (by omega),bndD]
   exact aCl hl h r (q++[x]) f (by rw [hs]; simp) (by simpa using hf)
theorem aB7 {l:List Iv} (hl:l.length≤100000) (h:VS l):iB l=some 0:=aCl hl h l [] fuel rfl (bK (by omega))
def oneL (x:Iv):List Iv:=if x.To≤x.aa then [] else [x]
theorem one06 (x:Iv):nE ⟨x.aa,x.To⟩=some (oneL x):=by
 unfold nE oneL
 rw [bndD]
 by_cases c:x.To≤x.aa
 · rw [Ac c,aU,Az c]
 · rw [Aa c,aQ,Aq c]
theorem aDO (x:Iv) (n:Int):hasI (oneL x) n=true↔x.aa≤n∧n<x.To:=by
 rw [rG]
 unfold oneL
 by_cases c:x.To≤x.aa
 · rw [Az c]
   exact ⟨fun h=>(by obtain ⟨w,hw,_⟩:=h; cases hw),fun h=>(by omega)⟩
 · rw [Aq c,mem_cons]
   exact ⟨fun h=>h.resolve_right (fun k=>(by obtain ⟨w,hw,_⟩:=k; cases hw)),.inl⟩
theorem aGL (x:Iv):(oneL x).length≤1:=by unfold oneL; split <;> simp
theorem kd0 (a b:List Iv) (n:Int):kd a b 0 n=true↔hasI a n=true∨hasI b n=true:=by unfold kd; simp
theorem kd1 (a b:List Iv) (n:Int):kd a b 1 n=true↔hasI a n=true∧¬ hasI b n=true:=by unfold kd; simp
theorem kd2 (a b:List Iv) (n:Int):kd a b 2 n=true↔hasI a n=true∧hasI b n=true:=by unfold kd; simp
theorem cut06 {s:List Iv} {x:Iv} (hl:s.length≤9000) (h:VS s) (hx:0≤x.aa∧x.aa≤4398046511104∧0≤x.To∧x.To≤4398046511104):iH s x=some (if x.To≤x.aa then s else cutS s x):=by
 obtain ⟨o,o1,o2,o3,o4⟩:=aJM (a:=s) (b:=oneL x) (how:=1) (by omega) (by have:=aGL x; omega)
 have e:o=if x.To≤x.aa then s else cutS s x:=by
  by_cases c:x.To≤x.aa
  · rw [Az c]
    refine aDY o2 h.pw o3 h.ne fun n=>?_
    rw [o4,kd1,aDO,rG]
    exact ⟨fun h=>h.1,fun h=>⟨h,fun hh=>by omega⟩⟩
  · rw [Aq c]
    have hv:=aFu h (x:=x) (by omega)
    refine aDY o2 hv.pw o3 hv.ne fun n=>?_
    rw [o4,kd1,aDO,rG,aDo (by omega)]
 unfold iH
 rw [aB7 (by omega) h,bnoS,bndD,Ac rfl,show ((!true) == false)=true from rfl,gdtt,may06 hx,bnoS,bndD,show (!true || !true)=false from rfl,aQ,one06,bnoS,o1,bnoS,e]
theorem add06 {s o':List Iv} {x:Iv} (hl:s.length≤9000) (h:VS s) (hx:0≤x.aa∧x.aa≤4398046511104∧0≤x.To∧x.To≤4398046511104) (hp:o'.Pairwise (fun p q=>p.To<q.aa)) (hn:∀ z∈o',z.aa<z.To) (hm:∀ n,mem n o'↔mem n s∨(x.aa≤n∧n<x.To)):nF s x=some o':=by
 obtain ⟨o,o1,o2,o3,o4⟩:=aJM (a:=s) (b:=oneL x) (how:=0) (by omega) (by have:=aGL x; omega)
 have e:o=o':=aDY o2 hp o3 hn fun n=>by rw [o4,kd0,aDO,rG,hm]
 unfold nF
 rw [aB7 (by omega) h,bnoS,bndD,Ac rfl,show ((!true) == false)=true from rfl,gdtt,may06 hx,bnoS,bndD,show (!true || !true)=false from rfl,aQ,one06,bnoS,o1,bnoS,e]
theorem meet06 {s:List Iv} {x:Iv} (hl:s.length≤9000) (h:VS s) (hx:0≤x.aa∧x.aa<x.To∧x.To≤4398046511104) (hd:∀ n,x.aa≤n→n<x.To→¬ mem n s):pC [⟨x.aa,x.To⟩] s=some []:=by
 obtain ⟨o,o1,o2,o3,o4⟩:=aJM (a:=[⟨x.aa,x.To⟩]) (b:=s) (how:=2) (by simp) (by omega)
 have e:o=[]:=by
  cases o with
  | nil=>rfl
  | cons z r =>
    have hz:=o3 z (by simp)
    obtain ⟨k1,k2⟩:=(kd2 _ _ _).1 ((o4 z.aa).1 ⟨z,by simp,by omega,hz⟩)
    obtain ⟨w,hw,h1,h2⟩:=rG.1 k1
    rcases AF.1 hw with rfl | hw
    · exact AP (rG.1 k2) (hd _ h1 h2)
    · cases hw
 have h1:∀ z∈[(⟨x.aa,x.To⟩:Iv)],z=⟨x.aa,x.To⟩:=fun z hz=>by
  rcases AF.1 hz with e | hz
  · exact e
  · cases hz
 have hv:VS [(⟨x.aa,x.To⟩:Iv)]:=⟨De _ _,fun z hz=>(by rw [h1 z hz]; exact hx.2.1),fun z hz=>(by rw [h1 z hz]; exact hx.1),fun z hz=>(by rw [h1 z hz]; exact hx.2.2)⟩
 unfold pC
 rw [aB7 (by simp) hv,bnoS,bndD,Ac rfl,show ((!true) == false)=true from rfl,gdtt,aB7 (by omega) h,bnoS,bndD,Ac rfl,bndD,show (!true || !true)=false from rfl,aQ,o1,bnoS,e]
end Go.Fn
open Bool renaming false_eq_true → Cq
open List renaming take_zero → DM
open Go Go.IL
namespace Go.Fn
theorem aBe {s:S23} (h:G s):cS s=some (endS s):=by
 obtain ⟨n1,n2,n3,n4⟩:=h.num
 have e:endS s=s.ag+(s.aj.length:Int):=rfl
 unfold cS
 rw [←e,w64 (by omega) (by omega),bndD]
theorem rmeets {s:S23} (h:G s) {p:Pc} (hp:p∈s.ah):nU p s.ay=some false:=by
 obtain ⟨⟨a1,a2,a3⟩,a4,a5⟩:=h.pb p hp
 obtain ⟨n1,n2,n3,n4⟩:=h.num
 have hl:=h.ll
 unfold nU
 rw [bndD]
 by_cases c:p.aa=p.To
 · rw [Ac c,aU]
 · rw [Aa c,aQ,meet06 (x:=⟨p.aa,p.To⟩) (by omega) h.lv (by show 0≤p.aa∧p.aa<p.To∧p.To≤_; omega) (h.pd p hp),bnoS]; rfl
theorem aIl {s:S23} (hl:s.ah.length≤100000):∀ (r q:List Pc) (f:Nat),s.ah=q++r→r.length<f→fI s f (fins q:Int) (q.length:Int)=some (fins s.ah:Int)
 | _,_,0,_,hf=>AP hf (by omega)
 | [],q,f+1,hs,_=>by
   rw [fI,bndD,jC hs,aQ]
   rw [AQ] at hs
   rw [hs]
 | x :: r,q,f+1,hs,hf=>by
   have hrec:=aIl hl r (q++[x]) f (by rw [hs]; simp) (by simpa using hf)
   have hfl:fins q≤q.length:=DV _ _
   have hq:q.length≤100000:=by rw [hs,Ae] at hl; omega
   rw [wG] at hrec
   rw [fI,bndD,iS hs,aU,cX hs,bnoS]
   cases hF:x.bx with
   | true =>
     have e:fins [x]=1:=by simp [fins,hF]
     rw [e] at hrec
     rw [aU,w64 (by omega) (by omega),bndD,w_at hs (by omega),bndD]
     exact hrec
   | false =>
     have e:fins [x]=0:=by simp [fins,hF]
     rw [e] at hrec
     rw [aQ,w_at hs (by omega),bndD]
     exact hrec
theorem aEH {s:S23} (h:G s) (w:Int):∀ (r q:List Pc) (f:Nat),s.ah=q++r→r.length<f→fP s w f (q.length:Int)=some (decide ((fins s.ah:Int)=w))
 | _,_,0,_,hf=>AP hf (by omega)
 | [],q,f+1,hs,_=>by
   have hpl:=h.pl
   have hf0:rW s=some (fins s.ah:Int):=aIl (by omega) s.ah [] fuel rfl (bK (by omega))
   rw [fP,bndD,jC hs,aQ,hf0,bnoS,bndD]
 | x :: r,q,f+1,hs,hf=>by
   have hx:x∈s.ah:=by rw [hs]; simp
   have hpl:=h.pl
   have hrec:=aEH h w r (q++[x]) f (by rw [hs]; simp) (by simpa using hf)
   rw [fP,bndD,iS hs,aU,cX hs,bnoS]
   cases hF:x.bx with
   | true =>
     rw [Ap,gdtt,bnoS,gdtt,aBe h,bnoS,bndD,Ac (h.fe x hx hF),bndD,show (true && !true)=false from rfl,aQ,w_at hs (by omega),bndD,hrec]
   | false =>
     rw [ft,gdff,bnoS,gdff,bnoS,bndD,bndD,AN,aQ,w_at hs (by omega),bndD,hrec]
theorem rstates {s:S23} (h:G s):mZ s=some true:=by
 have hpl:=h.pl
 have hc:=h.fc
 have hL:=fun w=>aEH h w s.ah [] fuel rfl (bK (by omega))
 have hL:∀ w,kN s w=some (decide ((fins s.ah:Int)=w)):=hL
 unfold mZ
 cases hS:s.az
 · obtain ⟨h1,h2⟩:=h.ns hS
   rw [hS] at hc
   simp only [Cq,false_and,if_false] at hc
   simp only [h1,h2,ft,AN,gdff,bnoS,bndD,Bc,aQ,hL,hc,show (false == true)=false from rfl]
   rfl
 · obtain ⟨h1,h2,h3⟩:=h.se hS
   rw [hS] at hc
   simp only [h1,Ah,Ap,Bs,gdtt,aBe h,bnoS,bndD,Ac h2,Bc,Ca,hL]
   cases hA:s.ax <;> cases hD:s.ba <;> rw [hA,hD] at hc h3 <;> simp at hc h3 <;> simp [hc]
theorem aEO {s:S23} (h:G s):∀ (r q:List Pc) (f:Nat) (at_:Int),s.ah=q++r→r.length<f→(∀ p∈r,at_≤p.aa)→fC s f at_ (q.length:Int)=some 0
 | _,_,0,_,_,hf,_=>AP hf (by omega)
 | [],q,f+1,at_,hs,_,_=>by
   rw [fC,bndD,jC hs,aQ,rstates h,bnoS,Ah,aQ]
 | x::r,q,f+1,at_,hs,hf,ha=>by
   have hx:x∈s.ah:=by rw [hs]; simp
   have hpl:=h.pl
   obtain ⟨⟨a1,a2,a3⟩,a4,a5⟩:=h.pb x hx
   have hax:=ha x (by simp)
   have hfin:(decide (x.aa=x.To) && !x.bx)=false:=by
    by_cases c:x.aa=x.To
    · rw [Ac c,h.pf x hx c]; rfl
    · rw [Aa c]; rfl
   have hrec:=aEO h r (q++[x]) f x.To (by rw [hs]; simp) (by simpa using hf) (fun p hp=>by
    have:=h.pw
    rw [hs] at this
    exact (BE.1 (Bm.1 this).2.1).1 p hp)
   unfold fC
   simp only [bndD,iS hs,aU,cX hs,bnoS,Aa (show ¬x.aa<at_ by omega),Aa (show ¬x.To<x.aa by omega),Aa (show ¬s.ak<x.To by omega),hfin,Aa (show ¬x.bu<0 by omega),Aa (show ¬4≤x.bu by omega),Bc,Ap,gdtt,rmeets h hx,aQ,w_at hs (show s.ah.length≤1000000 by omega)]
   exact hrec
theorem uD {s:S23} (h:G s):eY s=some 0:=by
 obtain ⟨n1,n2,n3,n4⟩:=h.num
 have hd:=h.dl
 have hl:=h.ll
 have e:endS s=s.ag+(s.aj.length:Int):=rfl
 have hend:=aEO h s.ah [] fuel s.ag rfl (bK (by have:=h.pl; omega)) (fun q hq=>(h.pb q hq).1.1)
 have hend:fC s fuel s.ag 0=some 0:=hend
 unfold eY
 simp only [bndD,Aa (show ¬s.ag<0 by omega),Aa (show ¬1099511623680<s.ag by omega),Bc,Aa (show ¬s.ak<s.ag by omega),w64 (show -9223372036854775808≤s.ak-s.ag by omega) (by omega),Aa (show ¬(s.aj.length:Int)<s.ak-s.ag by omega),Aa (show ¬(4096:Int)<(s.aj.length:Int) by omega),aQ,aB7 (show s.ay.length≤100000 by omega) h.lv,bnoS,decide_true,Ah]
 cases hs:s.ay with
 | nil =>
   simp only [Bj,show decide ((0:Int)<((0:Nat):Int))=false from rfl,ft,Ca,AN,gdff,bnoS,Bc,aQ]
   exact hend
 | cons x r =>
   obtain ⟨p,y,hy⟩:∃ p y,x::r=p++[y]:=by
    rcases Ch (x::r) with h | ⟨p,y,h⟩
    · cases h
    · exact ⟨p,y,by rw [h,BY]⟩
   have hlen:((x::r).length:Int)=(p.length:Int)+1:=by rw [hy]; simp
   have hpl:p.length≤5000:=by rw [hs,hy] at hl; simp at hl; omega
   have hw:Ab .i64 (((x::r).length:Int)-1)=(p.length:Int):=by rw [hlen,w64 (by omega) (by omega)]; omega
   have hg:gix (x::r) (p.length:Int)=some y:=cX (r:=[]) hy
   have h0:gix (x::r) 0=some x:=rfl
   have hx:=h.lb x (by rw [hs]; simp)
   have hyb:=h.lb y (by rw [hs,hy]; simp)
   simp only [Ac (show (0:Int)<((x::r).length:Int) by omega),Ap,Bs,gdtt,h0,bnoS,Aa (show ¬x.aa<s.ag by omega),hw,hg,Aa (show ¬s.ak<y.To by omega),Bc,Ca,aQ]
   exact hend
theorem rroom23 {s:S23} (h:G s):oV s=some (uN s):=by
 have hd:=h.dl
 unfold oV uN
 cases hc:s.aw with
 | true=>rw [aU,Az rfl]
 | false=>rw [aQ,Aq (by decide),w64 (by omega) (by omega),bndD]
theorem aKy {s:S23} (h:G s) (str:List Ai) (hs:str.length≤100000):nV s str=some (aA0 s str,(writeN s str:Int)):=by
 obtain ⟨n1,n2,n3,n4⟩:=h.num
 obtain ⟨r1,r2⟩:=xN h
 have hd:=h.dl
 unfold nV aA0 writeN
 rw [uD h,bnoS,bndD,Ac rfl,Ah,aQ,rroom23 h,bnoS,bndD,aBe h,bnoS,bndD,Int.min_comm (str.length:Int) (uN s),w64 (by omega) (by omega),bndD]
 by_cases c:1099511623680<endS s+min (uN s) (str.length:Int)
 · rw [Ac c,aU,Aq (by omega),DM,AQ]; rfl
 · rw [Aa c,aQ,Az (by omega),yQ (by omega) (by omega),bnoS,sM (by rw [Aw]; omega),bnoS]
   rw [show ((min (uN s) (str.length:Int)).toNat:Int)=min (uN s) (str.length:Int) by omega]
theorem aIp (s:S23):lQ s=some (dueS s):=by
 unfold lQ dueS
 simp only [bndD]
 cases s.aw <;> cases s.ba <;> cases s.az <;> cases s.ax <;> rfl
end Go.Fn
open List renaming filter_nil → Fz,map_nil → BI
open Nat renaming add_le_add_right → Es,le_trans → Cb,mul_le_mul_right → AS
open Go Go.IL
namespace Go.Fn
theorem aIv {s:S23} (h:G s) {n:Int} {fin:Bool} (hn:uJ s n fin):∀ (r q:List Pc) (f:Nat),s.ah=q++r→r.length<f→dG s fin (max n s.ag) f ((q.map (cmap (max n s.ag) fin)).filter (fun p=>!yE p)) (q.length:Int)=some (aB9 s n fin)
 | _,_,0,_,hf=>AP hf (by omega)
 | [],q,f+1,hs,_=>by
   obtain ⟨n1,n2,n3,n4⟩:=h.num
   obtain ⟨c1,c2,c3⟩:=hn
   have hll:=h.ll
   have hd:=h.dl
   have e:endS s=s.ag+(s.aj.length:Int):=rfl
   have hcut:iH s.ay ⟨0,max n s.ag⟩=some (aCK s.ay (max n s.ag)):=by
    rw [cut06 (x:=⟨0,max n s.ag⟩) (by omega) h.lv (by show (0:Int)≤0∧(0:Int)≤_∧0≤max n s.ag∧max n s.ag≤_; omega)]
    rfl
   rw [dG,bndD,jC hs,aQ,w64 (by omega) (by omega),bndD,tW (by omega) (by omega),bnoS,hcut,bnoS]
   rw [AQ] at hs
   unfold aB9
   rw [hs]
   cases fin <;> rfl
 | x :: r,q,f+1,hs,hf=>by
   have hx:x∈s.ah:=by rw [hs]; simp
   have hpl:=h.pl
   obtain ⟨⟨a1,a2,a3⟩,a4,a5⟩:=h.pb x hx
   have hrec:=aIv h hn r (q++[x]) f (by rw [hs]; simp) (by simpa using hf)
   have hq:q.length≤4097:=by rw [hs,Ae] at hpl; omega
   have hfl:((q.map (cmap (max n s.ag) fin)).filter (fun p=>!yE p)).length≤q.length:=by
    refine Cb (DV _ _) ?_
    rw [Bf]; exact AJ _
   rw [BR,EO] at hrec
   have hJ:∀ v:Bool,v=(x.bx && !fin)→jK ((q.map (cmap (max n s.ag) fin)).filter (fun p=>!yE p)) (q.length:Int) (dG s fin (max n s.ag) f) x (max x.aa (max n s.ag)) (max x.To (max n s.ag)) v=some (aB9 s n fin):=fun v hv=>by
    have ec:cmap (max n s.ag) fin x=⟨max x.aa (max n s.ag),max x.To (max n s.ag),x.bu,v⟩:=by rw [hv]; rfl
    unfold jK
    rw [bndD,bndD,w_at hs (by omega)]
    have hg:(!yE (cmap (max n s.ag) fin x))=(decide (max x.aa (max n s.ag)<max x.To (max n s.ag))||v):=by
     rw [ec]
     show (!(decide (max x.aa (max n s.ag)=max x.To (max n s.ag)) && !v))=_
     by_cases c:max x.aa (max n s.ag)<max x.To (max n s.ag)
     · rw [Ac c,Aa (by omega)]; rfl
     · rw [Aa c,Ac (by omega)]; cases v <;> rfl
    cases hb:(decide (max x.aa (max n s.ag)<max x.To (max n s.ag))||v) with
    | true =>
      rw [hb] at hg
      rw [aU,dU (Cb (Es hfl 1) (by omega)) (Cb (AS 32 (Es hfl 1)) (by omega)),bnoS,bndD]
      rw [AB,BI,EN (p:=fun p=>!yE p) hg,Fz,ec] at hrec
      exact hrec
    | false =>
      rw [hb] at hg
      rw [aQ,bndD]
      rw [AB,BI,DI (p:=fun p=>!yE p) (by rw [hg]; exact Bool.false_ne_true),Fz,AQ] at hrec
      exact hrec
   rw [dG,bndD,iS hs,aU,cX hs,bnoS,bndD,bndD]
   cases fin with
   | true=>rw [aU]; exact hJ false (by simp)
   | false=>rw [aQ]; exact hJ x.bx (by simp)
theorem rcame23 {s:S23} (h:G s) (n:Int) (fin:Bool):oX s n fin=some (if uJ s n fin then aB9 s n fin else s):=by
 obtain ⟨n1,n2,n3,n4⟩:=h.num
 have hL:=fun hn=>aIv h (n:=n) (fin:=fin) hn s.ah [] fuel rfl (bK (by have:=h.pl; omega))
 have hL:uJ s n fin→dG s fin (max n s.ag) fuel [] 0=some (aB9 s n fin):=hL
 unfold oX
 rw [uD h,bnoS,bndD,Ac rfl,bndD,bndD,bndD,bndD]
 by_cases c1:n<0
 · rw [Ac c1,show (!true||true)=true from rfl,BO]
   simp only [show (true == false)=false from rfl,AN,gdff,bnoS,bndD,BO,aU]
   rw [Aq (fun hh=>by have:=hh.1; omega)]
 · rw [Aa c1,show (!true||false)=false from rfl,BF]
   by_cases c2:s.ak<n
   · rw [Ac c2]
     simp only [show (true == false)=false from rfl,AN,gdff,bnoS,bndD,BO,aU]
     rw [Aq (fun hh=>by have:=hh.2.1; omega)]
   · rw [Aa c2]
     have hmax:max s.ag n=max n s.ag:=Int.max_comm _ _
     cases fin with
     | false =>
       simp only [show (false == false)=true from rfl,show (false == true)=false from rfl,Ca,AN,gdff,bnoS,bndD,Bc,aQ,hmax]
       have hok:uJ s n false:=⟨by omega,by omega,fun hh=>by cases hh⟩
       rw [Az hok]; exact hL hok
     | true =>
       cases hS:s.az with
       | false =>
         simp only [show (false == false)=true from rfl,show (true == true)=true from rfl,Ba,show (true == false)=false from rfl,Ca,gdff,bnoS,bndD,BO,Bs,DU,aU]
         rw [Aq (fun hh=>by have:=(hh.2.2 rfl).2; rw [hS] at this; cases this)]
       | true =>
         simp only [show (false == false)=true from rfl,show (true == true)=true from rfl,Ah,Bs,gdtt,aBe h,bnoS,bndD,BF,Bn]
         by_cases c3:n=endS s
         · have hok:uJ s n true:=⟨by omega,by omega,fun _=>⟨c3,hS⟩⟩
           rw [Ac c3,Ah,aQ,hmax,Az hok]; exact hL hok
         · rw [Aa c3,Ba,aU,Aq (fun hh=>c3 (hh.2.2 rfl).1)]
theorem aIq {s:S23} (h:G s) (k:Int) {L0:List Iv} (h0:DL s s.ah k L0):∀ (r q:List Pc) (f:Nat) (L:List Iv),s.ah=q++r→r.length<f→DL s q k L→fJ s k f (q.filter fun y=>!decide (y.bu=k)) (q.length:Int) L (s.ax||anyD q k)=some (aFs s k L0)
 | _,_,0,_,_,hf,_=>AP hf (by omega)
 | [],q,f+1,L,hs,_,hd=>by
   rw [fJ,bndD,jC hs,aQ]
   rw [AQ] at hs
   unfold aFs
   rw [hs] at h0
   have e:L=L0:=aDY hd.lv.pw h0.lv.pw hd.lv.ne h0.lv.ne fun n=>by rw [hd.lm,h0.lm]
   rw [hs,e]
 | x :: r, q,f+1,L,hs,hf,hd=>by
   have hx:x∈s.ah:=by rw [hs]; simp
   have hpl:=h.pl
   obtain ⟨⟨a1,a2,a3⟩,a4,a5⟩:=h.pb x hx
   obtain ⟨n1,n2,n3,n4⟩:=h.num
   have hq:q.length≤4097:=by rw [hs,Ae] at hpl; omega
   have hfl:=DV (fun y:Pc=>!decide (y.bu=k)) q
   have hLl:=hd.len h
   have hrec:=fun L' hd'=>aIq h k h0 r (q++[x]) f L' (by rw [hs]; simp) (by simpa using hf) hd'
   have ea:anyD (q++[x]) k=(anyD q k||(decide (x.bu=k)&&x.bx)):=by unfold anyD; simp
   rw [ea,EO] at hrec
   rw [fJ,bndD,iS hs,aU,cX hs,bnoS,bndD]
   by_cases c:x.bu=k
   · obtain ⟨t,t1,t2,t3,t4,t5⟩:=aNK (s:=L) (x:=⟨x.aa,x.To⟩) (by omega) hd.lv (by show 0≤x.aa; omega) (by show x.To≤_; omega) (by show x.aa≤x.To; omega)
     have hA:nF L ⟨x.aa,x.To⟩=some t:=add06 (by omega) hd.lv (by show 0≤x.aa∧x.aa≤_∧0≤x.To∧x.To≤_; omega) t2.pw t2.ne t3
     have hd':DL s (q++[x]) k t:=by
      have hm:∀ n,mem n t↔mem n s.ay∨∃ y∈q++[x],y.bu=k∧y.aa≤n∧n<y.To:=fun n=>by
       rw [t3,hd.lm]
       constructor
       · rintro ((h1 | ⟨y,h1,h2⟩) | h1)
         · exact .inl h1
         · exact .inr ⟨y,by simp [h1],h2⟩
         · exact .inr ⟨x,by simp,c,h1⟩
       · rintro (h1 | ⟨y,h1,h2,h3⟩)
         · exact .inl (.inl h1)
         · rcases As.1 h1 with h1 | h1
           · exact .inl (.inr ⟨y,h1,h2,h3⟩)
           · rcases AF.1 h1 with rfl | h1
             · exact .inr h3
             · cases h1
      refine ⟨t2,aFH t2 fun n hn=>?_,hm,fun hh=>?_⟩
      · rcases (hm n).1 hn with ⟨y,hy,h1,h2⟩ | ⟨y,hy,h1,h2,h3⟩
        · have:=h.lb y hy; omega
        · have:=(h.pb y (by
           rcases As.1 hy with hy | hy
           · rw [hs]; simp [hy]
           · rcases AF.1 hy with rfl | hy
             · exact hx
             · cases hy)).1
          omega
      · rw [t4 (hh x (by simp) c)]
        exact hd.le fun y hy=>hh y (by simp [hy])
     have:=hrec t hd'
     rw [Ac c,DI (by simp [c]),Fz,AQ,Bn,←Bool.or_assoc] at this
     rw [Ac c,Ah,aQ,hA,bnoS,bndD,w_at hs (by omega),bndD]
     exact this
   · have hd':DL s (q++[x]) k L:=by
      refine ⟨hd.lv,hd.lb,fun n=>?_,fun hh=>hd.le fun y hy=>hh y (by simp [hy])⟩
      rw [hd.lm]
      constructor
      · rintro (h1 | ⟨y,h1,h2⟩)
        · exact .inl h1
        · exact .inr ⟨y,by simp [h1],h2⟩
      · rintro (h1 | ⟨y,h1,h2,h3⟩)
        · exact .inl h1
        · rcases As.1 h1 with h1 | h1
          · exact .inr ⟨y,h1,h2,h3⟩
          · rcases AF.1 h1 with rfl | h1
            · exact AP h2 c
            · cases h1
     have:=hrec L hd'
     rw [Aa c,EN (by simp [c]),Fz,AN,Cr] at this
     rw [Aa c,Ba,aU,dU (Cb (Es hfl 1) (by omega)) (Cb (AS 32 (Es hfl 1)) (by omega)),bnoS,w_at hs (by omega),bndD]
     exact this
theorem rdead23 {s:S23} (h:G s) (k:Int) {L:List Iv} (hL:DL s s.ah k L):oW s k=some (aFs s k L):=by
 have hpl:=h.pl
 have h0:DL s [] k s.ay:=⟨h.lv,h.lb,fun n=>⟨.inl,fun hh=>hh.elim id fun ⟨y,hy,_⟩=>(by cases hy)⟩,fun _=>rfl⟩
 have:=aIq h k hL s.ah [] fuel s.ay rfl (bK (by omega)) h0
 have e:(s.ax||anyD [] k)=s.ax:=by unfold anyD; simp
 rw [e] at this
 unfold oW
 rw [uD h,bnoS,bndD,Ac rfl,Ah,aQ]
 exact this
end Go.Fn
open Go Go.IL
namespace Go.Fn
theorem aKb {st:S23} (h:G st) {A B:List Pc} {p:Pc} (hs:st.ah=A++[p]++B):(∀ a∈A,before p a=false)∧(∀ b∈B,before p b=true):=by
 have hpw:=h.pw
 rw [hs,Ax] at hpw
 obtain ⟨w1,w2,w3⟩:=Bm.1 hpw
 obtain ⟨w4,w5⟩:=BE.1 w2
 have hp:=h.pb p (by rw [hs]; simp)
 constructor
 · intro a ha
   have h1:=w3 a ha p (by simp)
   have h2:=h.pb a (by rw [hs]; simp [ha])
   unfold before
   by_cases c:a.aa=p.aa
   · have e1:a.aa=a.To:=by omega
     by_cases d:p.To≤a.To
     · have e2:p.aa=p.To:=by omega
       have f1:=h.pf a (by rw [hs]; simp [ha]) e1
       have f2:=h.pf p (by rw [hs]; simp) e2
       have hc:=h.fc
       rw [hs,wG,wG] at hc
       have g2:fins [p]=1:=by simp [fins,f2]
       have g1:1≤fins A:=DD.2 fun hh=>by
        have:a∈A.filter (·.bx):=DW.2 ⟨ha,f1⟩
        rw [hh] at this; cases this
       split at hc <;> omega
     · rw [Aa (by omega),Aa d]; simp
   · rw [Aa (by omega),Aa c]; rfl
 · intro b hb
   have h1:=w4 b (by simpa using hb)
   have h2:=h.pb b (by rw [hs]; simp [hb])
   unfold before
   by_cases c:p.aa<b.aa
   · rw [Ac c]; rfl
   · rw [Aa c,Ac (show b.aa=p.aa by omega),Ac (show p.To≤b.To by omega)]; rfl
theorem aMk {l A B:List Pc} {p:Pc} (hl:l.length≤100000) (hs:l=A++B) (hA:∀ a∈A,before p a=false) (hB:∀ b∈B,before p b=true):∀ (r q:List Pc) (f:Nat),A=q++r→r.length<f→iN l p f (q.length:Int)=some (A++[p]++B)
 | _,_,0,_,hf=>AP hf (by omega)
 | [], q,f+1,hq,_=>by
   rw [AQ] at hq
   subst hq
   have hll:A.length+B.length≤100000:=by rw [hs,Ae] at hl; exact hl
   have fin:(bno (cut l 0 (A.length:Int)) fun x38=>bno (app 32 ([]:List Pc) x38) fun x39=>bno (app 32 x39 ([p]:List Pc)) fun x40=>bno (cut l (A.length:Int) (l.length:Int)) fun x41=>bno (app 32 x40 x41) fun x42=>some x42)=some (A++[p]++B):=by
    rw [aCi hs,bnoS,dU (by simp; omega) (by simp; omega),bnoS,AE,dU (by simp; omega) (by simp; omega),bnoS,aAX hs,bnoS,dU (by simp; omega) (by simp; omega),bnoS]
   rw [iN,bndD]
   cases B with
   | nil =>
     rw [jC hs]
     simp only [ft,AN,gdff,bnoS,bndD,aQ]
     exact fin
   | cons b B =>
     have hb:=hB b (by simp)
     unfold before at hb
     rw [iS hs]
     simp only [Ap,gdtt,cX hs,bnoS,bndD,Bn]
     rw [CB,Af,BJ,BJ,BJ] at hb
     rw [Aa (show ¬b.aa<p.aa by omega)]
     simp only [Ap,gdtt,bnoS,bndD,BF]
     by_cases c:b.aa=p.aa
     · rw [Ac c]
       simp only [Ap,gdtt,bnoS,Bn]
       rw [Aa (show ¬b.To<p.To by omega),aQ]
       exact fin
     · rw [Aa c]
       simp only [ft,gdff,bnoS,AN,aQ]
       exact fin
 | a :: r,q,f+1,hq,hf=>by
   have ha:=hA a (by rw [hq]; simp)
   have hs2:l=q++a::(r++B):=by rw [hs,hq]; simp
   have hrec:=aMk hl hs hA hB r (q++[a]) f (by rw [hq]; simp) (by simpa using hf)
   unfold before at ha
   rw [BC,Gy,decide_eq_false_iff_not,decide_eq_false_iff_not,decide_eq_false_iff_not] at ha
   rw [iN,bndD,iS hs2]
   simp only [Ap,gdtt,cX hs2,bnoS,bndD,Bn]
   by_cases c:a.aa<p.aa
   · rw [Ac c]
     simp only [show (true == false)=false from rfl,AN,gdff,bnoS,bndD,BO,aU,w_at hs2 (show l.length≤1000000 by omega)]
     exact hrec
   · rw [Aa c]
     have e:a.aa=p.aa:=by omega
     simp only [Ap,gdtt,bnoS,bndD,BF,Ac e,Bn]
     rw [Ac (show a.To<p.To by omega)]
     simp only [aU,bndD,w_at hs2 (show l.length≤1000000 by omega)]
     exact hrec
theorem rput23 {l A B:List Pc} {p:Pc} (hl:l.length≤100000) (hs:l=A++B) (hA:∀ a∈A,before p a=false) (hB:∀ b∈B,before p b=true):tH l p=some (A++[p]++B) :=
 aMk hl hs hA hB A [] fuel rfl (bK (by rw [hs,Ae] at hl; omega))
theorem rwent {s:S23} (h:G s) {by_ most limit:Int} {A B:List Pc} {L:List Iv} {N:Int} (hs:s.ah=A++B) (hg:G (aA6 s (cK s by_ most limit) (vU s (cK s by_ most limit)) A B)) (hk:Pk s (cK s by_ most limit) (vU s (cK s by_ most limit))) (hN:N=max s.ak (cK s by_ most limit).To) (hL:L=vU s (cK s by_ most limit)) :
 fG ⟨s.ag,s.aj,N,s.ah,L,s.aw,s.az,s.ax,s.ba⟩ ⟨(cK s by_ most limit).aa,(cK s by_ most limit).To,by_,false⟩=some (aA6 s (cK s by_ most limit) (vU s (cK s by_ most limit)) A B,cK s by_ most limit,(s.aj.take ((cK s by_ most limit).To-s.ag).toNat).drop ((cK s by_ most limit).aa-s.ag).toNat,true):=by
 obtain ⟨n1,n2,n3,n4⟩:=h.num
 have e:endS s=s.ag+(s.aj.length:Int):=rfl
 have k1:=hk.lo; have k2:=hk.le; have k4:=hk.hi
 have hpl:=h.pl
 obtain ⟨b1,b2⟩:=aKb hg (A:=A) (B:=B) (p:=cK s by_ most limit) rfl
 have hput:=rput23 (by omega) hs b1 b2
 have hdue:dueS (⟨s.ag,s.aj,N,s.ah,L,s.aw,s.az,s.ax,s.ba⟩:S23)=dueS s:=rfl
 have hend:cS (⟨s.ag,s.aj,N,s.ah,L,s.aw,s.az,s.ax,s.ba⟩:S23)=some (endS s):=by
  have:=aBe h
  unfold cS at this ⊢
  exact this
 have hfin:(cK s by_ most limit).bx=(decide ((cK s by_ most limit).To=endS s)&&dueS s):=hk.fi
 have hJ:∀ v6 v7 v8,v8=(cK s by_ most limit).bx→v6=(if (cK s by_ most limit).bx=true then true else s.az)→v7=(if (cK s by_ most limit).bx=true then false else s.ax) →
  jJ (⟨s.ag,s.aj,N,s.ah,L,s.aw,s.az,s.ax,s.ba⟩:S23) ⟨(cK s by_ most limit).aa,(cK s by_ most limit).To,by_,false⟩ v6 v7 v8=some (aA6 s (cK s by_ most limit) (vU s (cK s by_ most limit)) A B,cK s by_ most limit,(s.aj.take ((cK s by_ most limit).To-s.ag).toNat).drop ((cK s by_ most limit).aa-s.ag).toNat,true):=fun v6 v7 v8 h8 h6 h7=>by
  have ep:(⟨(cK s by_ most limit).aa,(cK s by_ most limit).To,by_,v8⟩:Pc)=cK s by_ most limit:=by rw [h8]; rfl
  unfold jJ
  dsimp only
  rw [ep,hput,bnoS,bndD,w64 (by omega) (by omega),bndD,w64 (by omega) (by omega),aBC (by omega) (by omega) (by omega),bnoS,h6,h7,hN,hL]
  rfl
 unfold fG
 rw [aIp,hdue,bnoS,hend]
 cases hd:dueS s with
 | true =>
   rw [hd,Cw] at hfin
   rw [Ap,gdtt,bnoS,bndD,bndD,Bn,←hfin]
   cases hF:(cK s by_ most limit).bx with
   | true=>rw [aU]; exact hJ true false true hF.symm (by rw [hF]; rfl) (by rw [hF]; rfl)
   | false=>rw [aQ]; exact hJ s.az s.ax false hF.symm (by rw [hF]; rfl) (by rw [hF]; rfl)
 | false =>
   rw [hd,Ca] at hfin
   rw [ft,gdff,bnoS,bndD,bndD,AN,aQ]
   exact hJ s.az s.ax false hfin.symm (by rw [hfin]; rfl) (by rw [hfin]; rfl)
theorem aIi {s:S23} (h:G s) {by_ most limit:Int} (hm:most≤9223372036854775807) (hl:0≤limit∧limit≤4398046511104):eW s by_ most limit=lT s by_ most limit:=by
 obtain ⟨n1,n2,n3,n4⟩:=h.num
 have e:endS s=s.ag+(s.aj.length:Int):=rfl
 have hpl:=h.pl
 have hll:=h.ll
 have hd:=h.dl
 by_cases hb:0≤by_∧by_<4
 · by_cases hm1:most<1
   · rw [aAj h hb hm hl (.inl hm1)]
     unfold eW
     rw [uD h,bnoS]
     simp only [bndD,decide_true,Ah,Aa (show ¬by_<0 by omega),Aa (show ¬4≤by_ by omega),Ac hm1,DU,aU]
   · have hfront:eW s by_ most limit=bnd (decide (0<(s.ay.length:Int))) fun x10=>bif x10 then (bno (gix s.ay 0) fun x12=>bnd (min most 4096) fun x13=>bnd (Ab .i64 (x12.aa+x13)) fun x14=>bnd (min x12.To x14) fun x15=>bno (iH s.ay (⟨x12.aa,x15⟩:Iv)) fun x16=>bno (fG (⟨s.ag,s.aj,s.ak,s.ah,x16,s.aw,s.az,s.ax,s.ba⟩:S23) (⟨x12.aa,x15,by_,false⟩:Pc)) fun x17=>some (x17.1,x17.2.1,x17.2.2.1,x17.2.2.2)) else (
      bno (cS s) fun x18=>bnd (Ab .i64 (x18-s.ak)) fun x19=>bnd (decide (0<x19)) fun x20=>bnd (decide (s.ak<limit)) fun x21=>bnd (x20&&x21) fun x22=>bif x22 then (
       bnd (Ab .i64 (limit-s.ak)) fun x24=>bnd (min (min x19 most) x24) fun x25=>bnd (Ab .i64 (s.ak+x25)) fun x26=>bnd (Ab .i64 (s.ak+x25)) fun x27 =>
       bno (fG (⟨s.ag,s.aj,x27,s.ah,s.ay,s.aw,s.az,s.ax,s.ba⟩:S23) (⟨s.ak,x26,by_,false⟩:Pc)) fun x28=>some (x28.1,x28.2.1,x28.2.2.1,x28.2.2.2)) else (
       bnd (decide (x19=0)) fun x29=>bno (gd (x29 == true) (lQ s) default) fun x30=>bnd (x29&&x30) fun x31=>bif x31 then (
        bno (cS s) fun x33=>bno (cS s) fun x34=>bno (fG s (⟨x33,x34,by_,false⟩:Pc)) fun x35=>some (x35.1,x35.2.1,x35.2.2.1,x35.2.2.2)) else (some (s,(⟨0,0,0,false⟩:Pc),[],false)))):=by
      unfold eW
      rw [uD h,bnoS]
      simp only [bndD,decide_true,Ah,Aa (show ¬by_<0 by omega),Aa (show ¬4≤by_ by omega),Aa hm1,Bc,aQ]
     rw [hfront]
     clear hfront
     have hmm:1≤most∧most≤9223372036854775807:=⟨by omega,hm⟩
     cases his:(fW s most limit).2 with
     | true =>
       obtain ⟨A,B,p1,p2,p3⟩:=aDF h hb hmm hl his
       have hk:=pk_of h hb hmm hl his
       have hw:=fun {L:List Iv} {N:Int}=>rwent h (by_:=by_) (most:=most) (limit:=limit) (A:=A) (B:=B) (L:=L) (N:=N) p1 p2 hk
       rw [p3]
       have k2:=hk.le
       cases hLost:s.ay with
       | cons x r =>
         have hx:x∈s.ay:=by rw [hLost]; simp
         have a1:=h.lv.ne x hx
         have a2:=h.lb x hx
         have en:fW s most limit=(⟨x.aa,x.aa+min most (x.To-x.aa),0,false⟩,true):=by unfold fW; rw [hLost]
         have ef:(cK s by_ most limit).aa=x.aa:=by show (fW s most limit).1.aa=_; rw [en]
         have et:(cK s by_ most limit).To=x.aa+min most (x.To-x.aa):=by show (fW s most limit).1.To=_; rw [en]
         have et2:min x.To (x.aa+min most 4096)=(cK s by_ most limit).To:=by rw [et]; omega
         have hc:iH (x::r) ⟨x.aa,(cK s by_ most limit).To⟩=some (vU s (cK s by_ most limit)):=by
          have hc:=cut06 (s:=s.ay) (x:=⟨x.aa,(cK s by_ most limit).To⟩) (by omega) h.lv (by rw [et]; show 0≤x.aa∧x.aa≤_∧0≤x.aa+min most (x.To-x.aa)∧x.aa+min most (x.To-x.aa)≤_; omega)
          rw [hLost] at hc
          rw [hc]
          unfold vU
          rw [ef,hLost]
         have:=hw (L:=vU s (cK s by_ most limit)) (N:=s.ak) (by rw [et]; omega) rfl
         rw [ef] at this
         rw [bndD,Ac (show (0:Int)<((x::r).length:Int) by rw [Ao]; omega),aU,show gix (x::r) 0=some x from rfl,bnoS,bndD,bndD,w64 (by omega) (by omega),bndD,et2,hc,bnoS,this,bnoS,ef]
       | nil =>
         have en:fW s most limit=if 0<endS s-s.ak then (⟨s.ak,s.ak+min (min (endS s-s.ak) most) (max limit s.ak-s.ak),0,false⟩,decide (0<min (min (endS s-s.ak) most) (max limit s.ak-s.ak))) else (⟨s.ak,s.ak,0,false⟩,dueS s):=by unfold fW; rw [hLost]
         have hls:vU s (cK s by_ most limit)=[]:=by unfold vU; rw [hLost]; split <;> rfl
         rw [bndD,show decide ((0:Int)<(([]:List Iv).length:Int))=false from rfl,aQ,aBe h,bnoS,bndD,w64 (by omega) (by omega),bndD,bndD,bndD]
         by_cases c:0<endS s-s.ak
         · rw [Az c] at en
           rw [en] at his
           have his:=of_decide_eq_true his
           have ef:(cK s by_ most limit).aa=s.ak:=by show (fW s most limit).1.aa=_; rw [en]
           have et:(cK s by_ most limit).To=s.ak+min (min (endS s-s.ak) most) (limit-s.ak):=by
            show (fW s most limit).1.To=_; rw [en]
            show s.ak+min (min (endS s-s.ak) most) (max limit s.ak-s.ak)=_
            omega
           have:=hw (L:=([]:List Iv)) (N:=(cK s by_ most limit).To) (by rw [et]; omega) hls.symm
           rw [ef] at this
           rw [Ac c,Ac (show s.ak<limit by omega),show (true&&true)=true from rfl,aU,bndD,w64 (by omega) (by omega),bndD,bndD,w64 (by omega) (by omega),bndD,←et,this,bnoS,ef]
         · rw [Aq c] at en
           rw [en] at his
           have his:dueS s=true:=his
           have ef:(cK s by_ most limit).aa=s.ak:=by show (fW s most limit).1.aa=_; rw [en]
           have et:(cK s by_ most limit).To=s.ak:=by show (fW s most limit).1.To=_; rw [en]
           have ee:endS s=s.ak:=by omega
           have:=hw (L:=([]:List Iv)) (N:=s.ak) (by rw [et]; omega) hls.symm
           rw [ef,et,←hLost] at this
           have es:(⟨s.ag,s.aj,s.ak,s.ah,s.ay,s.aw,s.az,s.ax,s.ba⟩:S23)=s:=rfl
           rw [es] at this
           rw [Aa c,AN,aQ,bndD,Ac (show endS s-s.ak=0 by omega),Ap,gdtt,aIp,his,bnoS,bndD,show (true&&true)=true from rfl,aU,bnoS,bnoS,ee,this,bnoS,ef,et]
     | false =>
       rw [aAj h hb hm hl (.inr his)]
       cases hLost:s.ay with
       | cons x r =>
         have en:fW s most limit=(⟨x.aa,x.aa+min most (x.To-x.aa),0,false⟩,true):=by unfold fW; rw [hLost]
         rw [en] at his; cases his
       | nil =>
         have en:fW s most limit=if 0<endS s-s.ak then (⟨s.ak,s.ak+min (min (endS s-s.ak) most) (max limit s.ak-s.ak),0,false⟩,decide (0<min (min (endS s-s.ak) most) (max limit s.ak-s.ak))) else (⟨s.ak,s.ak,0,false⟩,dueS s):=by unfold fW; rw [hLost]
         rw [bndD,show decide ((0:Int)<(([]:List Iv).length:Int))=false from rfl,aQ,aBe h,bnoS,bndD,w64 (by omega) (by omega),bndD,bndD,bndD]
         by_cases c:0<endS s-s.ak
         · rw [Az c] at en
           rw [en] at his
           have his:=of_decide_eq_false his
           rw [Ac c,Aa (show ¬s.ak<limit by omega),show (true&&false)=false from rfl,aQ,bndD,Aa (show ¬endS s-s.ak=0 by omega),ft,gdff,bnoS,bndD,AN,aQ]
         · rw [Aq c] at en
           rw [en] at his
           have his:dueS s=false:=his
           rw [Aa c,AN,aQ,bndD,Ac (show endS s-s.ak=0 by omega),Ap,gdtt,aIp,his,bnoS,bndD,show (true&&false)=false from rfl,aQ]
 · have hP:mV by_=some false:=by
    unfold mV
    by_cases c:0≤by_
    · rw [bndD,Ac c,bndD,Aa (show ¬by_<4 by omega)]; rfl
    · rw [bndD,Aa c]; rfl
   unfold lT eW
   rw [aEV (by omega) (by omega),bnoS,hP,bnoS,uD h,bnoS]
   have hbad:(decide (by_<0)||decide (4≤by_))=true:=by
    by_cases c:by_<0
    · rw [Ac c]; rfl
    · rw [Ac (show 4≤by_ by omega),DU]
   simp only [bndD,decide_true,Ah,BF,hbad,BO,aU,Ba,show (true == false)=false from rfl,gdff,bnoS]
end Go.Fn
open Go Go.IL
namespace Go.Fn
abbrev St25:=fT
abbrev Lg:=nR
def LgOk (l:Lg):Prop:=0≤l.cg∧l.cg≤l.ci∧l.ci≤l.cf∧l.cf≤1000000∧1≤l.ca∧l.ca≤4096
structure SG (st:St25) (W:List Ai) (I:List Iv) (k:Int):Prop where
 id:st.ID=5
 mi : -1≤st.cm∧st.cm≤255
 he : -1≤st.co∧st.co≤255
 oo:LgOk st.cr
 io:LgOk st.In
 g:G st.ae
 rq:RQ W I st.af.af
 hi:aCD st.af.af.ag I k
 en:st.af.br = -1∨(k≤st.af.br∧st.af.br≤1000000)
 ou:st.cr.ci=st.ae.ak
 iu:st.In.ci=max st.af.br k
 ir:st.In.cg=st.af.af.ag-st.af.af.ap.length
 il:st.In.cf≤st.In.cg+st.In.ca
def aGi (st:St25):Bool:=!decide (st.cm = -1) || !decide (st.co = -1)
theorem ptsame {l m:List Pt} (hl:l.length≤1000000):fV l m=some (decide (l=m)):=by
 have heq:∀ x y:Pt,(decide (x.At=y.At)&&(decide (x.aj=y.aj)&&true))=decide (x=y):=fun x y=>by
  obtain ⟨a,b⟩:=x; obtain ⟨e,f⟩:=y; rw [BZ]; simp
 have:=vH (L:=cC l m) (m:=m) (z:=true) hl (fun p x r s y t f h k e=>by
  rw [cC]
  simp only [bndD,iS h,aU,cX h,show gix m (p.length:Int)=some y by rw [e]; exact cX k,bnoS,heq,w_at h hl]) (fun _ f=>by
  rw [cC]
  simp only [bndD,uE,aQ])
 rw [Cw] at this
 exact this
end Go.Fn
open Go Go.IL
namespace Go.Fn
section
variable {st:St25} {W:List Ai} {I:List Iv} {k:Int}
end
end Go.Fn
open Go Go.IL
namespace Go.Fn
structure LO (l:Lg):Prop where
 r0:0≤l.cg
 ru:l.cg≤l.ci
 ul:l.ci≤l.cf
 lm:l.cf≤1099511627776
 w1:1≤l.ca
 w2:l.ca≤1048576
theorem LO.ck {l:Lg} (h:LO l):uI l=some 0:=by
 have a:=h.r0; have b:=h.ru; have c:=h.ul; have d:=h.lm; have e:=h.w1; have f:=h.w2
 unfold uI
 simp only [bndD,Ac a,Ac b,Ac c,Ac d,Aa (show ¬l.ca<1 by omega),Aa (show ¬1048576<l.ca by omega),Bs,Ah,Bc,aQ]
theorem LO.rk {l:Lg} (h:LO l):nW l=some 0:=by
 have a:=h.r0; have b:=h.ru; have c:=h.ul; have d:=h.lm; have e:=h.w1; have f:=h.w2
 unfold nW
 simp only [bndD,Aa (show ¬l.ca<1 by omega),Aa (show ¬1048576<l.ca by omega),Aa (show ¬l.cf<0 by omega),Aa (show ¬1099511627776<l.cf by omega),Aa (show ¬l.ci<0 by omega),Aa (show ¬l.cf<l.ci by omega),Aa (show ¬l.cg<0 by omega),Aa (show ¬l.ci<l.cg by omega),Bc,aQ]
def hiS (s:R12):Int:=match s.ao.getLast? with
 | none=>s.ag
 | some p=>pe p
theorem aM1 {s:R12} (h:s.ao=[]):hiS s=s.ag:=by unfold hiS; rw [h]; rfl
theorem aM2 {s:R12} {q:List Pt} {p:Pt} (h:s.ao=q++[p]):hiS s=pe p:=by unfold hiS; rw [h,GJ]
theorem hi_le {s:R12} (h:RX s):s.ag≤hiS s∧hiS s≤limS s:=by
 have d:=h.rm; have b:=h.bh
 have hli:limS s=min (s.ag-s.ap.length+4096) 1099511627776:=rfl
 rcases Ch s.ao with e | ⟨q,p,e⟩
 · rw [aM1 e]; omega
 · rw [BY] at e
   have hp:p∈s.ao:=by rw [e]; simp
   rw [aM2 e]
   have:=h.lm p hp
   have:=aE7 h.cp p hp
   have:=sE this.2
   omega
theorem aFj {s:R12} (h:RX s) (e:Int):mW ⟨s,e⟩=some (hiS s)∧gL ⟨s,e⟩=some (hiS s):=by
 have hpl:=h.pl
 have hl:=hi_le h
 have b:=h.bh; have b0:=h.b0
 have hli:limS s=min (s.ag-s.ap.length+4096) 1099511627776:=rfl
 unfold mW gL
 rcases Ch s.ao with e | ⟨q,p,e⟩
 · simp only [e,Bj,bndD]
   rw [aM1 e]
   exact ⟨rfl,rfl⟩
 · rw [BY] at e
   have hlen:(s.ao.length:Int)=(q.length:Int)+1:=by rw [e,Ae,AZ]; rfl
   have hw:Ab .i64 ((s.ao.length:Int)-1)=(q.length:Int):=by rw [hlen,w64 (by omega) (by omega)]; omega
   have hg:gix s.ao (q.length:Int)=some p:=by rw [e]; exact cX (p:=q) (r:=[]) rfl
   have hpe:p.At+(p.aj.length:Int)=hiS s:=(aM2 e).symm
   have hq:q.length≤5000:=by rw [e,Ae] at hpl; omega
   simp only [bndD,Ac (show (0:Int)<(s.ao.length:Int) by omega),Aa (show ¬(s.ao.length:Int)=0 by omega),aU,aQ,hw,hg,bnoS,hpe,w64 (show -9223372036854775808≤hiS s by omega) (by omega)]
   exact ⟨trivial,trivial⟩
end Go.Fn
open Go Go.IL
namespace Go.Fn
structure SX (st:St25):Prop where
 id:0≤st.ID∧st.ID≤1048576
 mi : -1≤st.cm∧st.cm≤255
 he : -1≤st.co∧st.co≤255
 oo:LO st.cr
 io:LO st.In
 iw:st.In.ca≤4096
 g:G st.ae
 rx:RX st.af.af
 en:st.af.br = -1∨(hiS st.af.af≤st.af.br∧st.af.br≤1099511627776)
 ou:st.cr.ci=st.ae.ak
 iu:st.In.ci=max st.af.br (hiS st.af.af)
 ir:st.In.cg=st.af.af.ag-st.af.af.ap.length
 il:st.In.cf≤st.In.cg+st.In.ca
theorem zV {r:R12} {E:Int} (h:RX r) (en:E = -1∨(hiS r≤E∧E≤1099511627776)):pO ⟨r,E⟩=some 0∧fO ⟨r,E⟩=some 0:=by
 obtain ⟨e1,e2⟩:=aFj h E
 have e3:tR ⟨r,E⟩=some (hiS r):=by
  unfold tR rP
  rw [bnoS,e1,bnoS]
 unfold pO fO
 rw [aD3 h,aDB h]
 simp only [bnoS,bndD,decide_true,Ah,aQ]
 rcases en with e | ⟨c1,c2⟩
 · rw [Ac e]
   simp only [Ah,ft,gdff,bnoS,AN,aQ]
   exact ⟨trivial,trivial⟩
 · have hb:=(hi_le h).1
   have b0:=h.b0
   rw [Aa (show ¬E = -1 by omega)]
   simp only [Ba,Ap,gdtt,e2,e3,bnoS,Aa (show ¬E<hiS r by omega),Aa (show ¬1099511627776<E by omega),Bc,Ca,aQ]
   exact ⟨trivial,trivial⟩
theorem SX.hb {st:St25} (h:SX st):0≤hiS st.af.af:=by
 have:=(hi_le h.rx).1
 have:=h.rx.b0
 omega
theorem SX.ck {st:St25} (h:SX st):aAe st=some 0:=by
 obtain ⟨c1,_⟩:=zV h.rx h.en
 have c1:pO st.af=some 0:=c1
 obtain ⟨e1,_⟩:=aFj h.rx st.af.br
 have e3:tR st.af=some (hiS st.af.af):=by
  unfold tR rP
  rw [bnoS,e1,bnoS]
 have a1:=h.id; have a2:=h.mi; have a3:=h.he; have a4:=h.iw
 have b1:=h.rx.rl; have b2:=h.rx.bh; have b3:=h.rx.b0; have b4:=h.ir; have b5:=h.il; have b6:=h.io.r0; have b7:=h.io.w1
 unfold aAe aCx wJ wK
 simp only [bndD,bnoS,Ac a1.1,Ac a1.2,Ac a2.1,Ac a2.2,Ac a3.1,Ac a3.2,Bs,Ah,Ap,gdtt,Bc,Aa (show ¬4096<st.In.ca by omega),aQ,h.oo.ck,h.io.ck,xI h.g,c1,decide_true,e3,Ac h.ou,Ac h.iu,←h.ir,w64 (show -9223372036854775808≤st.In.cg by omega) (by omega),w64 (show -9223372036854775808≤st.In.cg+st.In.ca by omega) (by omega),Ac h.il]
theorem SX.rk {st:St25} (h:SX st):qV st=some 0:=by
 obtain ⟨_,c1⟩:=zV h.rx h.en
 have c1:fO st.af=some 0:=c1
 obtain ⟨_,e3⟩:=aFj h.rx st.af.br
 have e3:gL st.af=some (hiS st.af.af):=e3
 have a1:=h.id; have a2:=h.mi; have a3:=h.he; have a4:=h.iw
 have b1:=h.rx.rl; have b2:=h.rx.bh; have b3:=h.rx.b0; have b4:=h.ir; have b5:=h.il; have b6:=h.io.r0; have b7:=h.io.w1
 have hb:=h.hb
 have hJ:gF st (max st.af.br (hiS st.af.af))=some 0:=by
  unfold gF
  simp only [bndD,Ac h.ou,Ac h.iu,Ah,Bc,w64 (show -9223372036854775808≤st.af.af.ag-(st.af.af.ap.length:Int) by omega) (by omega),Ac h.ir,w64 (show -9223372036854775808≤st.In.cg+st.In.ca by omega) (by omega),Aa (show ¬st.In.cg+st.In.ca<st.In.cf by omega),aQ]
 have hend:(bnd (decide (st.af.br<0)) fun x55=>bif x55 then (bno (gL st.af) fun x57=>gF st x57) else gF st st.af.br)=some 0:=by
  rw [bndD]
  by_cases c:st.af.br<0
  · rw [Ac c,aU,e3,bnoS,←hJ,Ib (by omega)]
  · rw [Aa c,aQ,←hJ,Fs]
    rcases h.en with e | e
    · omega
    · exact e.1
 have hL:eD st 0 0 0 0 fuel 0=some 0:=by
  obtain ⟨f,hf⟩:∃ f,fuel=f+1+1+1+1+1:=⟨fuel-5,by have:=bK (n:=9) (by decide); omega⟩
  rw [hf]
  rw [eD,bndD,show decide ((0:Int)<(([0,0,0,0]:List Int).length:Int))=true from rfl,aU,show gix ([0,0,0,0]:List Int) 0=some 0 from rfl,bnoS,bndD,Ac rfl,Ah,aQ,show Ab .i64 (0+1)=1 from w64 (by decide) (by decide),bndD]
  rw [eD,bndD,show decide ((1:Int)<(([0,0,0,0]:List Int).length:Int))=true from rfl,aU,show gix ([0,0,0,0]:List Int) 1=some 0 from rfl,bnoS,bndD,Ac rfl,Ah,aQ,show Ab .i64 (1+1)=2 from w64 (by decide) (by decide),bndD]
  rw [eD,bndD,show decide ((2:Int)<(([0,0,0,0]:List Int).length:Int))=true from rfl,aU,show gix ([0,0,0,0]:List Int) 2=some 0 from rfl,bnoS,bndD,Ac rfl,Ah,aQ,show Ab .i64 (2+1)=3 from w64 (by decide) (by decide),bndD]
  rw [eD,bndD,show decide ((3:Int)<(([0,0,0,0]:List Int).length:Int))=true from rfl,aU,show gix ([0,0,0,0]:List Int) 3=some 0 from rfl,bnoS,bndD,Ac rfl,Ah,aQ,show Ab .i64 (3+1)=4 from w64 (by decide) (by decide),bndD]
  rw [eD,bndD,show decide ((4:Int)<(([0,0,0,0]:List Int).length:Int))=false from rfl,aQ]
  exact hend
 unfold qV
 simp only [bndD,bnoS,Aa (show ¬st.ID<0 by omega),Aa (show ¬1048576<st.ID by omega),Aa (show ¬st.cm < -1 by omega),Aa (show ¬255<st.cm by omega),Aa (show ¬st.co < -1 by omega),Aa (show ¬255<st.co by omega),Aa (show ¬4096<st.In.ca by omega),Bc,aQ,h.oo.rk,h.io.rk,uD h.g,c1]
 exact hL
theorem SX.may {st:St25} (h:SX st):yG st=some (if aGi st=true then 15 else 0)∧wQ st=some (if aGi st=true then 15 else 0):=by
 unfold yG wQ yH wR
 rw [h.ck,h.rk]
 simp only [bnoS,bndD,decide_true,Ah,aQ,Ap,gdtt,Bn]
 have e:(!decide (st.cm = -1) || !decide (st.co = -1))=aGi st:=rfl
 rw [e]
 cases aGi st <;> exact ⟨rfl,rfl⟩
end Go.Fn
open Go Go.IL
namespace Go.Fn
section
variable {st:St25}
def aJ4 (r:R12) (E:Int):Bool:=decide (r.ap=[])&&(decide (0≤E)&&decide (r.ag=E))
theorem x_ended {r:R12} {E:Int} (h:RX r) (en:E = -1∨(hiS r≤E∧E≤1099511627776)):xU ⟨r,E⟩=some (aJ4 r E)∧nT ⟨r,E⟩=some (aJ4 r E):=by
 obtain ⟨c1,c2⟩:=zV h en
 have hW:xS ⟨r,E⟩=some (decide (0≤E)&&decide (r.ag=E)):=by
  unfold xS rP lW
  simp only [bnoS,bndD]
  cases hb:(decide (0≤E)&&decide (r.ag=E))
  · simp only [ft,gdff,bnoS,AN]
  · simp only [Ap,gdtt,c1,bnoS,decide_true,Bs]
 have hR:nS ⟨r,E⟩=some (decide (0≤E)&&decide (r.ag=E)):=by
  unfold nS
  simp only [c2,bnoS,bndD,decide_true,Bn]
 unfold xU nT aJ4
 simp only [hW,hR,bnoS,bndD]
 refine ⟨?_,by rw [Bool.and_comm]⟩
 cases decide (r.ap=[])
 · simp only [ft,gdff,bnoS,AN]
 · simp only [Ap,gdtt,bnoS,Bn]
end
end Go.Fn
open Go Go.IL
namespace Go.Fn
section
variable {st:St25}
theorem aGJ {s:S23} (h:G s) {by_ most limit:Int} (hm:most≤9223372036854775807) (hl:0≤limit∧limit≤4398046511104):∃ x,lT s by_ most limit=some x∧G x.1∧x.1.ak≤max s.ak limit∧s.ak≤x.1.ak∧(0≤by_→by_<4→1≤most→x.2.2.2=(fW s most limit).2):=by
 obtain ⟨n1,n2,n3,n4⟩:=h.num
 have hpl:=h.pl
 have hll:=h.ll
 by_cases hb:0≤by_∧by_<4
 · by_cases hm1:most<1
   · exact ⟨_,aAj h hb hm hl (.inl hm1),h,by show s.ak≤_; omega,AU _,fun _ _ hh=>AP hh (by omega)⟩
   · cases his:(fW s most limit).2 with
     | false=>exact ⟨_,aAj h hb hm hl (.inr his),h,by show s.ak≤_; omega,AU _,fun _ _ _=>rfl⟩
     | true =>
       obtain ⟨A,B,p1,p2,p3⟩:=aDF h hb ⟨by omega,hm⟩ hl his
       refine ⟨_,p3,p2,?_,by show s.ak≤max s.ak _; omega,fun _ _ _=>rfl⟩
       show max s.ak (fW s most limit).1.To≤max s.ak limit
       cases hLost:s.ay with
       | cons x r =>
         have a1:=h.lv.ne x (by rw [hLost]; simp)
         have a2:=h.lb x (by rw [hLost]; simp)
         have en:fW s most limit=(⟨x.aa,x.aa+min most (x.To-x.aa),0,false⟩,true):=by unfold fW; rw [hLost]
         rw [en]
         show max s.ak (x.aa+min most (x.To-x.aa))≤_
         omega
       | nil =>
         have en:fW s most limit=if 0<endS s-s.ak then (⟨s.ak,s.ak+min (min (endS s-s.ak) most) (max limit s.ak-s.ak),0,false⟩,decide (0<min (min (endS s-s.ak) most) (max limit s.ak-s.ak))) else (⟨s.ak,s.ak,0,false⟩,dueS s):=by unfold fW; rw [hLost]
         rw [en]
         split
         · show max s.ak (s.ak+min (min (endS s-s.ak) most) (max limit s.ak-s.ak))≤_
           omega
         · show max s.ak s.ak≤_
           omega
 · have hP:mV by_=some false:=by
    unfold mV
    by_cases c:0≤by_
    · rw [bndD,Ac c,bndD,Aa (show ¬by_<4 by omega)]; rfl
    · rw [bndD,Aa c]; rfl
   refine ⟨(s,⟨0,0,0,false⟩,[],false),?_,h,by show s.ak≤_; omega,AU _,fun h1 h2=>AP ⟨h1,h2⟩ hb⟩
   unfold lT
   rw [aEV (by omega) (by omega),bnoS,hP,bnoS]
   simp only [bndD,Ba,BO,aU,show (true == false)=false from rfl,gdff,bnoS]
end
end Go.Fn
open _root_ renaming beq_iff_eq → FL
open Go Go.IL
namespace Go.Fn
theorem rivsame {l m:List Iv} (hl:l.length≤1000000):sB l m=some (decide (l=m)):=by
 have heq:∀ x y:Iv,(decide (x.aa=y.aa)&&(decide (x.To=y.To)&&true))=decide (x=y):=fun x y=>by
  obtain ⟨a,b⟩:=x; obtain ⟨e,f⟩:=y; rw [BZ]; simp
 have:=vH (L:=iA l m) (m:=m) (z:=true) hl (fun p x r s y t f h k e=>by
  rw [iA]
  simp only [bndD,iS h,aU,cX h,show gix m (p.length:Int)=some y by rw [e]; exact cX k,bnoS,heq,w_at h hl]) (fun _ f=>by
  rw [iA]
  simp only [bndD,uE,aQ])
 rw [Cw] at this
 exact this
def aEC (a b:S23):Bool:=((((((decide (a.ag=b.ag)&&decide (a.aj=b.aj))&&decide (a.ak=b.ak))&&decide (a.ay=b.ay))&&(a.aw == b.aw))&&(a.az == b.az))&&(a.ax == b.ax))&&(a.ba == b.ba)
theorem aEB (a b:S23):(decide (a.ah=b.ah)&&aEC a b)=decide (a=b):=by
 obtain ⟨a1,a2,a3,a4,a5,a6,a7,a8,a9⟩:=a
 obtain ⟨b1,b2,b3,b4,b5,b6,b7,b8,b9⟩:=b
 unfold aEC
 rw [BZ]
 simp only [Af,BJ,FL,aF.mk.injEq]
 constructor
 · rintro ⟨h4,⟨⟨⟨⟨⟨⟨h1,h2⟩,h3⟩,h5⟩,h6⟩,h7⟩,h8⟩,h9⟩; exact ⟨h1,h2,h3,h4,h5,h6,h7,h8,h9⟩
 · rintro ⟨h1,h2,h3,h4,h5,h6,h7,h8,h9⟩; exact ⟨h4,⟨⟨⟨⟨⟨⟨h1,h2⟩,h3⟩,h5⟩,h6⟩,h7⟩,h8⟩,h9⟩
theorem rsame23 {a b:S23} (hp:a.ah.length≤1000000) (hl:a.ay.length≤1000000):rY a b=some (decide (a=b)):=by
 have heq:∀ x y:Pc,(decide (x.aa=y.aa)&&(decide (x.To=y.To)&&(decide (x.bu=y.bu)&&((x.bx == y.bx)&&true))))=decide (x=y):=fun x y=>by
  obtain ⟨a,b,c,d⟩:=x; obtain ⟨e,f,g,h⟩:=y; rw [BZ]; simp
 have:=vH (L:=gU a b) (m:=b.ah) (z:=aEC a b) hp (fun p x r s y t f h k e=>by
  rw [gU]
  simp only [bndD,iS h,aU,cX h,show gix b.ah (p.length:Int)=some y by rw [e]; exact cX k,bnoS,heq,w_at h hp]) (fun _ f=>by
  rw [gU]
  simp only [bndD,uE,aQ]
  unfold aEC
  cases hq:((decide (a.ag=b.ag)&&decide (a.aj=b.aj))&&decide (a.ak=b.ak))
  · simp only [ft,gdff,bnoS,AN]
  · simp only [Ap,gdtt,rivsame hl,bnoS,Bn])
 rw [aEB] at this
 exact this
theorem ssame23 {a b:S23} (hp:a.ah.length≤1000000) (hl:a.ay.length≤1000000):zO a b=some (decide (a=b)):=by
 unfold zO
 rw [pcsame hp,bnoS,←aEB]
 unfold aEC
 by_cases c:a.ah=b.ah
 · rw [Ac c]
   simp only [Ah,Ap,gdtt,isame hl,bnoS,bndD,BF,Bn]
   by_cases d:a.ay=b.ay
   · rw [Ac d]
     simp only [Ah,aQ,Cw]
     congr 1
     rw [BZ]
     simp only [Af,BJ,FL]
     constructor
     · rintro ⟨⟨⟨⟨⟨⟨h1,h2⟩,h3⟩,h4⟩,h5⟩,h6⟩,h7⟩; exact ⟨⟨⟨⟨⟨⟨h5,h6⟩,h7⟩,h1⟩,h2⟩,h3⟩,h4⟩
     · rintro ⟨⟨⟨⟨⟨⟨h5,h6⟩,h7⟩,h1⟩,h2⟩,h3⟩,h4⟩; exact ⟨⟨⟨⟨⟨⟨h1,h2⟩,h3⟩,h4⟩,h5⟩,h6⟩,h7⟩
   · rw [Aa d]
     simp only [Ba,aU,Ca,AN]
 · rw [Aa c]
   simp only [Ba,show (true == false)=false from rfl,gdff,bnoS,bndD,BO,aU,AN]
theorem aMq (a b:R12):(decide (a.ao=b.ao)&&(decide (a.ag=b.ag)&&decide (a.ap=b.ap)))=decide (a=b):=by
 obtain ⟨a1,a2,a3⟩:=a
 obtain ⟨b1,b2,b3⟩:=b
 rw [BZ]
 simp only [Af,BJ,aH.mk.injEq]
 constructor
 · rintro ⟨h3,h1,h2⟩; exact ⟨h1,h2,h3⟩
 · rintro ⟨h1,h2,h3⟩; exact ⟨h3,h1,h2⟩
theorem rsame12 {a b:R12} (hp:a.ao.length≤1000000):sA a b=some (decide (a=b)):=by
 have heq:∀ x y:Pt,(decide (x.At=y.At)&&(decide (x.aj=y.aj)&&true))=decide (x=y):=fun x y=>by
  obtain ⟨a,b⟩:=x; obtain ⟨e,f⟩:=y; rw [BZ]; simp
 have:=vH (L:=gY a b) (m:=b.ao) (z:=decide (a.ag=b.ag)&&decide (a.ap=b.ap)) hp (fun p x r s y t f h k e=>by
  rw [gY]
  simp only [bndD,iS h,aU,cX h,show gix b.ao (p.length:Int)=some y by rw [e]; exact cX k,bnoS,heq,w_at h hp]) (fun _ f=>by
  rw [gY]
  simp only [bndD,uE,aQ])
 rw [aMq] at this
 exact this
theorem ssame12 {a b:R12} (hp:a.ao.length≤1000000):xO a b=some (decide (a=b)):=by
 unfold xO
 rw [←aMq]
 simp only [bndD]
 cases hq:(decide (a.ag=b.ag)&&decide (a.ap=b.ap))
 · simp only [ft,gdff,bnoS,AN,Ca]
 · simp only [Ap,gdtt,ptsame hp,bnoS,Bn,Cw]
structure Sm (st:St25):Prop where
 p:st.ae.ah.length≤100000
 l:st.ae.ay.length≤100000
 q:st.af.af.ao.length≤100000
theorem SX.sm {st:St25} (h:SX st):Sm st:=⟨by have:=h.g.pl; omega,by have:=h.g.ll; omega,by have:=h.rx.pl; omega⟩
theorem aHU {l:List Iv} (hl:l.length≤100000):∀ (r q:List Iv) (f:Nat),l=q++r→r.length<f→iD l f q (q.length:Int)=some l
 | _,_,0,_,hf=>AP hf (by omega)
 | [],q,f+1,h,_=>by
   rw [iD,bndD,jC h,aQ]
   rw [AQ] at h
   rw [h]
 | n::r,q,f+1,h,hf=>by
   have hq:q.length≤100000:=by rw [h,Ae] at hl; omega
   rw [iD,bndD,iS h,aU,cX h,bnoS,dU (by simp; omega) (by simp; omega),bnoS,w_at h (by omega),bndD]
   exact aHU hl r (q++[n]) f (by rw [h]; simp) (by simpa using hf)
theorem aHS {s:S23} {L:List Iv} (hl:s.ah.length≤100000):∀ (r q:List Pc) (f:Nat),s.ah=q++r→r.length<f→iC s L f (q.length:Int) q=some ⟨s.ag,s.aj,s.ak,s.ah,L,s.aw,s.az,s.ax,s.ba⟩
 | _,_,0,_,hf=>AP hf (by omega)
 | [],q,f+1,h,_=>by
   rw [iC,bndD,jC h,aQ]
   rw [AQ] at h
   rw [h]
 | n::r,q,f+1,h,hf=>by
   have hq:q.length≤100000:=by rw [h,Ae] at hl; omega
   rw [iC,bndD,iS h,aU,cX h,bnoS,dU (by simp; omega) (by simp; omega),bnoS,w_at h (by omega),bndD]
   exact aHS hl r (q++[n]) f (by rw [h]; simp) (by simpa using hf)
theorem aHT {s:R12} (hl:s.ao.length≤100000):∀ (r q:List Pt) (f:Nat),s.ao=q++r→r.length<f→fM s f (q.length:Int) q=some s
 | _,_,0,_,hf=>AP hf (by omega)
 | [],q,f+1,h,_=>by
   rw [fM,bndD,jC h,aQ]
   rw [AQ] at h
   rw [←h]
 | n::r,q,f+1,h,hf=>by
   have hq:q.length≤100000:=by rw [h,Ae] at hl; omega
   rw [fM,bndD,iS h,aU,cX h,bnoS,dU (by simp; omega) (by simp; omega),bnoS,w_at h (by omega),bndD]
   exact aHT hl r (q++[n]) f (by rw [h]; simp) (by simpa using hf)
end Go.Fn
open Go Go.IL
namespace Go.Fn
end Go.Fn
open List renaming drop_append → Fc,drop_length → Cm,take_append → Gf
open Go Go.IL
namespace Go.Fn
def capT (s:R12) (a:Int) (str:List Ai):List Ai:=str.take (limS s-a).toNat
theorem aFx {s:R12} {a:Int} {str:List Ai} (h:a≤limS s):a+((capT s a str).length:Int)≤limS s:=by
 unfold capT
 rw [Aw]; omega
theorem aDq {s:R12} {a:Int} {str:List Ai} (h:limS s≤a):capT s a str=[]:=by
 unfold capT
 rw [show (limS s-a).toNat=0 by omega,DM]
theorem aDD (s:R12) (a:Int):putR s a []=s:=by
 unfold putR
 rw [Hg,Az rfl]
theorem xputG {s:R12} (h:RX s) {a:Int} {str:List Ai} (h0:0≤a) (h1:a+(str.length:Int)≤1099511627776):∃ n,rO s a str=some (putR s a (capT s a str),n):=by
 have hpl:=h.pl
 have es:(⟨s.ag,s.ap,s.ao⟩:R12)=s:=rfl
 by_cases hc:limS s≤a
 · rw [aDq hc,aDD]
   unfold rO
   rw [aGG (by omega),bnoS,es,bndD,Aa (show ¬a<0 by omega),bndD,Aa (show ¬1099511627776<a by omega),bndD,Bc,show (false == false)=true from rfl,gdtt,aD3 h,bnoS,bndD,Ac rfl,bndD,show (false || !true)=false from rfl,aQ,aF2 h,bnoS,bndD,Ac hc,aU]
   exact ⟨0,rfl⟩
 · have hk:=aFx (s:=s) (a:=a) (str:=str) (by omega)
   obtain ⟨n,hn⟩:=xput h (str:=capT s a str) h0 hk
   refine ⟨n,hn ▸ ?_⟩
   have b0:=h.b0; have b:=h.bh; have c:=h.rl; have d:=h.rm
   have hli:limS s=min (s.ag-s.ap.length+4096) 1099511627776:=rfl
   have hpre:∀ t:List Ai,rO s a t=bnd (Ab .i64 (limS s-a)) fun x12 =>
    bnd (min (t.length:Int) x12) fun x13 =>
    bno (cut t 0 x13) fun x14 =>
    bnd (decide (a<s.ag)) fun x45 =>
    bif x45 then (
     bnd (Ab .i64 (s.ag-a)) fun x47 =>
     bnd (min (x14.length:Int) x47) fun x48 =>
     bno (cut x14 x48 (x14.length:Int)) fun x49 =>
     iZ s s.ao s.ag x49
    ) else (
      iZ s s.ao a x14
    ):=fun t=>by
    rw [rO,aGG (by omega),bnoS,es,bndD,Aa (show ¬a<0 by omega),bndD,Aa (show ¬1099511627776<a by omega),bndD,Bc,show (false == false)=true from rfl,gdtt,aD3 h,bnoS,bndD,Ac rfl,bndD,show (false || !true)=false from rfl,aQ,aF2 h,bnoS,bndD,Aa hc,aQ]
   rw [hpre,hpre,w64 (by omega) (by omega),bndD,bndD,bndD,bndD]
   have e1:cut (capT s a str) 0 (min ((capT s a str).length:Int) (limS s-a))=some (capT s a str):=by
    rw [GA (by omega),yQ (by omega) (AU _),Au,AM]
   have e2:cut str 0 (min (str.length:Int) (limS s-a))=some (capT s a str):=by
    rw [yQ (by omega) (by omega)]
    congr 1
    unfold capT
    by_cases hl:(str.length:Int)≤limS s-a
    · rw [BD (by omega),BD (by omega)]
    · rw [show (min (str.length:Int) (limS s-a))=limS s-a by omega]
   rw [e1,e2]
theorem aI6 {s:R12} (h:RX s) {a:Int} {str:List Ai} (ha:0≤a) (hl:a+(str.length:Int)≤1099511627776):∀ (r q:List Ai) (f:Nat) (k:Int),str=q++r→r.length<f→(r≠[]→limS s≤a+(q.length:Int)) →
 eJ a str f k (q.length:Int) s.ag s.ap s.ao=some (s,k)
 | _,_,0,_,_,hf,_=>AP hf (by omega)
 | [],q,f+1,k,hs,_,_=>by
   rw [eJ,bndD,jC hs,aQ]
 | c::r,q,f+1,k,hs,hf,hz=>by
   have hz:=hz (by simp)
   have hq:(q.length:Int)<str.length:=by rw [hs]; simp; omega
   have hcut:cut str (q.length:Int) ((q.length:Int)+1)=some [c]:=by
    rw [aBC (by omega) (by omega) (by omega),show ((q.length:Int)+1).toNat=q.length+1 by omega,Au,hs]
    congr 1
    rw [Gf,BD (by omega),show q.length+1-q.length=1 by omega,Fc,Cm,Gx]
    rfl
   have hw1:Ab .i64 (a+(q.length:Int))=a+(q.length:Int):=w64 (by omega) (by omega)
   have hw2:Ab .i64 ((q.length:Int)+1)=((q++[c]).length:Int):=by rw [w64 (by omega) (by omega),Ae,AZ]; rfl
   have hwc:(((q++[c]).length:Nat):Int)=(q.length:Int)+1:=by rw [Ae,AZ]; rfl
   have hone:jO ⟨s.ag,s.ap,s.ao⟩ (a+(q.length:Int)) [c]=some (s,false):=by
    have es:(⟨s.ag,s.ap,s.ao⟩:R12)=s:=rfl
    rw [es]
    unfold jO
    rw [bndD]
    by_cases c1:a+(q.length:Int)<s.ag
    · rw [Ac c1,show (true == false)=false from rfl,gdff,bnoS,bndD,bndD,BO,show (true == false)=false from rfl,gdff,bnoS,bndD,BO,aU]
    · rw [Aa c1,show (false == false)=true from rfl,gdtt,aC5 h,bnoS,bndD,Ac hz,bndD,DU,show (true == false)=false from rfl,gdff,bnoS,bndD,BO,aU]
   have:=aI6 h ha hl r (q++[c]) f k (by rw [hs]; simp) (by simpa using hf) (fun _=>by rw [hwc]; omega)
   rw [hwc] at this
   rw [eJ,bndD,iS hs,aU,bndD,hw1,bndD,hw2,hwc,hcut,bnoS,hone,bnoS,aQ,bndD]
   exact this
theorem aI0 {s0:R12} (h0:RX s0) {a:Int} {str z:List Ai} (ha:0≤a) (hbig:a+(str.length:Int)≤1099511627776):∀ (r q:List Ai) (f:Nat) (s:R12) (k:Int),str=q++(r++z)→a+((q++r).length:Int)≤limS s0→(z≠[]→limS s0≤a+((q++r).length:Int))→(r++z).length<f→Ov s0 s (ovM s0 ⟨a,q⟩)→0≤k∧k≤q.length →
 ∃ n,eJ a str f k (q.length:Int) s.ag s.ap s.ao=some (putR s0 a (q++r),n)
 | _,_,0,_,_,_,_,_,hf,_,_=>AP hf (by omega)
 | [],q,f+1,s,k,hs,hl,hz,hf,ho,_=>by
   rw [AQ] at hl hz ⊢
   have:=ho.uniq (aI2 h0 hl)
   have hll:limS s=limS s0:=by rw [aDS,aDS,ho.low]
   rw [←this]
   exact ⟨k,aI6 ho.rx ha hbig z q (f+1) k (by rw [hs]; rfl) (by simpa using hf) (fun hh=>by rw [hll]; exact hz hh)⟩
 | c :: r,q,f+1,s,k,hs,hl,hz,hf,ho,hk=>by
   have hs:str=q++c::(r++z):=hs
   have hql:(((q++c::r).length:Nat):Int)=(q.length:Int)+1+(r.length:Int):=by simp; omega
   rw [hql] at hl hz
   have hll:limS s=limS s0:=by rw [aDS,aDS,ho.low]
   have hq:(q.length:Int)<str.length:=by rw [hs]; simp; omega
   have hcut:cut str (q.length:Int) ((q.length:Int)+1)=some [c]:=by
    rw [aBC (by omega) (by omega) (by omega),show ((q.length:Int)+1).toNat=q.length+1 by omega,Au,hs]
    congr 1
    rw [Gf,BD (by omega),show q.length+1-q.length=1 by omega,Fc,Cm,Gx]
    rfl
   have hw1:Ab .i64 (a+(q.length:Int))=a+(q.length:Int):=w64 (by omega) (by omega)
   have hw2:Ab .i64 ((q.length:Int)+1)=((q++[c]).length:Int):=by rw [w64 (by omega) (by omega),Ae,AZ]; rfl
   have hwc:(((q++[c]).length:Nat):Int)=(q.length:Int)+1:=by rw [Ae,AZ]; rfl
   have hone:=one_ok ho.rx (a:=a+(q.length:Int)) (c:=c) (by omega) (by omega)
   have hone:jO ⟨s.ag,s.ap,s.ao⟩ (a+(q.length:Int)) [c]=_:=hone
   rw [eJ,bndD,iS hs,aU,bndD,hw1,bndD,hw2,hwc,hcut,bnoS,hone,bnoS]
   have hM:∀ n,ovM s0 ⟨a,q++[c]⟩ n=(ovM s0 ⟨a,q⟩ n).or (bm [(⟨a+(q.length:Int),[c]⟩:Pt)] n):=fun n=>by
    unfold ovM
    rw [bm_take hs,Gz]
   have e3:pe (⟨a+(q.length:Int),[c]⟩:Pt)=a+(q.length:Int)+1:=by show a+(q.length:Int)+(([c]:List Ai).length:Int)=_; simp
   have hat:∀ n,n≠a+(q.length:Int)→bm [(⟨a+(q.length:Int),[c]⟩:Pt)] n=none:=fun n hn=>lK (by rw [e3]; show ¬(a+(q.length:Int)≤n∧_); omega)
   have eqr:q++[c]++r=q++c::r:=by simp
   by_cases hc:a+(q.length:Int)<s.ag∨hv s.ao (a+(q.length:Int))=true
   · rw [Az hc,aQ,bndD]
     have ho':Ov s0 s (ovM s0 ⟨a,q++[c]⟩):=ho.ext fun n hn=>by
      rw [hM]
      by_cases hne:n=a+(q.length:Int)
      · subst hne
        refine (aDM ?_ _).symm
        by_cases hb:a+(q.length:Int)<s.ag
        · obtain ⟨D,d1,d2,d3⟩:=ho.rd
          rw [←d3 _ hn hb,Ne,Ev]; omega
        · have hv1:=hc.resolve_left hb
          rw [←ho.pm _ (by omega)]
          unfold hv at hv1
          intro hh; rw [hh] at hv1; cases hv1
      · rw [hat n hne,sP]
     have:=aI0 (z:=z) h0 ha hbig r (q++[c]) f s k (by rw [hs]; simp) (by rw [eqr,hql]; exact hl) (by rw [eqr,hql]; exact hz) (by simpa using hf) ho' ⟨hk.1,by rw [Ae]; omega⟩
     rw [hwc,eqr] at this
     exact this
   · rw [Aq hc,aU,w64 (by omega) (by omega),bndD,bndD]
     have hb:¬ a+(q.length:Int)<s.ag:=fun hh=>hc (.inl hh)
     have ho':Ov s0 (rB s ⟨a+(q.length:Int),[c]⟩) (ovM s0 ⟨a,q++[c]⟩):=(ho.trans (aJA ho.rx (x:=⟨a+(q.length:Int),[c]⟩) (by simp) (by show s.ag≤a+(q.length:Int); omega) (by rw [e3,hll]; omega))).ext fun n hn=>by
      rw [hM]
      by_cases hns:n<s.ag
      · rw [Az hns,hat n (by omega),sP]
      · rw [Aq hns]
        rw [←ho.pm n (by omega)]; rfl
     have:=aI0 (z:=z) h0 ha hbig r (q++[c]) f _ (k+1) (by rw [hs]; simp) (by rw [eqr,hql]; exact hl) (by rw [eqr,hql]; exact hz) (by simpa using hf) ho' ⟨by omega,by rw [Ae,AZ]; omega⟩
     rw [hwc,eqr] at this
     exact this
theorem rputG {s:R12} (h:RX s) {a:Int} {str:List Ai} (h0:0≤a) (h1:a+(str.length:Int)≤1099511627776):∃ n,qC s a str=some (putR s a (capT s a str),n):=by
 unfold qC
 rw [aDB h,bnoS,bndD,Ac rfl,bndD,Aa (show ¬a<0 by omega),bndD,show (!true||false)=false from rfl,bndD,Aa (show ¬1099511627776<a by omega),bndD,Bc,aQ]
 by_cases hc:limS s≤a
 · rw [aDq hc,aDD]
   exact ⟨0,aI6 h h0 h1 str [] fuel 0 rfl (bK (by omega)) (fun _=>by simpa using hc)⟩
 · have hk:=aFx (s:=s) (a:=a) (str:=str) (by omega)
   have ho:Ov s s (ovM s ⟨a,[]⟩):=(Ov.self h).ext fun n _=>by
    unfold ovM
    rw [show bm [(⟨a,[]⟩:Pt)] n=none from lK (by show ¬(a≤n∧n<a+(([]:List Ai).length:Int)); simp),sP]
   have:=aI0 h (z:=str.drop (limS s-a).toNat) h0 h1 (capT s a str) [] fuel s 0 (by unfold capT; simp) (by simpa using hk) (fun hz=>by
    have:¬ str.length≤(limS s-a).toNat:=fun hh=>hz (Ff.2 hh)
    show _≤a+((([]:List Ai)++capT s a str).length:Int)
    unfold capT
    rw [AE,Aw]; omega) (bK (by unfold capT; rw [AO]; omega)) ho ⟨by omega,by simp⟩
   exact this
theorem x_putG {r:R12} (h:RX r) {a:Int} {str:List Ai} (hs:str.length≤1000) :
 (¬(0≤a∧a+(str.length:Int)≤1099511627776)∧xT ⟨r,-1⟩ a str false=some (⟨r,-1⟩,0,2)∧lP ⟨r,-1⟩ a str false=some (⟨r,-1⟩,0,2)) ∨
 ∃ r' n m,RX r'∧xT ⟨r,-1⟩ a str false=some (⟨r',-1⟩,n,0)∧lP ⟨r,-1⟩ a str false=some (⟨r',-1⟩,m,0):=by
 obtain ⟨c1,c2⟩:=zV h (E:=-1) (.inl rfl)
 have hw:Ab .i64 (1099511627776-(str.length:Int))=1099511627776-(str.length:Int):=w64 (by omega) (by omega)
 by_cases hc:0≤a∧a+(str.length:Int)≤1099511627776
 · right
   obtain ⟨h0,h1⟩:=hc
   obtain ⟨n,hn⟩:=xputG h (str:=str) h0 h1
   obtain ⟨m,hm⟩:=rputG h (str:=str) h0 h1
   have hrx:RX (putR r a (capT r a str)):=by
    by_cases hl:limS r≤a
    · rw [aDq hl,aDD]; exact h
    · exact (aI2 h (aFx (by omega))).rx
   refine ⟨_,n,m,hrx,?_,?_⟩
   · unfold xT rP
     have hcl:nB ⟨r,-1⟩ (a+(str.length:Int)) false=some false:=by
      unfold nB lW
      simp only [bndD,bnoS,show decide ((0:Int) ≤ -1)=false from rfl,aQ]
      rfl
     simp only [bndD,Aa (show ¬a<0 by omega),hw,Aa (show ¬1099511627776-(str.length:Int)<a by omega),Bc,Ap,gdtt,c1,bnoS,decide_true,Ah,aQ,w64 (show -9223372036854775808≤a+(str.length:Int) by omega) (by omega),hcl,hn]
     rfl
   · unfold lP
     simp only [c2,bnoS,bndD,decide_true,Ah,Aa (show ¬a<0 by omega),hw,Aa (show ¬1099511627776-(str.length:Int)<a by omega),Bc,aQ,w64 (show -9223372036854775808≤a+(str.length:Int) by omega) (by omega),show decide ((0:Int) ≤ -1)=false from rfl,AN,ft,gdff,hm]
     rfl
 · left
   refine ⟨hc,?_,?_⟩
   · have hb:(decide (a<0)||decide (1099511627776-(str.length:Int)<a))=true:=by
      simp only [CB,BJ]; omega
     unfold xT
     simp only [bndD,hw,hb,show (true == false)=false from rfl,gdff,bnoS,BO,aU]
   · have hb:(decide (a<0)||decide (1099511627776-(str.length:Int)<a))=true:=by
      simp only [CB,BJ]; omega
     unfold lP
     simp only [c2,bnoS,bndD,decide_true,Ah,BF,hw,hb,aU]
end Go.Fn
open Int renaming ediv_le_self → HX,ediv_nonneg → Fp,emod_eq_of_lt → DY,eq_ofNat_of_zero_le → DE,le_of_lt → EY,natCast_zero → Ic,pow_pos → ET,tdiv_eq_ediv_of_nonneg → FA,toNat_zero → Df
open List renaming getElem?_cons_zero → Cj,set_cons_zero → EI
open Nat renaming mod_eq_of_lt → Ew,sub_zero → DA
open UInt8 renaming ofNat → Cf,toNat_ofNat' → Hm
open _root_ renaming cond_false → AD,cond_true → Bw
open Go Go.IL
namespace Go.Fn

set_option maxRecDepth 20000 in
theorem lenJ2 {a c:Int} (h0:0≤a) (h1:a<256) (h2:0≤c) (h3:c≤56):lB a c=some (c+(blen a.toNat:Int)):=by
 have hb:=aMI (n:=a.toNat) (by omega)
 unfold lB
 rw [eM,wU8 h0 h1]
 have e:=len8_at h0 h1
 rw [zE _ h0]
 have e2:∀ l:List Ai,l=len8→l[a.toNat]? = some (Cf (blen a.toNat)):=fun l hl=>hl ▸ e
 refine (Bv (fun o=>bno o _) (e2 _ (by rfl))).trans ?_
 rw [bF,eM,eM]
 have hn:(Cf (blen a.toNat)).toNat=blen a.toNat:=by
  rw [Hm]; exact Ew (by omega)
 rw [hn,w64 (n:=(blen a.toNat:Int)) (by omega) (by omega),w64 (by omega) (by omega)]
theorem aDT {a:Int} {k:Nat} (h0:0≤a) (h:(2:Int) ^ k≤a):(blen a.toNat:Int)=k+(blen (a / 2 ^ k).toNat:Int):=by
 have e:(a / 2 ^ k).toNat=a.toNat / 2 ^ k:=by
  obtain ⟨x,rfl⟩:=DE h0
  rw [show (2:Int) ^ k=((2 ^ k:Nat):Int) by simp,←Int.natCast_ediv]; simp only [Au]
 have hh:2 ^ k≤a.toNat:=by
  have:((2 ^ k:Nat):Int)=(2:Int) ^ k:=by simp
  omega
 rw [e,aMJ hh]; omega
theorem lenJ1 {a c:Int} (h0:0≤a) (h1:a<65536) (h2:0≤c) (h3:c≤48):lC a c=some (c+(blen a.toNat:Int)):=by
 unfold lC
 rw [eM]
 by_cases h:256≤a
 · have e:=aDT (k:=8) h0 (by omega)
   rw [Ac h,Bw,aBb (k:=.u64) (b:=8) 8 rfl (by decide),bF,eM,w64 (by omega) (by omega),lenJ2 (by omega) (by omega) (by omega) (by omega),e]
   congr 1; omega
 · rw [Aa h,AD,lenJ2 h0 (by omega) h2 (by omega)]
theorem lenJ0 {a c:Int} (h0:0≤a) (h1:a<4294967296) (h2:0≤c) (h3:c≤32):lD a c=some (c+(blen a.toNat:Int)):=by
 unfold lD
 rw [eM]
 by_cases h:65536≤a
 · have e:=aDT (k:=16) h0 (by omega)
   rw [Ac h,Bw,aBb (k:=.u64) (b:=16) 16 rfl (by decide),bF,eM,w64 (by omega) (by omega),lenJ1 (by omega) (by omega) (by omega) (by omega),e]
   congr 1; omega
 · rw [Aa h,AD,lenJ1 h0 (by omega) h2 (by omega)]
theorem aLI {a:Int} (h0:0≤a) (h1:a<18446744073709551616):qI a=some (blen a.toNat:Int):=by
 unfold qI
 rw [eM]
 by_cases h:4294967296≤a
 · have e:=aDT (k:=32) h0 (by omega)
   rw [Ac h,Bw,aBb (k:=.u64) (b:=32) 32 rfl (by decide),bF,lenJ0 (by omega) (by omega) (by omega) (by omega),e]
   congr 1
 · rw [Aa h,AD,lenJ0 h0 (by omega) (by omega) (by omega)]
   congr 1; omega
theorem len_is {a:Int} (h0:0≤a) (h1:a<18446744073709551616):sQ a=some (blen a.toNat:Int):=by
 unfold sQ; rw [aLI h0 h1]; rfl

theorem aJK {n:Int} (hb:¬ vbad n):∀ (k:Nat) (i:Int),(4-i).toNat<k→0≤i→i≤iF n→oN n k i=some (iF n):=by
 have hn:0≤n∧n≤4611686018427387903:=by unfold vbad at hb; omega
 have hr:=tD n
 intro k
 induction k with
 | zero=>intro i h; omega
 | succ k ih =>
   intro i h h0 hi
   unfold oN
   have hs:=aJJ hn.1 hn.2 h0 (show i<4 by omega)
   have hr2:=aIa h0 (show i<4 by omega)
   simp only [eM,Ac (show i<4 by omega),Bw,wU64 hn.1 (show n<18446744073709551616 by omega),len_is hn.1 (show n<18446744073709551616 by omega),bF,aIb (aBc (.inl rfl) h0 (show i<4 by omega))]
   rw [w64 (by omega) (by omega),w64 (by omega) (by omega)]
   by_cases hc:(blen n.toNat:Int)≤8*2 ^ i.toNat-2
   · rw [Ac hc,Bw]; congr 1; have:=hs.1 hc; omega
   · rw [Aa hc,AD]; exact ih _ (by omega) (by omega) (by have:=mt hs.2 hc; omega)
theorem aJL (n:Int):tE n=some (iF n):=by
 unfold tE
 simp only [eM]
 by_cases hb:vbad n
 · rw [aIJ hb]
   have:(decide (n<0)||decide (4611686018427387903<n))=true:=by simpa [vbad] using hb
   rw [this,Bw]
 · have:(decide (n<0)||decide (4611686018427387903<n))=false:=by simpa [vbad] using hb
   have hk:0≤iF n:=by rcases uS n with h | h; exact AP h.1 hb; exact h.2.1
   rw [this,AD,aJK hb _ _ (bK (by decide)) (by omega) hk]

theorem aIZ (n:Int):kH n=some (oM n):=by
 unfold kH oM
 simp only [eM]
 by_cases hb:vbad n
 · have:(decide (n<0)||decide (4611686018427387903<n))=true:=by simpa [vbad] using hb
   rw [this,Bw,Az hb]
 · have:(decide (n<0)||decide (4611686018427387903<n))=false:=by simpa [vbad] using hb
   rw [this,AD,Aq hb]
   by_cases h1:n<64
   · simp [h1]
   by_cases h2:n<16384
   · simp [h1,h2]
   by_cases h3:n<1073741824 <;> simp [h1,h2,h3]
theorem mark_is (s:Int):mR s=some (aKq s):=by
 unfold mR aKq
 simp only [eM]
 by_cases h1:s=1
 · simp [h1]
 by_cases h2:s=2
 · simp [h2]
 by_cases h3:s=4 <;> simp [h1,h2,h3]
theorem long_is (b:Ai):mS (b.toNat:Int)=some ((2 ^ (b.toNat / 64):Nat):Int):=by
 have hb:=b.toNat_lt
 rw [aLE]
 unfold mS quoI
 rw [Aq (by decide),bF,FA (by omega),wU8 (by omega) (by omega)]
 simp only [eM]
 have e:((b.toNat:Int) / 64)=((b.toNat / 64:Nat):Int):=rfl
 rw [e]
 generalize b.toNat / 64=q
 by_cases h0:q=0
 · simp [h0]
 by_cases h1:q=1
 · simp [h1]
 by_cases h2:q=2
 · simp [h2]
 · have a0:¬ ((q:Int)=0):=by omega
   have a1:¬ ((q:Int)=1):=by omega
   have a2:¬ ((q:Int)=2):=by omega
   simp [h0,h1,h2,a0,a1,a2]

theorem aK6 {n:Int} {m:Nat} (hb:¬ vbad n) (hm:(oM n).toNat=m+1) (hk:0≤iF n):∀ (k j:Nat),m+1-j<k→j≤m+1 →
 pU (iF n) k (n / 256 ^ j) (Ay (m+1-j) 0++beb n j) ((m:Int)-j)=some (vput n,0):=by
 have hk3:=(tD n).2
 have hm7:m≤7:=by have:=tC n; omega
 intro k
 induction k with
 | zero=>intro j h; omega
 | succ k ih =>
   intro j h hj
   unfold pU
   simp only [eM]
   by_cases hc:j=m+1
   · subst hc
     have ht:=aBZ hb hm
     rw [Aa (by omega),AD]
     simp only [Gx,List.replicate_zero,AE]
     have eb:beb n (m+1)=by8 (n / 256 ^ m)::beb n m:=rfl
     rw [eb]
     simp only [zE _ (AU 0),Df,Cj,bF,aIb (aHg hk (show iF n<4 by omega)),EI]
     rw [wU8 (by omega) (by omega),aCB]
     have e4:n / 256 ^ m % 256=n / 256 ^ m:=DY ht.1 (by omega)
     have e3:orI .u8 (n / 256 ^ m) (64*iF n)=n / 256 ^ m+64*iF n:=int_e (or_mark (by omega) (by omega) hk (by omega)) rfl
     rw [e4,e3,yU (by omega) (by omega),bF,aCt hm,e4]
     congr 4; omega
   · have hq0:0≤n / 256 ^ j:=Fp (by unfold vbad at hb; omega) (EY (ET (by decide)))
     obtain ⟨q,hq⟩:∃ q,m+1-j=q+1:=⟨m-j,by omega⟩
     have hmj:(m:Int)-j=(q:Int):=by omega
     rw [hmj,Ac (by omega),Bw,aII,hq]
     have e1:(Ay (q+1) (0:Ai)++beb n j)[q]? = some 0:=by
      rw [AX (by simp),Gc,Az (by omega)]
     simp only [iT,e1,bF,Au]
     rw [yU (by omega) (by omega),bF,aIc,aBb (k:=.i64) (b:=8) 8 rfl (by decide),bF,w64 (by omega) (by omega)]
     have:=ih (j+1) (by omega) (by omega)
     rw [show m+1-(j+1)=q by omega,show (m:Int)-((j+1:Nat):Int)=(q:Int)-1 by omega,←aGf] at this
     exact this
theorem aMr (n:Int):uU n=some (vput n,if vbad n then 8 else 0):=by
 unfold uU
 rw [aJL,bF,eM]
 by_cases hb:vbad n
 · rw [Ac (aBV.2 hb),Bw,aF6 hb,Az hb]
 · have hk:0≤iF n:=by rcases uS n with h | h; exact AP h.1 hb; exact h.2.1
   obtain ⟨m,hm7,hm,hp,_⟩:=aCr hk
   have hk3:=(tD n).2
   rw [Aa (by omega),AD,Aq hb,aIb (aBc (.inr (.inl rfl)) hk (by omega)),bF,Int.one_mul,hp,aJG (by omega) (by omega) (by omega),bF,eM]
   simp only [Au,BG]
   rw [w64 (by omega) (by omega)]
   have:=aK6 hb hm hk fuel 0 (bK (by omega)) (by omega)
   simp only [beb,Int.pow_zero,Int.ediv_one,AQ,DA,Ic,Int.sub_zero] at this
   rw [show ((m+1:Nat):Int)-1=(m:Int) by omega]
   exact this
theorem aIg {n:Int} {m:Nat} (hb:¬ vbad n) (hm:(oM n).toNat=m+1) (hk:0≤iF n):∀ (k j:Nat),m+1-j<k→j≤m+1 →
 gB (oM n) k (n / 256 ^ j) (beb n j) (j:Int)=some (vput n,0):=by
 have hk3:=(tD n).2
 have hsr:=tC n
 have hm7:m≤7:=by omega
 intro k
 induction k with
 | zero=>intro j h; omega
 | succ k ih =>
   intro j h hj
   unfold gB
   simp only [eM]
   by_cases hc:j=m+1
   · subst hc
     have ht:=aBZ hb hm
     rw [Aa (by omega),AD]
     have eb:beb n (m+1)=by8 (n / 256 ^ m)::beb n m:=rfl
     rw [eb]
     simp only [zE _ (AU 0),Df,Cj,bF,mark_is,aHa hb,EI]
     have e4:n / 256 ^ m % 256=n / 256 ^ m:=DY ht.1 (by omega)
     rw [aCB,e4,wU8 (n:=64*iF n) (by omega) (by omega),wU8 (by omega) (by omega),yU (by omega) (by omega),bF,aCt hm,e4]
     congr 4; omega
   · have hq0:0≤n / 256 ^ j:=Fp (by unfold vbad at hb; omega) (EY (ET (by decide)))
     have hq1:n / 256 ^ j≤n:=HX _ (by unfold vbad at hb; omega)
     have hn:n≤4611686018427387903:=by unfold vbad at hb; omega
     rw [Ac (by omega),Bw,aEJ hq0 (by decide),bF,wU8 (by omega) (by omega),yU (by omega) (by omega),bF,dU (by simp [vL]; omega) (by simp [vL]; omega),bF,quo_ok hq0 (by omega) (by decide),bF,w64 (by omega) (by omega),aE4]
     exact ih (j+1) (by omega) (by omega)
theorem aIh (n:Int):jQ n=some (vput n,if vbad n then 8 else 0):=by
 unfold jQ
 rw [aIZ,bF,eM]
 by_cases hb:vbad n
 · rw [Ac (aAd.2 hb),Bw,aF6 hb,Az hb]
 · have hk:0≤iF n:=by rcases uS n with h | h; exact AP h.1 hb; exact h.2.1
   obtain ⟨m,hm7,hm,hp,_⟩:=aCr hk
   rw [Aa (fun h=>hb (aAd.1 h)),AD,Aq hb]
   have:=aIg hb hm hk fuel 0 (bK (by omega)) (by omega)
   simpa [beb] using this

theorem aLg {b:Ai} {q:List Ai} {x6:Int} (hq:q.length≤7):∀ (k j:Nat),q.length-j<k→j≤q.length →
 pV ((b.toNat / 64:Nat):Int) x6 q k (beN (b.toNat % 64) (q.take j)) (j:Int)=some (if iF (beN (b.toNat % 64) q)=((b.toNat / 64:Nat):Int) then (beN (b.toNat % 64) q,x6,0) else (0,0,4)):=by
 intro k
 induction k with
 | zero=>intro j h; omega
 | succ k ih =>
   intro j h hj
   unfold pV
   simp only [eM]
   have ha:=aFl (b:=b) (l:=q) j hj (by omega)
   by_cases hc:j=q.length
   · subst hc
     rw [Aa (by omega),AD,aJL,bF,AM]
     by_cases hv:iF (beN (b.toNat % 64) q)=((b.toNat / 64:Nat):Int)
     · rw [Ac hv,Az hv]; rfl
     · rw [Aa hv,Aq hv]; rfl
   · have hlt:j<q.length:=by omega
     have hc8:=(q[j]).toNat_lt
     have h6:=ha.2.2 (by omega)
     rw [Ac (by omega),Bw,iT,Am hlt,bF,aIb (shl_8 ha.1 (by omega)),bF,w64 (n:=((q[j]).toNat:Int)) (by omega) (by omega)]
     have e:orI .i64 (beN (b.toNat % 64) (q.take j)*256) ((q[j]).toNat:Int)=beN (b.toNat % 64) (q.take (j+1)):=by
      rw [aHR (Am hlt)]
      exact int_e (or_low ha.1 (by omega) (by omega) (by omega)) rfl
     rw [e,w64 (by omega) (by omega)]
     exact ih (j+1) (by omega) (by omega)
theorem aJr (s:List Ai):qS s=some (vget s):=by
 unfold qS
 simp only [eM]
 cases s with
 | nil=>rfl
 | cons b r =>
   have hb:=b.toNat_lt
   have hk:=Go.IL.k4 b
   have hp:=aAi hk
   rw [Aa (by simp),AD]
   simp only [zE _ (AU 0),Df,Cj,bF]
   rw [aBb (k:=.u8) (b:=6) 6 rfl (by decide),bF]
   have e1:((b.toNat:Int) / 2 ^ 6)=((b.toNat / 64:Nat):Int):=rfl
   rw [e1,w64 (by omega) (by omega),aIb (aBc (.inr (.inl rfl)) (by omega) (by omega)),bF,Int.one_mul,Au]
   have e2:(2:Int) ^ (b.toNat / 64)=((2 ^ (b.toNat / 64):Nat):Int):=by simp
   rw [e2]
   by_cases hh:(b::r).length<2 ^ (b.toNat / 64)
   · rw [Ac (by omega),Bw,sV hh]
   · rw [Aa (by omega),AD]
     have e3:andI .u8 (b.toNat:Int) 63=(b.toNat:Int) % 64:=int_e (and63 b) rfl
     rw [e3,w64 (by omega) (by omega),aBC (by omega) (by omega) (by omega),bF,aHf hp.1]
     have hl:=get_len hh
     have:=aLg (b:=b) (x6:=((2 ^ (b.toNat / 64):Nat):Int)) (q:=r.take (2 ^ (b.toNat / 64)-1)) (by omega) fuel 0 (bK (by omega)) (by omega)
     simp only [DM,beN,List.foldl_nil,Ic] at this
     rw [this]
     simp only [vget,Aq hh,beN]
theorem aIk {b:Ai} {r q:List Ai} (hh:¬ (b::r).length<2 ^ (b.toNat / 64)) (hq:q=r.take (2 ^ (b.toNat / 64)-1)):∀ (k j:Nat),q.length-j<k→j≤q.length →
 kX (b::r) ((2 ^ (b.toNat / 64):Nat):Int) k (beN (b.toNat % 64) (q.take j)) ((j+1:Nat):Int)=some (if iF (beN (b.toNat % 64) q)=((b.toNat / 64:Nat):Int) then (beN (b.toNat % 64) q,((2 ^ (b.toNat / 64):Nat):Int),0) else (0,0,4)):=by
 have hk:=Go.IL.k4 b
 have hp:=aAi hk
 have hl:=get_len hh
 rw [←hq] at hl
 intro k
 induction k with
 | zero=>intro j h; omega
 | succ k ih =>
   intro j h hj
   unfold kX
   simp only [eM]
   have ha:=aFl (b:=b) (l:=q) j hj (by omega)
   by_cases hc:j=q.length
   · subst hc
     rw [Aa (by omega),AD,aIZ,bF,AM]
     have hi:=aD5 (n:=beN (b.toNat % 64) q) hk
     by_cases hv:iF (beN (b.toNat % 64) q)=((b.toNat / 64:Nat):Int)
     · rw [Ac (hi.2 hv),Az hv]; rfl
     · rw [Aa (fun h=>hv (hi.1 h)),Aq hv]; rfl
   · have hlt:j<q.length:=by omega
     have hc8:=(q[j]).toNat_lt
     have h6:=ha.2.2 (by omega)
     have hq2:(r.take (2 ^ (b.toNat / 64)-1))[j]? = some q[j]:=by rw [←hq,Am hlt]
     have ht:=tail_at (b:=b) hq2
     rw [Ac (by omega),Bw,w64 (n:=256*beN (b.toNat % 64) (q.take j)) (by omega) (by omega),zE _ (by omega),ht,bF,w64 (n:=((q[j]).toNat:Int)) (by omega) (by omega)]
     have e:256*beN (b.toNat % 64) (q.take j)+((q[j]).toNat:Int)=beN (b.toNat % 64) (q.take (j+1)):=by
      rw [aHR (Am hlt)]; omega
     have hb2:=aFl (b:=b) (l:=q) (j+1) (by omega) (by omega)
     rw [e,w64 (by omega) (by omega),w64 (by omega) (by omega)]
     exact ih (j+1) (by omega) (by omega)
theorem aFR (s:List Ai):jT s=some (vget s):=by
 unfold jT
 simp only [eM]
 cases s with
 | nil=>rfl
 | cons b r =>
   have hb:=b.toNat_lt
   have hk:=Go.IL.k4 b
   have hp:=aAi hk
   rw [Aa (by simp)]
   simp only [zE _ (AU 0),Df,Cj,bF,Ap,aLi,long_is,BF]
   by_cases hh:(b::r).length<2 ^ (b.toNat / 64)
   · rw [Ac (by omega),Bw,sV hh]
   · rw [Aa (by omega),AD,aEJ (by omega) (by decide),bF,w64 (by omega) (by omega)]
     have hl:=get_len hh
     have:=aIk hh rfl fuel 0 (bK (by omega)) (by omega)
     simp only [DM,beN,List.foldl_nil] at this
     have this2:=this
     rw [show ((0+1:Nat):Int)=1 from rfl] at this2
     rw [this2]
     simp only [vget,Aq hh,beN]
end Go.Fn
open Bool renaming and_assoc → GO
open List renaming all_eq_false → HN,all_eq_true → AV,getElem_mem → CC,take_succ_eq_append_getElem → Bo
open Nat renaming zero_le → Ci
open Go Go.IL
namespace Go.Fn
theorem aJt (k:Nat) (h:k<100):∃ m,fuel=m+k:=⟨2 ^ 64-k,by show 2 ^ 64=_; omega⟩
theorem rJ {i:Nat} {n:Nat} (h:i<n) (hn:n≤1000000):Ab .i64 ((i:Int)+1)=((i+1:Nat):Int):=by rw [w64 (by omega) (by omega)]; omega

def inb (n a b:Int):Bool:=decide (a≤n)&&decide (n≤b)
theorem in_is (n a b:Int):rH n a b=some (inb n a b):=rfl
theorem aEI (n a b:Int):fX n a b=some (inb n a b):=rfl
def sK (p:aW):Bool:=inb p.ID 0 1099511627776&&inb p.ce 0 1099511627776
theorem aMP (p:aW):lO p=some (!sK p):=by
 unfold lO sK
 simp only [in_is,bF,eM]
 cases inb p.ID 0 1099511627776 <;> simp [gd,bF]
theorem aLb {l:List aW} (hl:l.length≤1000000):∀ (k i:Nat),l.length-i<k→i≤l.length→(∀ x∈l.take i,sK x=true) →
 ∃ n,bV l k (i:Int)=some n∧decide (0≤n) = !l.all sK:=by
 intro k
 induction k with
 | zero=>intro i h; omega
 | succ k ih =>
   intro i h hi ha
   unfold bV
   simp only [eM]
   by_cases hc:i<l.length
   · rw [Ac (by omega),Bw,iT,Am hc,bF,aMP,bF]
     cases hp:sK l[i] with
     | false =>
       refine ⟨i,rfl,?_⟩
       have:l.all sK=false:=by
        rw [HN]; exact ⟨l[i],CC hc,by simp [hp]⟩
       rw [this]; simp
     | true =>
       simp only [Ah,AD]
       rw [rJ hc hl]
       exact ih (i+1) (by omega) (by omega) (by
        rw [Bo hc]
        intro x hx
        rcases As.1 hx with h | h
        · exact ha x h
        · simp at h; subst h; exact hp)
   · rw [Aa (by omega),AD]
     refine ⟨-1,rfl,?_⟩
     have:i=l.length:=by omega
     subst this
     rw [AM] at ha
     rw [AV.2 ha]; rfl
theorem aFw {l:List aW} (hl:l.length≤1000000):cM l=some (!l.all sK):=by
 unfold cM dV
 obtain ⟨n,h1,h2⟩:=aLb hl fuel 0 (bK (by omega)) (Ci _) (by simp)
 rw [show ((0:Nat):Int)=0 from rfl] at h1
 rw [h1,bF,eM,h2]

def rngs (f:aA) (a b c:Int):Bool :=
 f.au.all sK&&inb f.bg 0 1048576&&inb f.bj 0 1099511627776&&inb f.cb 0 1048576&&inb f.N a b&&inb f.Code 0 c
def rng (f:aA):Bool :=
 if f.aq=8 then rngs f 1 1099511627776 255 else if f.aq=10 then rngs f 0 3 1 else
 if f.aq=1∨f.aq=2 then inb f.bo 1 256&&rngs f 0 1099511627776 255 else rngs f 0 1099511627776 255
theorem rJ1 {f:aA} (hl:f.au.length≤1000000) (a b c:Int):eT f a b c=some (rngs f a b c):=by
 unfold eT rngs
 simp only [aFw hl,in_is,bF,eM]
 cases f.au.all sK <;> cases inb f.N a b <;> cases inb f.Code 0 c <;> cases inb f.bg 0 1048576 <;> cases inb f.cb 0 1048576 <;> cases inb f.bj 0 1099511627776 <;> rfl
theorem aIw {f:aA} (hl:f.au.length≤1000000):nC f=some (rng f):=by
 unfold nC rng lH
 simp only [rJ1 hl,in_is,bF,eM]
 by_cases h8:f.aq=8
 · simp [h8]
 by_cases h10:f.aq=10
 · simp [h10]
 by_cases h1:f.aq=1
 · simp [h1]; cases inb f.bo 1 256 <;> simp
 by_cases h2:f.aq=2
 · simp [h2]; cases inb f.bo 1 256 <;> simp
 simp [h8,h10,h1,h2]
theorem rL3 {f:aA} (hl:f.au.length≤1000000) {a b c:Int} {w:Bool}:∀ (k i:Nat),f.au.length-i<k→i≤f.au.length→(∀ x∈f.au.take i,sK x=true) →
 iG f a b c w k (i:Int)=some (w&&rngs f a b c):=by
 intro k
 induction k with
 | zero=>intro i h; omega
 | succ k ih =>
   intro i h hi ha
   unfold iG
   simp only [eM]
   by_cases hc:i<f.au.length
   · have e:∀ p:aW,sK p=(inb p.ID 0 1099511627776&&inb p.ce 0 1099511627776):=fun _=>rfl
     rw [Ac (by omega),Bw,iT,Am hc]
     simp only [bF,aEI]
     cases hp:sK f.au[i] with
     | false =>
       have hall:f.au.all sK=false:=by rw [HN]; exact ⟨f.au[i],CC hc,by simp [hp]⟩
       have hr:rngs f a b c=false:=by unfold rngs; rw [hall]; rfl
       rw [hr,Ca]
       rw [e] at hp
       cases h1:inb f.au[i].ID 0 1099511627776 with
       | false=>simp [gd,bF,h1]
       | true=>rw [h1,Bn] at hp; simp [gd,bF,h1,hp,aEI]
     | true =>
       have hp':=hp
       rw [e,Af] at hp
       simp only [hp.1,hp.2,Ah,gd,bF,Ap,Bw,aEI,Bc,AD]
       rw [rJ hc hl]
       exact ih (i+1) (by omega) (by omega) (by
        rw [Bo hc]
        intro x hx
        rcases As.1 hx with h | h
        · exact ha x h
        · simp at h; subst h; exact hp')
   · rw [Aa (by omega),AD]
     have:i=f.au.length:=by omega
     subst this
     rw [AM] at ha
     unfold rngs
     rw [AV.2 ha]
     simp only [aEI,bF]
     cases w <;> cases inb f.N a b <;> cases inb f.Code 0 c <;> cases inb f.bg 0 1048576 <;> cases inb f.cb 0 1048576 <;> cases inb f.bj 0 1099511627776 <;> rfl
theorem aHl {f:aA} (hl:f.au.length≤1000000):nA f=some (rng f):=by
 have h3:∀ a b c w,kP f a b c w=some (w&&rngs f a b c):=fun a b c w=>rL3 hl fuel 0 (bK (by omega)) (Ci _) (by simp)
 unfold nA rng kR kQ
 simp only [h3,aEI,bF,eM]
 by_cases h8:f.aq=8
 · simp [h8]
 by_cases h10:f.aq=10
 · simp [h10]
 by_cases h1:f.aq=1
 · simp [h1]
 by_cases h2:f.aq=2
 · simp [h2]
 simp [h8,h10,h1,h2]

theorem eq_loop {p q:List aW} (hp:p.length≤1000000) (hq:p.length=q.length):∀ (k i:Nat),p.length-i<k→i≤p.length→p.take i=q.take i→dC p q k (i:Int)=some (decide (p=q)):=by
 intro k
 induction k with
 | zero=>intro i h; omega
 | succ k ih =>
   intro i h hi ha
   unfold dC
   simp only [eM]
   by_cases hc:i<p.length
   · have hc2:i<q.length:=by omega
     rw [Ac (by omega),Bw,iT,Am hc,bF,iT,Am hc2,bF]
     have e:(decide ((p[i]).ID=(q[i]).ID)&&(decide ((p[i]).ce=(q[i]).ce)&&true))=decide (p[i]=q[i]):=by
      cases hp2:p[i]; cases hq2:q[i]; simp [aW.mk.injEq,Bool.decide_and]
     rw [e]
     by_cases hx:p[i]=q[i]
     · rw [Ac hx]; simp only [Ah,AD]
       rw [rJ hc hp]
       exact ih (i+1) (by omega) (by omega) (by rw [Bo hc,Bo hc2,ha,hx])
     · have hne:p≠q:=fun h=>hx (by subst h; rfl)
       rw [Aa hx,Aa hne]; rfl
   · rw [Aa (by omega),AD]
     have:i=p.length:=by omega
     subst this
     rw [AM,hq,AM] at ha
     rw [Ac ha]
theorem aLm {p q:List aW} (hp:p.length≤1000000) (hq:q.length≤1000000):fE p q=some (decide (p=q)):=by
 unfold fE
 simp only [eM]
 by_cases h:p.length=q.length
 · rw [Ac (by omega)]; simp only [Ah,AD]
   exact eq_loop hp h fuel 0 (bK (by omega)) (Ci _) (by simp)
 · rw [Aa (by omega)]
   have:p≠q:=fun e=>h (by rw [e])
   rw [Aa this]; rfl
theorem aJw {a b:aA}:a=b↔a.aq=b.aq∧a.bp=b.bp∧a.bg=b.bg∧a.bj=b.bj∧a.cb=b.cb∧a.bo=b.bo∧a.N=b.N∧a.Code=b.Code∧a.au=b.au∧a.aj=b.aj:=by
 cases a; cases b; simp
theorem aB2 (a b:aA):decide (a=b)=(decide (a.aq=b.aq)&&(a.bp == b.bp)&&decide (a.au=b.au)&&(decide (a.bg=b.bg)&&decide (a.bj=b.bj)&&decide (a.cb=b.cb)&&decide (a.bo=b.bo)&&decide (a.N=b.N)&&decide (a.Code=b.Code)&&decide (a.aj=b.aj))):=by
 rw [BZ]
 simp only [decide_eq_true_eq,Af,FL,aJw]
 constructor
 · rintro ⟨h1,h2,h3,h4,h5,h6,h7,h8,h9,h10⟩; exact ⟨⟨⟨h1,h2⟩,h9⟩,⟨⟨⟨⟨⟨h3,h4⟩,h5⟩,h6⟩,h7⟩,h8⟩,h10⟩
 · rintro ⟨⟨⟨h1,h2⟩,h9⟩,⟨⟨⟨⟨⟨h3,h4⟩,h5⟩,h6⟩,h7⟩,h8⟩,h10⟩; exact ⟨h1,h2,h3,h4,h5,h6,h7,h8,h9,h10⟩
theorem same_is {a b:aA} (ha:a.au.length≤1000000) (hb:b.au.length≤1000000):xX a b=some (decide (a=b)):=by
 unfold xX
 simp only [eM]
 rw [aB2,aLm ha hb]
 generalize (decide (a.bg=b.bg)&&decide (a.bj=b.bj)&&decide (a.cb=b.cb)&&decide (a.bo=b.bo)&&decide (a.N=b.N)&&decide (a.Code=b.Code)&&decide (a.aj=b.aj))=z
 cases decide (a.aq=b.aq) <;> cases (a.bp == b.bp) <;> cases decide (a.au=b.au) <;> simp [gd,bF]
theorem aHj {a b:aA} (ha:a.au.length≤1000000) (hq:a.au.length=b.au.length):∀ (k i:Nat),a.au.length-i<k→i≤a.au.length→a.au.take i=b.au.take i→jM a b k (i:Int)=some (decide (a=b)):=by
 intro k
 induction k with
 | zero=>intro i h; omega
 | succ k ih =>
   intro i h hi hta
   unfold jM
   simp only [eM]
   by_cases hc:i<a.au.length
   · have hc2:i<b.au.length:=by omega
     rw [Ac (by omega),Bw,iT,Am hc,bF,iT,Am hc2,bF]
     have e:(decide ((a.au[i]).ID=(b.au[i]).ID)&&(decide ((a.au[i]).ce=(b.au[i]).ce)&&true))=decide (a.au[i]=b.au[i]):=by
      cases hp2:a.au[i]; cases hq2:b.au[i]; simp [aW.mk.injEq,Bool.decide_and]
     rw [e]
     by_cases hx:a.au[i]=b.au[i]
     · rw [Ac hx]; simp only [Ah,AD]
       rw [rJ hc ha]
       exact ih (i+1) (by omega) (by omega) (by rw [Bo hc,Bo hc2,hta,hx])
     · have hne:a≠b:=fun h=>hx (by subst h; rfl)
       rw [Aa hx,Aa hne]; rfl
   · rw [Aa (by omega),AD]
     have:i=a.au.length:=by omega
     subst this
     rw [AM,hq,AM] at hta
     rw [aB2,Ac hta]
     simp only [Cw,GO]
theorem aK0 {a b:aA} (ha:a.au.length≤1000000) (hb:b.au.length≤1000000):oZ a b=some (decide (a=b)):=by
 unfold oZ
 simp only [eM]
 by_cases h:a.au.length=b.au.length
 · rw [Ac (by omega)]; simp only [Ah,AD]
   exact aHj ha h fuel 0 (bK (by omega)) (Ci _) (by simp)
 · rw [Aa (by omega)]
   have:a≠b:=fun e=>h (by rw [e])
   rw [Aa this]; rfl
end Go.Fn
open List renaming contains_cons → Hz,drop_eq_getElem_cons → Cn
open Nat renaming beq → Aj
open Go Go.IL
namespace Go.Fn

def nD (k:Int):List Nat :=
 if k=0 then [2,3] else if k=9 then [2,3] else if k=1 then [2,4,5] else if k=2 then [2,4,5] else if k=3 then [2,6,7] else if k=7 then [2,7] else
 if k=8 then [2,6] else if k=6 then [6] else if k=10 then [6,7] else []
def xH (o:Nat):Ai:=if o=2 then 115 else if o=3 then 111 else if o=4 then 100 else if o=5 then 119 else if o=6 then 110 else 99
def lE (k:Int):Bool:=decide (k≤10) && !decide (k=5)
def flgK (k:Int):Bool:=decide (k=0)||decide (k=1)||decide (k=2)||decide (k=4)||decide (k=6)||decide (k=9)
def nv (f:aA) (o:Nat):Int:=if o=2 then f.bg else if o=3 then f.bj else if o=4 then f.cb else if o=5 then f.bo else if o=6 then f.N else f.Code
def zr (f:aA) (o:Nat):Bool:=(nD f.aq).contains o||decide (nv f o=0)
def spr (f:aA):Bool :=
 !(zr f 2&&zr f 3&&zr f 4&&zr f 5&&zr f 6&&zr f 7)||(!decide (f.aq=0) && !decide (f.aj=[]))||(!decide (f.aq=4) && !decide (f.au=[]))||(f.bp&&(!flgK f.aq || !decide (f.au=[])))
def chkF (f:aA):Int :=
 if lE f.aq=false then 12 else if rng f=false then 8 else if 32<f.aj.length∨4<f.au.length then 5 else if spr f then 4 else 0

theorem aAo (f:aA):eU f=some (nD f.aq):=by
 have a3:∀ l:List Nat,l.length≤3→app 8 [] l=some l:=fun l hl=>dU (by simp; omega) (by simp; omega)
 unfold eU nD fS
 simp only [eM]
 by_cases h0:f.aq=0
 · simp [h0,a3,bF]
 by_cases h9:f.aq=9
 · simp [h9,a3,bF]
 by_cases h1:f.aq=1
 · simp [h1,a3,bF]
 by_cases h2:f.aq=2
 · simp [h2,a3,bF]
 by_cases h3:f.aq=3
 · simp [h3,a3,bF]
 by_cases h7:f.aq=7
 · simp [h7,a3,bF]
 by_cases h8:f.aq=8
 · simp [h8,a3,bF,app]
 by_cases h6:f.aq=6
 · simp [h6,a3,bF]
 by_cases h10:f.aq=10
 · simp [h10,a3,bF]
 simp [h0,h9,h1,h2,h3,h7,h8,h6,h10]
theorem aH8 (k:Int):qP k=some (flgK k):=by
 unfold qP flgK
 simp only [eM]
 by_cases h0:k=0
 · simp [h0]
 by_cases h1:k=1
 · simp [h1]
 by_cases h2:k=2
 · simp [h2]
 by_cases h4:k=4
 · simp [h4]
 by_cases h6:k=6
 · simp [h6]
 by_cases h9:k=9
 · simp [h9]
 simp [h0,h1,h2,h4,h6,h9]
theorem aFS {k:Int} (h:0≤k):mJ k=some (flgK k):=by
 unfold mJ flgK
 simp only [eM]
 have e:decide (k≤2)=(decide (k=0)||decide (k=1)||decide (k=2)):=by
  rw [BZ]; simp; omega
 rw [e]
theorem aGQ (k:Int):wE k=some (lE k):=rfl

theorem bare_J (f:aA) (a b c d e g:Int) (p:List aW) (q:List Ai):eV f a b c d e g p q=some ⟨f.aq,!flgK f.aq&&f.bp,a,b,c,d,e,g,p,q⟩:=by
 unfold eV
 rw [aH8,bF]
 cases flgK f.aq <;> simp
def aKf (f:aA):List aW:=if f.aq=4∧f.bp=false then [] else f.au
def aKh (f:aA):List Ai:=if f.aq=0 then [] else f.aj
def bz (l:List Nat) (o:Nat) (v:Int):Int:=bif l.contains o then 0 else v
theorem aMO (f:aA) (l:List Nat) (k i:Nat) (h:i=l.length) (a b c d e g:Int):dY f l (k+1) (i:Int) a b c d e g=some ⟨f.aq,!flgK f.aq&&f.bp,a,b,c,d,e,g,aKf f,aKh f⟩:=by
 unfold dY aKf aKh
 simp only [eM]
 rw [Aa (by omega),AD]
 simp only [bare_J]
 by_cases h0:f.aq=0
 · simp [h0]
 by_cases h4:f.aq=4
 · cases hf:f.bp <;> simp [h4,hf]
 simp [h0,h4]
theorem aLc {a b c d e g:Int} {o:Nat} (h:2≤o) (h2:o≤7):∃ x,aDj [none,none,some a,some b,some c,some d,some e,some g,none,none] o=some x:=by
 obtain rfl | rfl | rfl | rfl | rfl | rfl:o=2∨o=3∨o=4∨o=5∨o=6∨o=7:=by omega
 all_goals exact ⟨_,rfl⟩
theorem aKe (f:aA) (l:List Nat) (hl:l.length≤1000) (hr:∀ o∈l,2≤o∧o≤7):∀ (k i:Nat) (a b c d e g:Int),l.length-i<k→i≤l.length →
 dY f l k (i:Int) a b c d e g=some ⟨f.aq,!flgK f.aq&&f.bp,bz (l.drop i) 2 a,bz (l.drop i) 3 b,bz (l.drop i) 4 c,bz (l.drop i) 5 d,bz (l.drop i) 6 e,bz (l.drop i) 7 g,aKf f,aKh f⟩:=by
 intro k
 induction k with
 | zero=>intro i _ _ _ _ _ _ h; omega
 | succ k ih =>
   intro i a b c d e g h hi
   by_cases hc:i=l.length
   · rw [aMO f l k i hc,hc,Cm]; rfl
   · have hlt:i<l.length:=by omega
     unfold dY
     simp only [eM]
     have hx:=hr _ (CC hlt)
     obtain ⟨x,hxx⟩:=aLc (a:=a) (b:=b) (c:=c) (d:=d) (e:=e) (g:=g) hx.1 hx.2
     rw [Ac (by omega),Bw,iT,Au,Am hlt,bF,bF,hxx,bF,rJ hlt (by omega),ih (i+1) _ _ _ _ _ _ (by omega) (by omega)]
     rw [Cn hlt]
     have z:∀ (o:Nat) (v:Int),bz (l.drop (i+1)) o (bif Aj l[i] o then 0 else v)=bz (l[i]::l.drop (i+1)) o v:=by
      intro o v
      unfold bz
      rw [Hz]
      by_cases ho:l[i]=o
      · subst ho; simp [Nat.beq_refl]
      · rw [aKa ho,show (o == l[i])=false by simp; exact fun h=>ho h.symm]; simp
     simp only [z]
theorem jX (k:Int):(nD k).length≤3∧∀ o∈nD k,2≤o∧o≤7:=by
 unfold nD; (repeat' split) <;> decide
def aKg (f:aA):aA :=
 ⟨f.aq,!flgK f.aq&&f.bp,bz (nD f.aq) 2 f.bg,bz (nD f.aq) 3 f.bj,bz (nD f.aq) 4 f.cb,bz (nD f.aq) 5 f.bo,bz (nD f.aq) 6 f.N,bz (nD f.aq) 7 f.Code,aKf f,aKh f⟩
theorem bare_is (f:aA):kK f=some (aKg f):=by
 unfold kK
 rw [aAo,bF]
 have hb:=jX f.aq
 have:=aKe f (nD f.aq) (by omega) hb.2 fuel 0 f.bg f.bj f.cb f.bo f.N f.Code (bK (by omega)) (Ci _)
 unfold aKg
 simpa using this
theorem aAy (f:aA) (o:Nat):decide (bz (nD f.aq) o (nv f o)=0)=zr f o:=by
 unfold bz zr; cases (nD f.aq).contains o <;> simp
theorem aMN (f:aA):decide (aKg f=⟨f.aq,false,0,0,0,0,0,0,[],[]⟩) = !spr f:=by
 rw [aB2]
 unfold aKg spr
 simp only
 have e2:=aAy f 2
 have e3:=aAy f 3
 have e4:=aAy f 4
 have e5:=aAy f 5
 have e6:=aAy f 6
 have e7:=aAy f 7
 simp only [nv] at e2 e3 e4 e5 e6 e7
 simp only [if_true,show (3=2)=False by simp,show (4=2)=False by simp,show (4=3)=False by simp,show (5=2)=False by simp,show (5=3)=False by simp,show (5=4)=False by simp,show (6=2)=False by simp,show (6=3)=False by simp,show (6=4)=False by simp,show (6=5)=False by simp,show (7=2)=False by simp,show (7=3)=False by simp,show (7=4)=False by simp,show (7=5)=False by simp,show (7=6)=False by simp,if_false] at e2 e3 e4 e5 e6 e7
 rw [e2,e3,e4,e5,e6,e7]
 generalize (zr f 2&&zr f 3&&zr f 4&&zr f 5&&zr f 6&&zr f 7)=z
 unfold aKf aKh
 by_cases h0:f.aq=0
 · have:flgK f.aq=true:=by rw [h0]; rfl
   cases z <;> by_cases hp:f.au=[] <;> simp [h0,hp,this,show flgK 0=true from rfl]
 by_cases h4:f.aq=4
 · cases z <;> by_cases hp:f.au=[] <;> by_cases hd:f.aj=[] <;> cases hf:f.bp <;> simp [h4,hp,hf,hd,show flgK 4=true from rfl]
 · cases z <;> by_cases hp:f.au=[] <;> by_cases hd:f.aj=[] <;> cases hf:f.bp <;> cases hg:flgK f.aq <;> simp [h0,h4,hp,hf,hg,hd]
theorem aGk {f:aA} (hl:f.au.length≤1000000):tV f=some (chkF f):=by
 have hJ:∀ b,oS f b=some (if b then 5 else if spr f then 4 else 0):=by
  intro b
  unfold oS
  cases b with
  | true=>rfl
  | false =>
    have hb:(aKg f).au.length≤1000000:=by
     show (if f.aq=4∧f.bp=false then [] else f.au).length≤_
     split
     · simp
     · exact hl
    rw [AD,bare_is,bF,same_is hb (by simp),bF,aMN]
    cases spr f <;> rfl
 unfold tV chkF
 simp only [aGQ,bF,eM,aIw hl,hJ]
 cases hk:lE f.aq with
 | false=>rfl
 | true =>
   simp only [Ah,AD]
   cases hr:rng f with
   | false=>rfl
   | true =>
     simp only [Ah,AD]
     by_cases h1:32<f.aj.length
     · have:(32:Int)<f.aj.length:=by omega
       simp [h1,this]
     · have:¬ (32:Int)<f.aj.length:=by omega
       by_cases h2:4<f.au.length
       · have h3:(4:Int)<f.au.length:=by omega
         simp [h1,this,h2,h3]
       · have h3:¬ (4:Int)<f.au.length:=by omega
         simp [h1,this,h2,h3]
end Go.Fn
open Nat renaming zero_add → Bl
open UInt8 renaming toNat_inj → GB
open Go Go.IL
namespace Go.Fn
def flK (k:Int):List Ai:=if lE k=true then (nD k).map xH else [45]
theorem vG {k:Int} (hk:0≤k):eI k=some (flK k):=by
 unfold eI flK kV kU lE nD
 simp only [eM]
 by_cases h0:k=0
 · simp [h0,xH]
 by_cases h9:k=9
 · simp [h9,xH]
 by_cases h1:k=1
 · simp [h1,xH]
 by_cases h2:k=2
 · simp [h2,xH]
 by_cases h3:k=3
 · simp [h3,xH]
 by_cases h7:k=7
 · simp [h7,xH]
 by_cases h4:k=4
 · simp [h4,xH]
 by_cases h6:k=6
 · simp [h6,xH]
 by_cases h8:k=8
 · simp [h8,xH]
 by_cases h10:k=10
 · simp [h10,xH]
 have:¬ (k≤10∧¬ k=5):=by omega
 simp [h0,h9,h1,h2,h3,h7,h4,h6,h8,h10]
 intro a; exact Decidable.byContradiction fun b=>this ⟨a,b⟩
theorem flK_no {k:Int} (hk:0≤k):decide (flK k=[45]) = !lE k:=by
 unfold flK
 cases h:lE k with
 | false=>simp
 | true =>
   simp only [if_true,Ah,decide_eq_false_iff_not]
   unfold nD
   (repeat' split) <;> decide
theorem flK_len (k:Int):(flK k).length≤3:=by
 unfold flK
 split
 · rw [Bf]; exact (jX k).1
 · decide
theorem aLe {l:List Ai} {c:Ai} (hl:l.length≤1000):∀ (k i:Nat),l.length-i<k→i≤l.length→kT l (c.toNat:Int) k (i:Int)=some ((l.drop i).contains c):=by
 intro k
 induction k with
 | zero=>intro i h; omega
 | succ k ih =>
   intro i h hi
   unfold kT
   simp only [eM]
   by_cases hc:i<l.length
   · rw [Ac (by omega),Bw,iT,Am hc,bF,rJ hc (by omega),ih (i+1) (by omega) (by omega),Cn hc,Hz]
     by_cases hx:l[i]=c
     · simp [hx]
     · have:¬ ((l[i]).toNat:Int)=(c.toNat:Int):=fun h=>hx (GB.1 (by omega))
       rw [Aa this,AD,show (c == l[i])=false by simp; exact fun h=>hx h.symm,BF]
   · rw [Aa (by omega),AD,Cc (by omega)]; rfl
theorem has_is {l:List Ai} (c:Ai) (hl:l.length≤1000):pZ l (c.toNat:Int)=some (l.contains c):=by
 have:=aLe (c:=c) hl fuel 0 (bK (by omega)) (Ci _)
 simpa [pZ] using this
theorem aF7 (f:aA) {o:Nat} (h:2≤o) (h2:o≤7):nY f ((xH o).toNat:Int)=some (nv f o):=by
 obtain rfl | rfl | rfl | rfl | rfl | rfl:o=2∨o=3∨o=4∨o=5∨o=6∨o=7:=by omega
 all_goals rfl
theorem fl_has {k:Int} (h:lE k=true) {o:Nat} (h1:2≤o) (h2:o≤7):(flK k).contains (xH o)=(nD k).contains o:=by
 unfold flK
 rw [Az h]
 obtain rfl | rfl | rfl | rfl | rfl | rfl:o=2∨o=3∨o=4∨o=5∨o=6∨o=7:=by omega
 all_goals (unfold nD; (repeat' split) <;> decide)
theorem sW {f:aA} (hk0:0≤f.aq) (h:lE f.aq=true) (k i:Nat) (hi:i<6):eE f (k+1) (i:Int)=if zr f (i+2) then eE f k ((i+1:Nat):Int) else some true:=by
 have e:([115,111,100,119,110,99]:List Ai)[i]? = some (xH (i+2)):=by
  obtain rfl | rfl | rfl | rfl | rfl | rfl:i=0∨i=1∨i=2∨i=3∨i=4∨i=5:=by omega
  all_goals rfl
 rw [eE]
 simp only [eM,vG hk0,bF,iT,e,has_is _ (Cb (flK_len _) (by decide)),fl_has h (show 2≤i+2 by omega) (show i+2≤7 by omega)]
 rw [Ac (by show (i:Int)<6; omega),Bw,rJ hi (by omega)]
 unfold zr
 cases hc:(nD f.aq).contains (i+2) with
 | true=>simp [gd,bF]
 | false =>
   simp only [Ba,Ap,gd,Bw,bF,aF7 f (show 2≤i+2 by omega) (show i+2≤7 by omega),Bn,BF]
   by_cases hz:nv f (i+2)=0 <;> simp [hz]
theorem aIX {f:aA} (hk0:0≤f.aq) (k:Nat):eE f (k+1) ((6:Nat):Int)=some ((!decide (f.aq=0) && !decide (f.aj=[]))||(!decide (f.aq=4) && !decide (f.au=[]))||(f.bp&&(!flgK f.aq || !decide (f.au=[])))):=by
 rw [eE]
 have e:decide (0<(f.au.length:Int)) = !decide (f.au=[]):=by
  rw [BZ]; simp [DD]
 simp only [eM,aFS hk0,e]
 rw [Aa (by decide),AD]
 generalize (!decide (f.aq=0) && !decide (f.aj=[]))=x
 generalize (!decide (f.aq=4) && !decide (f.au=[]))=y
 cases x <;> cases y <;> cases f.bp <;> simp [gd,bF]
theorem aKt {f:aA} (hk0:0≤f.aq) (h:lE f.aq=true):nZ f=some (spr f):=by
 unfold nZ spr
 obtain ⟨m,hm⟩:=aJt 7 (by decide)
 rw [hm]
 have s0:=sW hk0 h (m+6) 0 (by decide)
 have s1:=sW hk0 h (m+5) 1 (by decide)
 have s2:=sW hk0 h (m+4) 2 (by decide)
 have s3:=sW hk0 h (m+3) 3 (by decide)
 have s4:=sW hk0 h (m+2) 4 (by decide)
 have s5:=sW hk0 h (m+1) 5 (by decide)
 have s6:=aIX hk0 m
 simp only [Bl,Nat.reduceAdd] at s0 s1 s2 s3 s4 s5
 rw [show (0:Int)=((0:Nat):Int) from rfl,s0,s1,s2,s3,s4,s5,s6]
 cases zr f 2 <;> cases zr f 3 <;> cases zr f 4 <;> cases zr f 5 <;> cases zr f 6 <;> cases zr f 7 <;> simp
theorem aEN {f:aA} (hk0:0≤f.aq) (hl:f.au.length≤1000000):gW f=some (chkF f):=by
 unfold gW chkF
 simp only [vG hk0,bF,eM,aHl hl,flK_no hk0]
 cases hk:lE f.aq with
 | false=>rfl
 | true =>
   simp only [Ah,AD,aKt hk0 hk,bF]
   cases hr:rng f with
   | false=>rfl
   | true =>
     simp only [Ah,AD]
     by_cases h1:32<f.aj.length
     · have:(32:Int)<f.aj.length:=by omega
       simp [h1,this]
     · have:¬ (32:Int)<f.aj.length:=by omega
       by_cases h2:4<f.au.length
       · have h3:(4:Int)<f.au.length:=by omega
         simp [h1,this,h2,h3]
       · have h3:¬ (4:Int)<f.au.length:=by omega
         cases spr f <;> simp [h1,this,h2,h3]
end Go.Fn
open List renaming flatMap_append → EC,flatMap_cons → Be,getElem?_map → CH
open Option renaming map_some → Cl
open Go Go.IL
namespace Go.Fn
theorem aJN {l:List Int} (hl:l.length≤1000000):∀ (k i:Nat),l.length-i<k→i≤l.length→(∀ x∈l.take i,¬vbad x)→oO l k ((l.take i).flatMap vput) (i:Int)=some (wO l):=by
 intro k
 induction k with
 | zero=>intro i h; omega
 | succ k ih =>
   intro i h hi ha
   unfold oO
   simp only [eM]
   by_cases hc:i<l.length
   · rw [Ac (by omega),Bw,iT,Am hc,bF,aMr,bF]
     have hq:l[i]? = some l[i]:=Am hc
     have h8:=vP l[i]
     have hfl:=aA9 (l:=l) i (by omega)
     by_cases hb:vbad l[i]
     · rw [Az hb,aD6 hq hb]; rfl
     · simp only [Aq hb,decide_true,Ah,AD]
       rw [dU (by omega) (by omega),bF,rJ hc (by omega),←flat_take hq]
       exact ih (i+1) (by omega) (by omega) (aHW ha hq hb)
   · have:i=l.length:=by omega
     subst this
     rw [Aa (by omega),AD,AM]
     rw [AM] at ha
     rw [aBL ha]
theorem join_is {l:List Int} (hl:l.length≤1000000):qR l=some (wO l):=by
 unfold qR yT
 have:=aJN hl fuel 0 (bK (by omega)) (Ci _) (by simp)
 simp only [DM,List.flatMap_nil] at this
 rw [show (0:Int)=((0:Nat):Int) from rfl,this,bF]
theorem aHn {l:List Int} (hl:l.length≤1000000):∀ (k i:Nat),l.length-i<k→i≤l.length→(∀ x∈l.take i,¬vbad x)→jS l k ((l.take i).flatMap vput) (i:Int)=some (wO l):=by
 intro k
 induction k with
 | zero=>intro i h; omega
 | succ k ih =>
   intro i h hi ha
   unfold jS
   simp only [eM]
   by_cases hc:i<l.length
   · rw [Ac (by omega),Bw,iT,Am hc,bF,aIh,bF]
     have hq:l[i]? = some l[i]:=Am hc
     have h8:=vP l[i]
     have hfl:=aA9 (l:=l) i (by omega)
     by_cases hb:vbad l[i]
     · rw [Az hb,aD6 hq hb]; rfl
     · simp only [Aq hb,decide_true,Ah,AD]
       rw [dU (by omega) (by omega),bF,rJ hc (by omega),←flat_take hq]
       exact ih (i+1) (by omega) (by omega) (aHW ha hq hb)
   · have:i=l.length:=by omega
     subst this
     rw [Aa (by omega),AD,AM]
     rw [AM] at ha
     rw [aBL ha]
theorem aK3 {l:List Int} (hl:l.length≤1000000):mT l=some (wO l):=by
 unfold mT
 have:=aHn hl fuel 0 (bK (by omega)) (Ci _) (by simp)
 simpa using this

theorem aBW (l:List Int):(wO l).1.length≤8*l.length:=by
 unfold wO; split
 · exact wF l
 · simp
def pl (l:List aW):List Int:=l.flatMap fun p=>[p.ID,p.ce]
theorem aA5:∀ (l:List aW),(pl l).length=2*l.length
 | []=>rfl
 | p::l=>by
   have:=aA5 l
   simp only [pl,Be,Ae,Ao,Bj] at this ⊢
   omega
def vals (f:aA):List Int:=(nD f.aq).map (nv f)++pl f.au
def pay (f:aA):List Ai:=(wO (vals f)).1++f.aj
def Lite (f:aA):Prop:=f.au.length≤1000∧f.aj.length≤1000
theorem aKr (f:aA):(vals f).length≤3+2*f.au.length:=by
 unfold vals
 rw [Ae,Bf,aA5]
 have:=(jX f.aq).1; omega
theorem pay_end {f:aA} (h:Lite f) (l:List Int) (hl:l.length≤3000):(bno (qR l) fun x42=>bno (cat x42.1 f.aj) fun x43=>some x43)=some ((wO l).1++f.aj):=by
 rw [join_is (by omega),bF]
 have:=aBW l
 rw [sM (by have:=h.2; omega),bF]
theorem aK2 {f:aA} (h:Lite f) (l:List Int) (hl:l.length≤3000):(bno (mT l) fun x42=>bno (cat x42.1 f.aj) fun x43=>some x43)=some ((wO l).1++f.aj):=by
 rw [aK3 (by omega),bF]
 have:=aBW l
 rw [sM (by have:=h.2; omega),bF]
theorem aI5 {l:List aW} {i:Nat} (hc:i<l.length):pl (l.take (i+1))=pl (l.take i)++[l[i].ID,l[i].ce]:=by
 unfold pl; rw [Bo hc,EC]; rfl
theorem pay_L1 {f:aA} (h:Lite f) (a:List Int) (ha:a.length≤3):∀ (k i:Nat),f.au.length-i<k→i≤f.au.length→eF f k (a++pl (f.au.take i)) (i:Int)=some ((wO (a++pl f.au)).1++f.aj):=by
 have hp:=h.1
 intro k
 induction k with
 | zero=>intro i h; omega
 | succ k ih =>
   intro i hk hi
   unfold eF
   simp only [eM]
   by_cases hc:i<f.au.length
   · have hpl:=aA5 (f.au.take i)
     rw [Aw] at hpl
     rw [Ac (by omega),Bw,iT,Am hc,bF,dU (by simp only [Ae,Ao,Bj]; omega) (by simp only [Ae,Ao,Bj]; omega),bF,rJ hc (by omega),Ax,←aI5 hc]
     exact ih (i+1) (by omega) (by omega)
   · have:i=f.au.length:=by omega
     subst this
     rw [Aa (by omega),AD,AM]
     exact pay_end h _ (by rw [Ae,aA5]; omega)
theorem rpay_L1 {f:aA} (h:Lite f) (a:List Int) (ha:a.length≤3):∀ (k i:Nat),f.au.length-i<k→i≤f.au.length→gQ f k (a++pl (f.au.take i)) (i:Int)=some ((wO (a++pl f.au)).1++f.aj):=by
 have hp:=h.1
 intro k
 induction k with
 | zero=>intro i h; omega
 | succ k ih =>
   intro i hk hi
   unfold gQ
   simp only [eM]
   by_cases hc:i<f.au.length
   · have hpl:=aA5 (f.au.take i)
     rw [Aw] at hpl
     rw [Ac (by omega),Bw,iT,Am hc,bF,bF,dU (by simp only [Ae,Ao,Bj]; omega) (by simp only [Ae,Ao,Bj]; omega),bF,rJ hc (by omega),Ax,←aI5 hc]
     exact ih (i+1) (by omega) (by omega)
   · have:i=f.au.length:=by omega
     subst this
     rw [Aa (by omega),AD,AM]
     exact aK2 h _ (by rw [Ae,aA5]; omega)
theorem aGW (f:aA) {o:Nat} (h:2≤o) (h2:o≤7):aDj [none,none,some f.bg,some f.bj,some f.cb,some f.bo,some f.N,some f.Code,none,none] o=some (nv f o):=by
 obtain rfl | rfl | rfl | rfl | rfl | rfl:o=2∨o=3∨o=4∨o=5∨o=6∨o=7:=by omega
 all_goals rfl
theorem aGO {α β:Type} {l:List α} {g:α→β} {i:Nat} (hc:i<l.length):(l.take (i+1)).map g=(l.take i).map g++[g l[i]]:=by
 rw [Bo hc,BR]; rfl
theorem pay_L0 {f:aA} (h:Lite f) {l:List Nat} (hl:l.length≤3) (hr:∀ o∈l,2≤o∧o≤7):∀ (k i:Nat),l.length-i<k→i≤l.length→eG f l k ((l.take i).map (nv f)) (i:Int)=some ((wO (l.map (nv f)++pl f.au)).1++f.aj):=by
 intro k
 induction k with
 | zero=>intro i h; omega
 | succ k ih =>
   intro i hk hi
   unfold eG
   simp only [eM]
   by_cases hc:i<l.length
   · have hx:=hr _ (CC hc)
     rw [Ac (by omega),Bw,iT,Au,Am hc,bF,bF,aGW f hx.1 hx.2,bF,dU (by simp; omega) (by simp; omega),bF,rJ hc (by omega),←aGO hc]
     exact ih (i+1) (by omega) (by omega)
   · have:i=l.length:=by omega
     subst this
     rw [Aa (by omega),AD,AM]
     have:=pay_L1 h (l.map (nv f)) (by simp; omega) fuel 0 (bK (by have:=h.1; omega)) (Ci _)
     simpa [pl] using this
theorem pay_is {f:aA} (h:Lite f):iE f=some (pay f):=by
 unfold iE pay vals
 rw [aAo,bF]
 have hb:=jX f.aq
 have:=pay_L0 h hb.1 hb.2 fuel 0 (bK (by omega)) (Ci _)
 simpa using this
theorem rpay_L0 {f:aA} (h:Lite f) {l:List Nat} (hl:l.length≤3) (hr:∀ o∈l,2≤o∧o≤7):∀ (k i:Nat),l.length-i<k→i≤l.length→gR f (l.map xH) k ((l.take i).map (nv f)) (i:Int)=some ((wO (l.map (nv f)++pl f.au)).1++f.aj):=by
 intro k
 induction k with
 | zero=>intro i h; omega
 | succ k ih =>
   intro i hk hi
   unfold gR
   simp only [eM,Bf]
   by_cases hc:i<l.length
   · have hx:=hr _ (CC hc)
     rw [Ac (by omega),Bw,iT,CH,Am hc,Cl,bF,aF7 f hx.1 hx.2,bF,dU (by simp; omega) (by simp; omega),bF,rJ hc (by omega),←aGO hc]
     exact ih (i+1) (by omega) (by omega)
   · have:i=l.length:=by omega
     subst this
     rw [Aa (by omega),AD,AM]
     have:=rpay_L1 h (l.map (nv f)) (by simp; omega) fuel 0 (bK (by have:=h.1; omega)) (Ci _)
     simpa [pl] using this
theorem rpay_is {f:aA} (hk:0≤f.aq) (hn:lE f.aq=true) (h:Lite f):mI f=some (pay f):=by
 unfold mI pay vals
 rw [vG hk,bF,flK,Az hn]
 have hb:=jX f.aq
 have:=rpay_L0 h hb.1 hb.2 fuel 0 (bK (by omega)) (Ci _)
 simpa using this
theorem aDG {f:aA} (h:Lite f):(pay f).length≤20000:=by
 unfold pay
 have h1:=aBW (vals f)
 have h2:=aKr f
 have:=h.1; have:=h.2
 rw [Ae]; omega

theorem aLp {l:List Ai} (hl:l.length≤1000000):eN l=some l:=by
 unfold eN
 rw [dU (by simp; omega) (by simp; omega)]
 exact yB (fun h=>by subst h; rfl)
theorem aMw {l:List Ai} {n:Int} (hl:l.length≤1000) (h0:0≤n) (h1:n<256):vI l n 1=some (l++[Cf n.toNat]):=by
 unfold vI
 rw [aLp (by omega),bF]
 have hf:wH n 1=some true:=by
  unfold wH
  simp only [eM]
  rw [Ac h0,w64 (by decide) (by decide)]
  simp only [decide_true,show decide ((1:Int)≤7)=true from rfl,show decide ((1:Int)≤1)=true from rfl,Bs,Ap,gd,Bw]
  rw [aBb (k:=.i64) (b:=8*1) 8 rfl (by decide),bF]
  have:n / 2 ^ 8=0:=by omega
  rw [this]; rfl
 rw [hf,bF]
 obtain ⟨m,hm⟩:=aJt 2 (by decide)
 rw [hm]
 simp only [Ah,AD,sU,eM]
 rw [show decide ((0:Int)<1)=true from rfl,Bw,w64 (n:=1-1) (by decide) (by decide),w64 (n:=1-1-0) (by decide) (by decide),w64 (n:=8*(1-1-0)) (by decide) (by decide),aBb (k:=.i64) (b:=8*(1-1-0)) 0 rfl (by decide),bF,w64 (n:=0+1) (by decide) (by decide)]
 rw [Int.pow_zero,Int.ediv_one,wU8 h0 h1,yU h0 h1,bF,dU (by simp; omega) (by simp; omega),bF]
 rfl
def putF (f:aA):List Ai×Int:=if chkF f=0 then ([Cf f.aq.toNat,if f.bp then 1 else 0]++vput (pay f).length++pay f,0) else ([],chkF f)
theorem aLH {f:aA} (h:Lite f):¬ vbad ((pay f).length:Int):=by
 have:=aDG h
 unfold vbad; omega
theorem aKG {f:aA} (h:chkF f=0):lE f.aq=true:=by
 unfold chkF at h
 cases hk:lE f.aq with
 | true=>rfl
 | false=>rw [hk] at h; simp at h
theorem put_F {f:aA} (hk0:0≤f.aq) (hk1:f.aq≤255) (h:Lite f):aAS f=some (putF f):=by
 have hJ:∀ v:Int,0≤v→v<2→rT f v=some ([Cf f.aq.toNat,Cf v.toNat]++vput (pay f).length++pay f,0):=by
  intro v h0 h1
  unfold rT
  have h8:=vP ((pay f).length:Int)
  have hp:=aDG h
  rw [pay_is h,bF,aMr,bF]
  simp only [Aq (aLH h),eM,decide_true,Ah,AD]
  rw [w64 (by omega) (by omega),aMw (by simp) hk0 (by omega),bF,aMw (by simp) h0 (by omega),bF,sM (by simp; omega),bF,sM (by simp; omega),bF]
  rfl
 unfold aAS putF
 rw [aGk (by have:=h.1; omega),bF,eM]
 by_cases hc:chkF f=0
 · rw [Ac hc,Az hc,hJ 1 (by decide) (by decide),hJ 0 (by decide) (by decide)]
   cases f.bp <;> rfl
 · rw [Aa hc,Aq hc]; rfl
theorem rput_F {f:aA} (hk0:0≤f.aq) (hk1:f.aq≤255) (h:Lite f):qA f=some (putF f):=by
 unfold qA putF
 rw [aEN hk0 (by have:=h.1; omega),bF,eM]
 by_cases hc:chkF f=0
 · have hJ:∀ v:Int,0≤v→v<2→kW f v=some ([Cf f.aq.toNat,Cf v.toNat]++vput (pay f).length++pay f,0):=by
    intro v h0 h1
    unfold kW
    have h8:=vP ((pay f).length:Int)
    have hp:=aDG h
    rw [rpay_is hk0 (aKG hc) h,bF,aIh,bF,yU hk0 (by omega),bF,yU h0 (by omega),bF,sM (by simp; omega),bF,sM (by simp; omega),bF]
   rw [Ac hc,Az hc,hJ 1 (by decide) (by decide),hJ 0 (by decide) (by decide)]
   cases f.bp <;> rfl
 · rw [Aa hc,Aq hc]; rfl
end Go.Fn

namespace Go.Fn
open Go Go.IL
theorem aLG (f:aA):oB f=some (decide ((f.au.length:Int)≤10)&&decide ((f.aj.length:Int)≤100)):=rfl
theorem aHw {f:aA} (h:(decide ((f.au.length:Int)≤10)&&decide ((f.aj.length:Int)≤100))=true):Lite f:=by
 simp at h; exact ⟨by omega,by omega⟩
end Go.Fn
open List renaming drop_drop → DN,drop_succ_cons → Cu,getElem_cons_succ → DP,getElem_cons_zero → DQ,take_succ_cons → CD
open Option renaming bind_some → DJ,isSome_some → HA
open Go Go.IL
namespace Go.Fn

def zF:aA:=⟨0,false,0,0,0,0,0,0,[],[]⟩
def setv (g:aA) (o:Nat) (v:Int):aA :=
 ⟨g.aq,g.bp,bif Aj o 2 then v else g.bg,bif Aj o 3 then v else g.bj,bif Aj o 4 then v else g.cb,bif Aj o 5 then v else g.bo,bif Aj o 6 then v else g.N,bif Aj o 7 then v else g.Code,g.au,g.aj⟩
def rd:List Nat→List Ai→aA→Ad (List Ai×aA)
 | [],s,g=>some (s,g)
 | o::os,s,g=>if (vget s).2.2=0 then rd os (s.drop (vget s).2.1.toNat) (setv g o (vget s).1) else none
def tS:List Int→List aW
 | a::b::l=>⟨a,b⟩::tS l
 | _=>[]
def setS (s:List Ai):Ad (List aW):=if (vall s).2=0∧(vall s).1.length % 2=0 then some (tS (vall s).1) else none
def body (s:List Ai) (g:aA):Ad aA :=
 if g.aq=0 then some ⟨g.aq,g.bp,g.bg,g.bj,g.cb,g.bo,g.N,g.Code,g.au,s⟩
 else if g.aq=4 then (setS s).map fun p=>⟨g.aq,g.bp,g.bg,g.bj,g.cb,g.bo,g.N,g.Code,p,g.aj⟩
 else if s=[] then some g else none
def uZ (s:List Ai) (g:aA):Ad aA:=(rd (nD g.aq) s g).bind fun q=>body q.1 q.2
def getF:List Ai→aA×Int×Int
 | []=>(zF,0,3)
 | k :: r=>if lE k.toNat=false then (zF,0,12) else match r with
   | []=>(zF,0,3)
   | b::t=>if 1<b.toNat then (zF,0,4) else if (vget t).2.2≠0 then (zF,0,(vget t).2.2) else if 64<(vget t).1 then (zF,0,5)
     else if (t.length:Int)-(vget t).2.1<(vget t).1 then (zF,0,3)
     else match uZ ((t.drop (vget t).2.1.toNat).take (vget t).1.toNat) ⟨k.toNat,decide ((b.toNat:Int)=1),0,0,0,0,0,0,[],[]⟩ with
      | none=>(zF,0,4)
      | some g=>if chkF g=0 then (g,2+(vget t).2.1+(vget t).1,0) else (zF,0,chkF g)

theorem vQ {s:List Ai}:0≤(vget s).1∧(vget s).1≤4611686018427387903:=by
 cases s with
 | nil=>exact ⟨by decide,by decide⟩
 | cons b r =>
   by_cases h1:(b::r).length<2 ^ (b.toNat / 64)
   · rw [sV h1]; exact ⟨by decide,by decide⟩
   · by_cases h2:iF (beN (b.toNat % 64) (r.take (2 ^ (b.toNat / 64)-1)))=((b.toNat / 64:Nat):Int)
     · rw [yS h1 h2]
       have h3:¬ vbad (beN (b.toNat % 64) (r.take (2 ^ (b.toNat / 64)-1))):=by rw [←aBV,h2]; omega
       unfold vbad at h3; exact ⟨by simp only; omega,by simp only; omega⟩
     · rw [uT h1 h2]; exact ⟨by decide,by decide⟩
theorem aD8:∀ (f:Nat) (s:List Ai) (acc:List Int),s.length≤f→(uV f s acc).1.length≤acc.length+s.length
 | 0,s,acc,_=>by simp [uV]
 | f + 1,s,acc,h=>by
   unfold uV
   split
   · simp
   · split
     · rename_i h1 h2
       have h3:=mM h2
       have:=aD8 f (s.drop (vget s).2.1.toNat) (acc++[(vget s).1]) (by rw [AA]; omega)
       rw [Ae,AA] at this
       simp only [Ao,Bj] at this
       omega
     · simp
theorem aMR:∀ (k f:Nat) (s:List Ai) (acc:List Int),s.length<k→s.length≤f→acc.length+s.length≤1000000→pW k s acc=some (uV f s acc):=by
 intro k
 induction k with
 | zero=>intro f s acc h; omega
 | succ k ih =>
   intro f s acc hk hf hl
   unfold pW
   simp only [eM]
   by_cases hs:s=[]
   · subst hs; rw [aBY]; rfl
   · rw [Aa hs,Ba,Bw,aJr,bF]
     by_cases h:(vget s).2.2=0
     · have h3:=mM h
       obtain ⟨f',hf',he⟩:=aCP (acc:=acc) hs hf h
       rw [Ac h,Ah,AD,dU (by simp; omega) (by simp; omega),bF,tW (by omega) (by omega),bF,he]
       exact ih f' _ _ (by rw [AA]; omega) hf' (by rw [Ae,AA]; simp; omega)
     · rw [Aa h,Ba,Bw,aD9 hs hf h]
theorem all_is {s:List Ai} (h:s.length≤1000000):xL s=some (vall s):=by
 unfold xL vall
 exact aMR fuel _ s [] (bK (by omega)) (AJ _) (by simpa using h)
theorem aIx {a:List Ai} (ha:a.length≤1000000):∀ (k f i:Nat) (acc:List Int),a.length-i<k→i≤a.length→a.length-i≤f→acc.length+(a.length-i)≤1000000→kY a k acc (i:Int)=some (uV f (a.drop i) acc):=by
 intro k
 induction k with
 | zero=>intro f i acc h; omega
 | succ k ih =>
   intro f i acc hk hi hf hl
   unfold kY
   simp only [eM]
   by_cases hs:i<a.length
   · have hne:a.drop i≠[]:=by
      intro e; have:=Bv DH e; rw [AA] at this; simp at this; omega
     rw [Ac (by omega),Bw,tW (by omega) (by omega),bF,Au,aFR,bF]
     by_cases h:(vget (a.drop i)).2.2=0
     · have h3:=mM h
       have h4:(a.drop i).length=a.length-i:=AA
       obtain ⟨f',hf',he⟩:=aCP (acc:=acc) hne (by rw [h4]; exact hf) h
       rw [AA] at hf'
       rw [Ac h,Ah,AD,dU (by simp; omega) (by simp; omega),bF,w64 (by omega) (by omega),he,DN]
       have e:((i:Int)+(vget (a.drop i)).2.1)=((i+(vget (a.drop i)).2.1.toNat:Nat):Int):=by omega
       rw [e]
       exact ih f' _ _ (by omega) (by omega) (by omega) (by rw [Ae]; simp; omega)
     · rw [Aa h,Ba,Bw,aD9 hne (by rw [AA]; exact hf) h]
   · have:i=a.length:=by omega
     subst this
     rw [Aa (by omega),AD,Cm,aBY]
theorem rall_is {s:List Ai} (h:s.length≤1000000):nG s=some (vall s):=by
 unfold nG vall
 have:=aIx h fuel s.length 0 [] (bK (by omega)) (Ci _) (by omega) (by simpa using h)
 simpa using this
theorem aCu (s:List Ai):(vall s).1.length≤s.length:=by
 have:=aD8 s.length s [] (AJ _)
 simpa [vall] using this

theorem aC2:∀ (k:Nat) (l:List Int) (acc:List aW),l.length<k→l.length % 2=0→acc.length+l.length≤1000000→mB k l acc=some (acc++tS l,true):=by
 intro k
 induction k with
 | zero=>intro l acc h; omega
 | succ k ih =>
   intro l acc hk h2 hl
   unfold mB
   simp only [eM]
   match l,hk,h2,hl with
   | [],_,_,_=>simp [tS]
   | [a],_,h2,_=>simp at h2
   | a::b::l,hk,h2,hl =>
     simp only [Ao] at hk h2 hl
     rw [Ac (by simp; omega),Bw,aAs (by decide) (by simp),bF,aAs (by decide) (by simp),bF,dU (by simp; omega) (by simp; omega),bF,tW (by decide) (by simp; omega),bF]
     have:=ih l (acc++[⟨a,b⟩]) (by omega) (by omega) (by simp; omega)
     rw [Ax] at this
     exact this
theorem aFP {s:List Ai} (h:s.length≤1000000):∃ x,mY s=some (x,(setS s).isSome)∧∀ p,setS s=some p→x=p:=by
 unfold mY setS
 rw [all_is h,bF]
 simp only [eM]
 have hl:=aCu s
 by_cases h0:(vall s).2=0
 · rw [Ac h0,show ((!true) == false)=true from rfl,aLi,aEJ (by omega) (by decide),bF]
   by_cases h2:(vall s).1.length % 2=0
   · rw [Aa (by omega),Az ⟨h0,h2⟩]
     simp only [Ah,Cr,AD]
     rw [aC2 fuel _ [] (bK (by omega)) h2 (by simp; omega)]
     exact ⟨_,rfl,fun p hp=>by simpa using hp⟩
   · rw [Ac (by omega),Aq (fun h=>h2 h.2)]
     exact ⟨_,rfl,fun p hp=>by cases hp⟩
 · rw [Aa h0,Aq (fun h=>h0 h.1)]
   exact ⟨_,rfl,fun p hp=>by cases hp⟩

theorem aIB {f:aA} {s:List Ai} (h:s.length≤1000000):∃ x,(bnd (decide (f.aq=0)) fun x40 =>
 bif x40 then (
  some (true,(⟨f.aq,f.bp,f.bg,f.bj,f.cb,f.bo,f.N,f.Code,f.au,s⟩:aA))
 ) else (
   bnd (decide (f.aq=4)) fun x42 =>
   bif x42 then (
    bno (mY s) fun x44 =>
    some (x44.2,(⟨f.aq,f.bp,f.bg,f.bj,f.cb,f.bo,f.N,f.Code,x44.1,f.aj⟩:aA))
   ) else (
     bnd (decide (s=([]:List Ai))) fun x45 =>
     some (x45,(⟨f.aq,f.bp,f.bg,f.bj,f.cb,f.bo,f.N,f.Code,f.au,f.aj⟩:aA))
   )
 ))=some ((body s f).isSome,x)∧∀ y,body s f=some y→x=y:=by
 unfold body
 simp only [eM]
 by_cases h0:f.aq=0
 · rw [Ac h0,Az h0]; exact ⟨_,rfl,fun y hy=>by simpa using hy⟩
 · rw [Aa h0,Aq h0,AD]
   by_cases h4:f.aq=4
   · rw [Ac h4,Az h4,Bw]
     obtain ⟨x,hx,hp⟩:=aFP h
     rw [hx,bF]
     cases hs:setS s with
     | none=>exact ⟨_,rfl,fun y hy=>by cases hy⟩
     | some p=>rw [hp p hs]; exact ⟨_,rfl,fun y hy=>by simpa using hy⟩
   · rw [Aa h4,Aq h4,AD]
     by_cases hs:s=[]
     · rw [Ac hs,Az hs]; exact ⟨_,rfl,fun y hy=>by simpa using hy⟩
     · rw [Aa hs,Aq hs]; exact ⟨f,rfl,fun y hy=>by cases hy⟩
theorem aIm {g:aA} {l:List Nat} (hr:∀ o∈l,2≤o∧o≤7) (hll:l.length≤3):∀ (k i:Nat) (s:List Ai) (a b c d e f:Int),l.length-i<k→i≤l.length→s.length≤1000000 →
 ∃ x,eS g l k s (i:Int) a b c d e f=some (((rd (l.drop i) s ⟨g.aq,g.bp,a,b,c,d,e,f,g.au,g.aj⟩).bind fun q=>body q.1 q.2).isSome,x)∧∀ y,((rd (l.drop i) s ⟨g.aq,g.bp,a,b,c,d,e,f,g.au,g.aj⟩).bind fun q=>body q.1 q.2)=some y→x=y:=by
 intro k
 induction k with
 | zero=>intro i s a b c d e f h; omega
 | succ k ih =>
   intro i s a b c d e f hk hi hs
   unfold eS
   by_cases hc:i<l.length
   · have hx:=hr _ (CC hc)
     rw [Cn hc]
     unfold rd
     simp only [eM]
     rw [Ac (by omega),Bw,iT,Au,Am hc,bF,bF,aJr,bF]
     by_cases h:(vget s).2.2=0
     · have h3:=mM h
       have hic:=aGW ⟨g.aq,g.bp,a,b,c,d,e,f,g.au,g.aj⟩ hx.1 hx.2
       simp only at hic
       rw [Ac h,Ah,AD,hic,bF,tW (by omega) (by omega),bF,rJ hc (by omega),Az h]
       exact ih (i+1) _ _ _ _ _ _ _ (by omega) (by omega) (by rw [AA]; omega)
     · rw [Aa h,Ba,Bw,Aq h]
       exact ⟨_,rfl,fun y hy=>by cases hy⟩
   · have:i=l.length:=by omega
     subst this
     rw [Cm]
     unfold rd
     simp only [eM,DJ]
     rw [Aa (by omega),AD]
     exact aIB (f:=⟨g.aq,g.bp,a,b,c,d,e,f,g.au,g.aj⟩) hs
theorem read_is {s:List Ai} {g:aA} (h:s.length≤1000000):∃ x,iQ s g=some ((uZ s g).isSome,x)∧∀ y,uZ s g=some y→x=y:=by
 unfold iQ uZ
 rw [aAo,bF]
 have hb:=jX g.aq
 exact aIm hb.2 hb.1 fuel 0 s _ _ _ _ _ _ (bK (by omega)) (Ci _) h
theorem aC9:∀ (os:List Nat) (s t:List Ai) (g y:aA),rd os s g=some (t,y)→t.length≤s.length∧y.au=g.au∧y.aj=g.aj∧y.aq=g.aq∧y.bp=g.bp
 | [],s,t,g,y,h=>by simp only [rd,Option.some.injEq,Prod.mk.injEq] at h; obtain ⟨rfl,rfl⟩:=h; exact ⟨AJ _,rfl,rfl,rfl,rfl⟩
 | o :: os,s,t,g,y,h=>by
   unfold rd at h
   split at h
   · have:=aC9 os _ t _ y h
     rw [AA] at this
     exact ⟨by omega,this.2⟩
   · cases h
theorem aCX:∀ (l:List Int),(tS l).length≤l.length
 | []=>by simp [tS]
 | [a]=>by simp [tS]
 | a::b::l=>by have:=aCX l; simp [tS]; omega
theorem zS {s:List Ai} {g y:aA} (h:uZ s g=some y):y.au.length≤g.au.length+s.length∧y.aj.length≤g.aj.length+s.length∧y.aq=g.aq∧y.bp=g.bp:=by
 unfold uZ at h
 cases hr:rd (nD g.aq) s g with
 | none=>rw [hr] at h; cases h
 | some q =>
   obtain ⟨t,z⟩:=q
   rw [hr] at h
   obtain ⟨h1,h2,h3,h4,h5⟩:=aC9 _ _ _ _ _ hr
   simp only [DJ] at h
   unfold body at h
   split at h
   · simp only [Option.some.injEq] at h; subst h; simp only; rw [h2]; exact ⟨by omega,by omega,h4,h5⟩
   · split at h
     · cases hs:setS t with
       | none=>rw [hs] at h; cases h
       | some p =>
         rw [hs] at h; simp only [Cl,Option.some.injEq] at h; subst h
         unfold setS at hs
         split at hs
         · simp only [Option.some.injEq] at hs; subst hs
           have:=aCX (vall t).1
           have:=aCu t
           simp only; rw [h3]; exact ⟨by omega,by omega,h4,h5⟩
         · cases hs
     · split at h
       · simp only [Option.some.injEq] at h; subst h; rw [h2,h3]; exact ⟨by omega,by omega,h4,h5⟩
       · cases h
theorem wC {k:Ai} {r:List Ai} (h:lE k.toNat=false):getF (k::r)=(zF,0,12):=by
 unfold getF; simp only; rw [Az h]
theorem aAR {k:Ai} (h:lE k.toNat=true):getF [k]=(zF,0,3):=by
 unfold getF; simp only; rw [Aq (by rw [h]; decide)]
theorem sT {k b:Ai} {t:List Ai} (h:lE k.toNat=true):getF (k::b::t)=if 1<b.toNat then (zF,0,4) else if (vget t).2.2≠0 then (zF,0,(vget t).2.2) else if 64<(vget t).1 then (zF,0,5)
 else if (t.length:Int)-(vget t).2.1<(vget t).1 then (zF,0,3)
 else match uZ ((t.drop (vget t).2.1.toNat).take (vget t).1.toNat) ⟨k.toNat,decide ((b.toNat:Int)=1),0,0,0,0,0,0,[],[]⟩ with
  | none=>(zF,0,4)
  | some g=>if chkF g=0 then (g,2+(vget t).2.1+(vget t).1,0) else (zF,0,chkF g):=by
 rw [getF]; rw [Aq (by rw [h]; decide)]
theorem get_F {s : List Ai} (hs:s.length≤1000000):vE s=some (getF s):=by
 unfold vE aAt
 match s,hs with
 | [],_=>rfl
 | k :: r, hs =>
   simp only [eM,aAs (l:=k::r) (i:=0) (by decide) (by simp),bF,aGQ]
   rw [Aa (by simp),AD]
   simp only [DQ,Df]
   cases hk:lE (k.toNat:Int) with
   | false=>rw [wC hk]; rfl
   | true =>
     match r,hs with
     | [],_=>rw [aAR hk]; rfl
     | b :: t, hs =>
       rw [sT hk]
       simp only [Ao] at hs
       simp only [Ah,AD,aAs (l:=k::b::t) (i:=1) (by decide) (by simp),bF,Int.toNat_one,DP,DQ]
       rw [Aa (by simp; omega),AD]
       by_cases hb:1<b.toNat
       · rw [Ac (by omega),Az hb]; rfl
       · rw [Aa (by omega),Aq hb,AD,tW (by decide) (by simp; omega),bF]
         rw [show (2:Int).toNat=2 from rfl,Cu,Cu,EV,aJr,bF]
         by_cases hv:(vget t).2.2=0
         · rw [Ac hv,Aq (fun h=>h hv)]
           have h3:=mM hv
           simp only [Ah,AD]
           by_cases h64:64<(vget t).1
           · rw [Ac h64,Az h64]; rfl
           · rw [Aa h64,Aq h64,AD,w64 (n:=((k::b::t).length:Int)-2) (by simp; omega) (by simp; omega),w64 (by simp; omega) (by simp; omega)]
             have hlen:((k::b::t).length:Int)-2-(vget t).2.1=(t.length:Int)-(vget t).2.1:=by simp; omega
             rw [hlen]
             by_cases hl:(t.length:Int)-(vget t).2.1<(vget t).1
             · rw [Ac hl,Az hl]; rfl
             · have h5:=vQ (s:=t)
               rw [Aa hl,Aq hl,AD,w64 (n:=2+(vget t).2.1) (by omega) (by omega),w64 (by omega) (by omega),bF]
               simp only [show decide ((0:Int)=0)=true from rfl,Ah,AD]
               rw [aBC (by omega) (by omega) (by simp; omega),bF]
               have ecut:((k::b::t).take (2+(vget t).2.1+(vget t).1).toNat).drop (2+(vget t).2.1).toNat=(t.drop (vget t).2.1.toNat).take (vget t).1.toNat:=by
                have e1:(2+(vget t).2.1+(vget t).1).toNat=((vget t).2.1.toNat+(vget t).1.toNat)+1+1:=by omega
                have e2:(2+(vget t).2.1).toNat=(vget t).2.1.toNat+1+1:=by omega
                rw [e1,e2,CD,CD,Cu,Cu,List.take_drop]
               rw [ecut]
               obtain ⟨x,hx,hy⟩:=read_is (s:=(t.drop (vget t).2.1.toNat).take (vget t).1.toNat) (g:=⟨k.toNat,decide ((b.toNat:Int)=1),0,0,0,0,0,0,[],[]⟩) (by rw [Aw,AA]; omega)
               rw [hx,bF]
               cases hR:uZ ((t.drop (vget t).2.1.toNat).take (vget t).1.toNat) ⟨k.toNat,decide ((b.toNat:Int)=1),0,0,0,0,0,0,[],[]⟩ with
               | none=>rfl
               | some g =>
                 obtain rfl:=hy g hR
                 have hb:=zS hR
                 rw [Aw,AA] at hb
                 simp only [HA,Ah,AD]
                 rw [aGk (by have:=hb.1; simp at this; omega),bF]
                 by_cases hc:chkF x=0
                 · rw [Ac hc,Az hc]; rfl
                 · rw [Aa hc,Aq hc]; rfl
         · rw [Aa hv,Az hv]
           simp only [Ba,Bw,bF]
           rw [Aa hv]; rfl

theorem set_is {g:aA} {o:Nat} (h:2≤o) (h2:o≤7) (v:Int):oA g.aq g.bp g.bg g.bj g.cb g.bo g.N g.Code g.aj ((xH o).toNat:Int) v =
 some ((setv g o v).aq,(setv g o v).bp,(setv g o v).bg,(setv g o v).bj,(setv g o v).cb,(setv g o v).bo,(setv g o v).N,(setv g o v).Code,(setv g o v).aj):=by
 obtain rfl | rfl | rfl | rfl | rfl | rfl:o=2∨o=3∨o=4∨o=5∨o=6∨o=7:=by omega
 all_goals rfl
theorem aHu {a b c d e f g:Int} {fl:Bool} {dt:List Ai} {x:List Int×Int} (h2:x.1.length % 2=0) (hl:x.1.length≤1000000):∀ (k i:Nat) (acc:List aW),x.1.length-2*i<k→2*i≤x.1.length→acc.length=i →
 eP a fl b c d e f g dt x k ((2*i:Nat):Int) acc=some (⟨a,fl,b,c,d,e,f,g,acc++tS (x.1.drop (2*i)),dt⟩,true):=by
 intro k
 induction k with
 | zero=>intro i acc h; omega
 | succ k ih =>
   intro i acc hk hi ha
   unfold eP
   simp only [eM]
   rw [w64 (n:=((2*i:Nat):Int)+1) (by omega) (by omega)]
   by_cases hc:2*i+1<x.1.length
   · rw [Ac (by omega),Bw,iT,Am (by omega),bF,show ((2*i:Nat):Int)+1=((2*i+1:Nat):Int) from by omega,iT,Am hc,bF,dU (by simp; omega) (by simp; omega),bF,w64 (by omega) (by omega),show ((2*i:Nat):Int)+2=((2*(i+1):Nat):Int) from by omega,ih (i+1) _ (by omega) (by omega) (by simp; omega)]
     rw [Cn (i:=2*i) (by omega),Cn (i:=2*i+1) hc,tS,Ax]
     rfl
   · rw [Aa (by omega),AD,Cc (by omega)]
     simp [tS]
theorem aHk {p:List aW} {l:List Nat} (hr:∀ o∈l,2≤o∧o≤7) (hll:l.length≤3):∀ (k i:Nat) (s:List Ai) (g:aA),g.au=[]→l.length-i<k→i≤l.length→s.length≤1000000 →
 ∃ x,eQ (l.map xH) k s (i:Int) g.aq g.bp g.bg g.bj g.cb g.bo g.N g.Code g.aj=some (x,((rd (l.drop i) s g).bind fun q=>body q.1 q.2).isSome)∧∀ y,((rd (l.drop i) s g).bind fun q=>body q.1 q.2)=some y→x=y:=by
 intro k
 induction k with
 | zero=>intro i s g hp h; omega
 | succ k ih =>
   intro i s g hp hk hi hs
   unfold eQ
   by_cases hc:i<l.length
   · have hx:=hr _ (CC hc)
     rw [Cn hc]
     unfold rd
     simp only [eM,Bf]
     rw [Ac (by omega),Bw,aFR,bF]
     by_cases h:(vget s).2.2=0
     · have h3:=mM h
       rw [Ac h,Ah,AD,iT,CH,Am hc,Cl,bF,set_is hx.1 hx.2,bF,tW (by omega) (by omega),bF,rJ hc (by omega),Az h]
       exact ih (i+1) _ (setv g l[i] (vget s).1) hp (by omega) (by omega) (by rw [AA]; omega)
     · rw [Aa h,Ba,Bw,Aq h]
       exact ⟨_,rfl,fun y hy=>by cases hy⟩
   · have:i=l.length:=by omega
     subst this
     rw [Cm]
     unfold rd
     simp only [eM,DJ,Bf]
     rw [Aa (by omega),AD]
     unfold body
     by_cases h0:g.aq=0
     · rw [Ac h0,Az h0]; exact ⟨_,rfl,fun y hy=>by rw [hp] at hy; simpa using hy⟩
     · rw [Aa h0,Aq h0,AD]
       by_cases h4:g.aq=4
       · rw [Ac h4,Az h4,Bw,rall_is hs,bF]
         have hl:=aCu s
         unfold setS
         by_cases hz:(vall s).2=0
         · rw [Ac hz,show ((!true) == false)=true from rfl,aLi,aEJ (by omega) (by decide),bF]
           by_cases h2:(vall s).1.length % 2=0
           · rw [Ac (by omega),Az ⟨hz,h2⟩]
             simp only [Ah,Cr,AD]
             have:=aHu (a:=g.aq) (b:=g.bg) (c:=g.bj) (d:=g.cb) (e:=g.bo) (f:=g.N) (g:=g.Code) (fl:=g.bp) (dt:=g.aj) h2 (by omega) fuel 0 [] (bK (by omega)) (by omega) rfl
             rw [show (0:Int)=((2*0:Nat):Int) from rfl,this]
             exact ⟨_,rfl,fun y hy=>by simpa using hy⟩
           · rw [Aa (by omega),Aq (fun h=>h2 h.2)]
             exact ⟨_,rfl,fun y hy=>by cases hy⟩
         · rw [Aa hz,Aq (fun h=>hz h.1)]
           exact ⟨_,rfl,fun y hy=>by cases hy⟩
       · rw [Aa h4,Aq h4,AD]
         by_cases hs:s=[]
         · rw [Ac hs,Az hs]; exact ⟨_,rfl,fun y hy=>by rw [←hp] ; simpa using hy⟩
         · rw [Aa hs,Aq hs]; exact ⟨_,rfl,fun y hy=>by cases hy⟩
theorem aK1 {s:List Ai} {g:aA} (hk:0≤g.aq) (hn:lE g.aq=true) (hp:g.au=[]) (h:s.length≤1000000):∃ x,kO g.aq g.bp g.bg g.bj g.cb g.bo g.N g.Code g.aj s=some (x,(uZ s g).isSome)∧∀ y,uZ s g=some y→x=y:=by
 unfold kO uZ
 rw [vG hk,bF,flK,Az hn]
 have hb:=jX g.aq
 exact aHk (p:=[]) hb.2 hb.1 fuel 0 s g hp (bK (by omega)) (Ci _) h
theorem aGc {k:Int}:decide (flK k=[45]) = !lE k:=by
 unfold flK
 cases h:lE k with
 | false=>rfl
 | true =>
   rw [Az rfl]
   unfold nD
   (repeat' split) <;> rfl
theorem aMm {s : List Ai} (hs:s.length≤1000000):jN s=some (getF s):=by
 unfold jN
 match s,hs with
 | [],_=>rfl
 | k :: r, hs =>
   simp only [eM,aAs (l:=k::r) (i:=0) (by decide) (by simp),bF,vG (k:=(k.toNat:Int)) (by omega),aGc]
   rw [Aa (by simp),AD]
   simp only [DQ,Df]
   rw [vG (by omega),bF]
   simp only [aGc]
   cases hk:lE (k.toNat:Int) with
   | false=>rw [wC hk]; rfl
   | true =>
     match r,hs with
     | [],_=>rw [aAR hk]; rfl
     | b :: t, hs =>
       rw [sT hk]
       simp only [Ao] at hs
       simp only [Ah,AD,aAs (l:=k::b::t) (i:=1) (by decide) (by simp),bF,Int.toNat_one,DP,DQ]
       rw [Aa (by simp; omega),AD]
       by_cases hb:1<b.toNat
       · rw [Ac (by omega),Az hb]; rfl
       · rw [Aa (by omega),Aq hb,AD,tW (by decide) (by simp; omega),bF]
         rw [show (2:Int).toNat=2 from rfl,Cu,Cu,EV,aFR,bF]
         by_cases hv:(vget t).2.2=0
         · rw [Ac hv,Aq (fun h=>h hv)]
           have h3:=mM hv
           simp only [Ah,AD]
           by_cases h64:64<(vget t).1
           · rw [Ac h64,Az h64]; rfl
           · rw [Aa h64,Aq h64,AD,w64 (n:=((k::b::t).length:Int)-2) (by simp; omega) (by simp; omega),w64 (by simp; omega) (by simp; omega)]
             have hlen:((k::b::t).length:Int)-2-(vget t).2.1=(t.length:Int)-(vget t).2.1:=by simp; omega
             rw [hlen]
             by_cases hl:(t.length:Int)-(vget t).2.1<(vget t).1
             · rw [Ac hl,Az hl]; rfl
             · have h5:=vQ (s:=t)
               rw [Aa hl,Aq hl,AD,w64 (n:=2+(vget t).2.1) (by omega) (by omega),w64 (by omega) (by omega),aBC (by omega) (by omega) (by simp; omega),bF]
               have ecut:((k::b::t).take (2+(vget t).2.1+(vget t).1).toNat).drop (2+(vget t).2.1).toNat=(t.drop (vget t).2.1.toNat).take (vget t).1.toNat:=by
                have e1:(2+(vget t).2.1+(vget t).1).toNat=((vget t).2.1.toNat+(vget t).1.toNat)+1+1:=by omega
                have e2:(2+(vget t).2.1).toNat=(vget t).2.1.toNat+1+1:=by omega
                rw [e1,e2,CD,CD,Cu,Cu,List.take_drop]
               rw [ecut]
               obtain ⟨x,hx,hy⟩:=aK1 (s:=(t.drop (vget t).2.1.toNat).take (vget t).1.toNat) (g:=⟨k.toNat,decide ((b.toNat:Int)=1),0,0,0,0,0,0,[],[]⟩) (by simp only; omega) hk rfl (by rw [Aw,AA]; omega)
               simp only at hx
               rw [hx,bF]
               cases hR:uZ ((t.drop (vget t).2.1.toNat).take (vget t).1.toNat) ⟨k.toNat,decide ((b.toNat:Int)=1),0,0,0,0,0,0,[],[]⟩ with
               | none=>rfl
               | some g =>
                 obtain rfl:=hy g hR
                 have hb:=zS hR
                 rw [Aw,AA] at hb
                 simp only [HA,Ah,AD]
                 rw [aEN (by rw [hb.2.2.1]; simp only; omega) (by have:=hb.1; simp at this; omega),bF,bF]
                 by_cases hc:chkF x=0
                 · rw [Ac hc,Az hc]; rfl
                 · rw [Aa hc,Aq hc]; rfl
         · rw [Aa hv,Az hv]; rfl
theorem aH6 (s : List Ai):(getF s).1.au.length≤s.length∧(getF s).1.aj.length≤s.length:=by
 match s with
 | []=>exact ⟨by simp [getF,zF],by simp [getF,zF]⟩
 | k :: r =>
   cases hk:lE (k.toNat:Int) with
   | false=>rw [wC hk]; simp [zF]
   | true =>
     match r with
     | []=>rw [aAR hk]; simp [zF]
     | b :: t =>
       rw [sT hk]
       split
       · simp [zF]
       · split
         · simp [zF]
         · split
           · simp [zF]
           · split
             · simp [zF]
             · cases hR:uZ ((t.drop (vget t).2.1.toNat).take (vget t).1.toNat) ⟨k.toNat,decide ((b.toNat:Int)=1),0,0,0,0,0,0,[],[]⟩ with
               | none=>simp [zF]
               | some g =>
                 have hb:=zS hR
                 rw [Aw,AA] at hb
                 simp only
                 split
                 · have h1:=hb.1; have h2:=hb.2.1
                   simp only [Bj] at h1 h2
                   simp only [Ao]
                   constructor <;> omega
                 · simp [zF]
end Go.Fn
