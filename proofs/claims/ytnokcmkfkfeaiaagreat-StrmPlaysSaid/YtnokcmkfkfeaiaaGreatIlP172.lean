/-
  A part of the proof: rules and plain facts. No condition.
-/
import Derived.Test.YtnokcmkfkfeaiaaGreatIlEq
import Derived.KernelRfl
import Derived.Test.YtnokcmkfkfeaiaaGreatIlA25pD
set_option linter.all false
open Go Go.IL
namespace Go.Fn
theorem dP {α:Type} {l p r:List α} {x:α} (h:l=p++x::r):gix l (p.length:Int)=some x:=by
 subst h; rw [aFO,List.getElem?_append_right (Nat.le_refl _)]; simp
theorem jC {α:Type} {l p r:List α} {x:α} (h:l=p++x::r):decide ((p.length:Int)<(l.length:Int))=true:=by
 subst h; simp; omega
theorem jO {α:Type} {l p:List α} (h:l=p++[]):decide ((p.length:Int)<(l.length:Int))=false:=by
 subst h; simp
theorem rX {α:Type} {l:List α}:decide ((l.length:Int)<(l.length:Int))=false:=by simp
theorem w_at {α:Type} {l p r:List α} {x:α} (h:l=p++x::r) (hl:l.length≤1000000):IntKind.wrap .i64 ((p.length:Int)+1)=((p++[x]).length:Int):=by
 subst h; simp only [List.length_append,List.length_cons,List.length_nil] at hl ⊢; rw [w64 (by omega) (by omega)]; omega
theorem pV {α:Type} {l p r:List α} {x:α} (h:l=p++x::r):l=(p++[x])++r:=by rw [h]; simp
theorem tf:(true == false)=false:=rfl
theorem ft:(false == true)=false:=rfl
theorem aGD {α:Type} {l p r:List α} {x y:α} (h:l=(p++[x])++y::r) (hl:l.length≤1000000):gix l (IntKind.wrap .i64 (((p++[x]).length:Int)-1))=some x:=by
 have hp:p.length≤1000000:=by rw [h] at hl; simp at hl; omega
 rw [show ((p++[x]).length:Int)-1=(p.length:Int) by simp,w64 (by omega) (by omega)]
 exact dP (r:=y::r) (by rw [h]; simp)
theorem aBR {α:Type} {l p r:List α} (h:l=p++r):cut l 0 (p.length:Int)=some p:=by
 subst h; unfold cut; rw [if_pos (by simp; omega)]; simp
theorem yY {α:Type} {l p r:List α} (h:l=p++r):cut l (p.length:Int) (l.length:Int)=some r:=by
 subst h; unfold cut; rw [if_pos (by simp; omega),Int.toNat_natCast,Int.toNat_natCast,List.take_length,List.drop_left]
theorem aAW {α:Type} {L:Nat→Int→Option Int} {l:List α} {q:α→Bool}
 (h1:∀ p x r f,l=p++x::r→L (f+1) (p.length:Int)=bif q x then some (p.length:Int) else L f ((p++[x]).length:Int)) (h0:∀ f,L (f+1) (l.length:Int)=some (-1)) :
 ∀ (r p:List α) (f:Nat),l=p++r→r.length<f→(∀ y∈p,q y=false) →
   (L f (p.length:Int)=some (-1)∧∀ y∈l,q y=false)∨∃ a x t,l=a++x::t∧(∀ y∈a,q y=false)∧q x=true∧L f (p.length:Int)=some (a.length:Int)
 | [],p,f+1,h,_,ha=>by
   left
   rw [List.append_nil] at h
   subst h
   exact ⟨h0 f,ha⟩
 | y :: r,p,f+1,h,hf,ha=>by
   rw [h1 p y r f h]
   rcases Bool.eq_false_or_eq_true (q y) with hb | hb
   · right; exact ⟨p,y,r,h,ha,hb,by rw [hb]; rfl⟩
   · rw [hb,bC]
     exact aAW h1 h0 r (p++[y]) f (pV h) (by simpa using hf) (fun z hz=>by
      rcases List.mem_append.1 hz with hz | hz
      · exact ha z hz
      · rw [List.mem_singleton.1 hz]; exact hb)
theorem aGC {α:Type} {L:Nat→Int→Option Int} {l:List α} {q:α→Bool} (hl:l.length≤1000000)
 (h1:∀ p x r f,l=p++x::r→L (f+1) (p.length:Int)=bif q x then some (p.length:Int) else L f ((p++[x]).length:Int)) (h0:∀ f,L (f+1) (l.length:Int)=some (-1)) :
 ∃ k:Int,L fuel 0=some k∧decide (0≤k)=l.any q:=by
 rcases aAW h1 h0 l [] fuel rfl (dN (by omega)) (fun _ h=>(List.not_mem_nil h).elim) with ⟨h2,h3⟩ | ⟨a,x,t,h2,h3,h4,h5⟩
 · refine ⟨-1,h2,?_⟩
   symm
   have:l.any q=false:=by rw [List.any_eq_false]; intro y hy; rw [h3 y hy]; decide
   rw [this]; rfl
 · refine ⟨a.length,h5,?_⟩
   have:l.any q=true:=List.any_eq_true.2 ⟨x,by rw [h2]; simp,h4⟩
   rw [this]; exact decide_eq_true (by omega)
theorem aBz {α:Type} {L:Nat→List α→Int→Int→Option (List α)} {q:α→Bool}
 (h1:∀ (f:Nat) (l:List α) (i j:Nat) (x:α),l.length≤100000→i≤j→j<l.length→l[j]? = some x→L (f+1) l (i:Int) (j:Int)=bif !q x then L f (l.set i x) ((i+1:Nat):Int) ((j+1:Nat):Int) else L f l (i:Int) ((j+1:Nat):Int))
 (h0:∀ (f:Nat) (l:List α) (i:Nat),i≤l.length→L (f+1) l (i:Int) (l.length:Int)=some (l.take i)) :
 ∀ (r k m:List α) (f:Nat),k.length+m.length+r.length≤100000→r.length<f →
   L f (k++m++r) (k.length:Int) ((k.length+m.length:Nat):Int)=some (k++r.filter fun y=>!q y)
 | [],k,m,f+1,hl,_=>by
   have:=h0 f (k++m) k.length (by simp)
   rw [List.append_nil,show ((k.length+m.length:Nat):Int)=((k++m).length:Int) by simp,this]; simp
 | y :: r,k,m,f+1,hl,hf=>by
   simp only [List.length_cons] at hl hf
   have hy:(k++m++y::r)[k.length+m.length]? = some y:=by
    rw [List.getElem?_append_right (by simp)]; simp
   have hlen:(k++m++y::r).length=k.length+m.length+(r.length+1):=by simp; omega
   rw [h1 f (k++m++y::r) k.length (k.length+m.length) y (by omega) (by omega) (by omega) hy]
   rcases Bool.eq_false_or_eq_true (q y) with hb | hb
   · rw [hb,Bool.not_true,bC,List.filter_cons_of_neg (by simp [hb])]
     have:=aBz h1 h0 r k (m++[y]) f (by simp; omega) (by omega)
     rw [show k++m++y::r=k++(m++[y])++r by simp,←this]; congr 1; simp; omega
   · rw [hb,Bool.not_false,bH,List.filter_cons_of_pos (by simp [hb])]
     obtain ⟨m2,h3,h2⟩:∃ m2:List α,m2.length=m.length∧(k++m++y::r).set k.length y=k++[y]++m2++r:=by
      rw [List.append_assoc k m,List.set_append_right _ _ (Nat.le_refl _),Nat.sub_self]
      cases m with
      | nil=>exact ⟨[],rfl,by simp⟩
      | cons a m=>exact ⟨m++[y],by simp,by simp⟩
     rw [h2]
     have:=aBz h1 h0 r (k++[y]) m2 f (by simp; omega) (by omega)
     rw [show k++y::List.filter (fun y=>!q y) r=k++[y]++List.filter (fun y=>!q y) r by simp,←this]
     congr 1 <;> simp <;> omega
theorem aGH {α:Type} {I:Nat→Int→Option Int} {L:Nat→List α→Int→Int→Option (List α)} {l:List α} {q:α→Bool} (hl:l.length≤100000)
 (i1:∀ p x r f,l=p++x::r→I (f+1) (p.length:Int)=bif q x then some (p.length:Int) else I f ((p++[x]).length:Int)) (i0:∀ f,I (f+1) (l.length:Int)=some (-1))
 (h1:∀ (f:Nat) (l:List α) (i j:Nat) (x:α),l.length≤100000→i≤j→j<l.length→l[j]? = some x→L (f+1) l (i:Int) (j:Int)=bif !q x then L f (l.set i x) ((i+1:Nat):Int) ((j+1:Nat):Int) else L f l (i:Int) ((j+1:Nat):Int))
 (h0:∀ (f:Nat) (l:List α) (i:Nat),i≤l.length→L (f+1) l (i:Int) (l.length:Int)=some (l.take i)) :
 (bno (I fuel 0) fun x1=>bnd (decide (x1=(-1))) fun x2=>bif x2 then some l else bnd (IntKind.wrap .i64 (x1+1)) fun x4=>L fuel l x1 x4)=some (l.filter fun y=>!q y):=by
 rcases aAW i1 i0 l [] fuel rfl (dN (by omega)) (fun _ h=>(List.not_mem_nil h).elim) with ⟨e1,e2⟩ | ⟨a,x,t,e1,e2,e3,e4⟩
 · have e1:I fuel 0=some (-1):=e1
   rw [e1,bnoS]
   simp only [bndD,decide_true,bH]
   rw [List.filter_eq_self.2 (fun y hy=>by rw [e2 y hy]; rfl)]
 · have e4:I fuel 0=some (a.length:Int):=e4
   have hql:a.length+(t.length+1)≤100000:=by rw [e1] at hl; simpa using hl
   rw [e4,bnoS]
   simp only [bndD,decide_eq_false (show ¬(a.length:Int) = -1 by omega),bC]
   rw [w64 (by omega) (by omega)]
   have:=aBz h1 h0 t a [x] fuel (by simp; omega) (dN (by omega))
   rw [e1,List.filter_append,List.filter_cons_of_neg (by simp [e3]),List.filter_eq_self.2 (fun y hy=>by rw [e2 y hy]; rfl),←this]
   congr 1; simp
theorem aCl {α:Type} [DecidableEq α] {L:Nat→Int→Option Bool} {l m:List α} (hm:l.length=m.length)
 (h1:∀ p x r s y t f,l=p++x::r→m=s++y::t→p.length=s.length→L (f+1) (p.length:Int)=bif !decide (x=y) then some false else L f ((p++[x]).length:Int)) {z:Bool} (h0:∀ f,L (f+1) (l.length:Int)=some z) :
 ∀ (r t p s:List α) (f:Nat),l=p++r→m=s++t→p.length=s.length→r.length<f→L f (p.length:Int)=some (decide (r=t)&&z)
 | [],[],p,s,f+1,h,k,e,_=>by
   rw [List.append_nil] at h
   subst h
   rw [h0]; simp
 | [],y::t,p,s,f+1,h,k,e,_=>by rw [h,k] at hm; simp at hm; omega
 | x::r,[],p,s,f+1,h,k,e,_=>by rw [h,k] at hm; simp at hm; omega
 | x :: r,y::t,p,s,f+1,h,k,e,hf=>by
   rw [h1 p x r s y t f h k e]
   by_cases hx:x=y
   · subst hx
     rw [decide_eq_true rfl,Bool.not_true,bC]
     have:=aCl hm h1 h0 r t (p++[x]) (s++[x]) f (pV h) (pV k) (by simp [e]) (by simpa using hf)
     rw [this]; simp
   · rw [decide_eq_false hx,Bool.not_false,bH]; simp [hx]
theorem tD {α:Type} [DecidableEq α] {L:Nat→Int→Option Bool} {l m:List α} (hl:l.length≤1000000)
 (h1:∀ p x r s y t f,l=p++x::r→m=s++y::t→p.length=s.length→L (f+1) (p.length:Int)=bif !decide (x=y) then some false else L f ((p++[x]).length:Int)) {z:Bool} (h0:l.length=m.length→∀ f,L (f+1) (l.length:Int)=some z) :
 (bnd (!decide ((l.length:Int)=(m.length:Int))) fun x1=>bif x1 then some false else L fuel 0)=some (decide (l=m)&&z):=by
 by_cases hm:l.length=m.length
 · simp only [bndD,decide_eq_true (show (l.length:Int)=(m.length:Int) by omega),Bool.not_true,bC]
   exact aCl hm h1 (h0 hm) l m [] [] fuel rfl rfl rfl (dN (by omega))
 · simp only [bndD,decide_eq_false (show ¬(l.length:Int)=(m.length:Int) by omega),Bool.not_false,bH]
   rw [decide_eq_false (fun h=>hm (by rw [h]))]; rfl
theorem uB {α:Type} {P:α→Option Bool} {q:α→Bool} (hP:∀ x,P x=some (q x)) {I:Nat→Int→Option Int} {l:List α}
 (hI:∀ f v,I (f+1) v=bnd (decide (v<(l.length:Int))) fun x14=>bif x14 then (bno (gix l v) fun x16=>bno (P x16) fun x17=>bif x17 then some v else (bnd (IntKind.wrap .i64 (v+1)) fun x19=>I f x19)) else some (-1))
 (hl:l.length≤1000000):(bno (I fuel 0) fun x1=>bnd (decide (0≤x1)) fun x2=>some x2)=some (l.any q):=by
 obtain ⟨k,h1,h2⟩:=aGC (L:=I) (q:=q) hl (fun p x r f h=>by
  rw [hI]; simp only [bndD,jC h,bH,dP h,bnoS,hP,w_at h hl]) (fun f=>by rw [hI]; simp only [bndD,rX,bC])
 rw [h1,bnoS,bndD,h2]
theorem wA {α:Type} {P:α→Option Bool} {q:α→Bool} (hP:∀ x,P x=some (q x)) {I:Nat→Int→Option Int} {L:Nat→List α→Int→Int→Option (List α)} {l:List α}
 (hI:∀ f v,I (f+1) v=bnd (decide (v<(l.length:Int))) fun x14=>bif x14 then (bno (gix l v) fun x16=>bno (P x16) fun x17=>bif x17 then some v else (bnd (IntKind.wrap .i64 (v+1)) fun x19=>I f x19)) else some (-1))
 (hL:∀ f a b c,L (f+1) a b c=bnd (decide (c<(a.length:Int))) fun x32=>bif x32 then (bno (gix a c) fun x34=>bno (a[(c:Int).toNat]?) fun x35=>bno (P x35) fun x36=>bif (!x36) then (bno (gix a b) fun x38=>bno (a[(b:Int).toNat]?) fun x39 =>
   bnd (a.set ((b:Int).toNat) x35) fun x40=>bnd (IntKind.wrap .i64 (b+1)) fun x41=>bnd (IntKind.wrap .i64 (c+1)) fun x42=>L f x40 x41 x42) else (bnd (IntKind.wrap .i64 (c+1)) fun x43=>L f a b x43)) else (bno (cut a 0 b) fun x44=>bno (cut x44 0 b) fun x45=>some x45))
 (hl:l.length≤100000):(bno (I fuel 0) fun x1=>bnd (decide (x1=(-1))) fun x2=>bif x2 then some l else bnd (IntKind.wrap .i64 (x1+1)) fun x4=>L fuel l x1 x4)=some (l.filter fun y=>!q y):=by
 refine aGH hl (fun p x r f h=>by
  rw [hI]; simp only [bndD,jC h,bH,dP h,bnoS,hP,w_at h (show l.length≤1000000 by omega)]) (fun f=>by rw [hI]; simp only [bndD,rX,bC]) (fun f a i j x ha hij hj hx=>?_) (fun f a i hi=>?_)
 · rw [hL]
   have hi:i<a.length:=by omega
   simp only [bndD,decide_eq_true (show (j:Int)<(a.length:Int) by omega),bH,aFO,hx,bnoS,Int.toNat_natCast,hP,List.getElem?_eq_getElem hi,w64 (show -9223372036854775808≤(j:Int)+1 by omega) (by omega),w64 (show -9223372036854775808≤(i:Int)+1 by omega) (by omega)]
   rfl
 · rw [hL]
   have e:(a.take i).length=i:=by rw [List.length_take]; omega
   simp only [bndD,rX,bC]
   have h1:=aBR (l:=a) (List.take_append_drop i a).symm
   have h2:=aBR (l:=a.take i) (p:=a.take i) (r:=[]) (by simp)
   rw [e] at h1 h2
   rw [h1,bnoS,h2,bnoS]
theorem aDr {α:Type} {l:List α} {i:Nat} (h:i≤l.length):cut l 0 (i:Int)=some (l.take i):=by
 have h1:=aBR (l:=l) (List.take_append_drop i l).symm
 rwa [show (l.take i).length=i by rw [List.length_take]; omega] at h1
end Go.Fn
open Go Go.IL
namespace Go.Fn
abbrev Iv:=aG
abbrev Pc:=aI
abbrev S23:=aN
def mem (n:Int) (s:List Iv):Prop:=∃ x∈s,x.From≤n∧n<x.To
def mayB (x:Iv):Bool:=(decide (0≤x.From)&&decide (x.From≤4611686018427387903))&&(decide (0≤x.To)&&decide (x.To≤4611686018427387903))
theorem aDg (x:Iv):iW x=some (mayB x):=by
 unfold iW uY mayB
 simp only [bndD,bnoS]
 cases decide (0≤x.From)&&decide (x.From≤4611686018427387903) <;> rfl
theorem xA (x:Iv):gN x=some (decide (x.To≤x.From)):=rfl
structure VS (s:List Iv):Prop where
 pw:s.Pairwise (fun x y=>x.To<y.From)
 ne:∀ x∈s,x.From<x.To
 lo:∀ x∈s,0≤x.From
 hi:∀ x∈s,x.To≤4398046511104
theorem VS.nil:VS []:=⟨.nil,fun _ h=>(List.not_mem_nil h).elim,fun _ h=>(List.not_mem_nil h).elim,fun _ h=>(List.not_mem_nil h).elim⟩
theorem aDV:∀ {s:List Iv} {a b:Int},s.Pairwise (fun x y=>x.To<y.From)→(∀ x∈s,x.From<x.To)→(∀ x∈s,a≤x.From∧x.To≤b)→a≤b→(s.length:Int)≤b-a
 | [],a,b,_,_,_,h=>by simp; omega
 | x::s,a,b,hp,hn,hb,hab=>by
   have hp:=List.pairwise_cons.1 hp
   have h1:=hn x (by simp)
   have h2:=hb x (by simp)
   have:=aDV (s:=s) (a:=x.To) (b:=b) hp.2 (fun y hy=>hn y (by simp [hy])) (fun y hy=>⟨by have:=hp.1 y hy; omega,(hb y (by simp [hy])).2⟩) h2.2
   simp only [List.length_cons]; omega
theorem aDo {s:List Iv} (hl:s.length≤1000000) (hp:s.Pairwise (fun x y=>x.To<y.From)):∀ (r p:List Iv) (x:Iv) (f:Nat),s=(p++[x])++r→r.length<f→iB s f ((p++[x]).length:Int)=some 0
 | [],p,x,f+1,h,_=>by
   unfold iB
   simp only [bndD,jO h,bC]
 | y::r,p,x,f+1,h,hf=>by
   unfold iB
   have hxy:x.To<y.From:=by
    rw [h] at hp
    exact (List.pairwise_append.1 hp).2.2 x (by simp) y (by simp)
   simp only [bndD,jC h,bH,aGD h hl,dP h,bnoS,decide_eq_false (show ¬y.From≤x.To by omega),bC,w_at h hl]
   exact aDo hl hp r (p++[x]) y f (pV h) (by simpa using hf)
theorem yU {s:List Iv} (hl:s.length≤100000) (h:VS s):nL s=some 0:=by
 unfold nL
 have h1:dA s=some (s.any (fun x=>!mayB x)):=by
  have hc:∀ x:Iv,pL (⟨x.From,x.To⟩:Iv)=some (!mayB x):=fun x=>by unfold pL; rw [aDg,bnoS]
  have hI:∀ f v,bT s (f+1) v=bnd (decide (v<(s.length:Int))) fun x14=>bif x14 then (bno (gix s v) fun x16=>bno (some (!mayB x16)) fun x17=>bif x17 then some v else (bnd (IntKind.wrap .i64 (v+1)) fun x19=>bT s f x19)) else some (-1):=fun f v=>by
   rw [bT]
   simp only [hc]
  exact uB (P:=fun x:Iv=>some (!mayB x)) (fun _=>rfl) hI (by omega)
 have h2:dI s=some (s.any (fun x=>decide (x.To≤x.From))):=by
  have hI:∀ f v,cE s (f+1) v=bnd (decide (v<(s.length:Int))) fun x14=>bif x14 then (bno (gix s v) fun x16=>bno (some (decide (x16.To≤x16.From))) fun x17=>bif x17 then some v else (bnd (IntKind.wrap .i64 (v+1)) fun x19=>cE s f x19)) else some (-1):=fun f v=>by
   rw [cE]
   simp only [xA]
  exact uB (P:=fun x:Iv=>some (decide (x.To≤x.From))) (fun _=>rfl) hI (by omega)
 have e1:s.any (fun x=>!mayB x)=false:=by
  rw [List.any_eq_false]; intro x hx
  have a1:=h.lo x hx
  have a2:=h.hi x hx
  have a3:=h.ne x hx
  unfold mayB; simp; omega
 have e2:s.any (fun x=>decide (x.To≤x.From))=false:=by
  rw [List.any_eq_false]; intro x hx
  have a3:=h.ne x hx
  simp; omega
 rw [h1,e1,bnoS,bC,h2,e2,bnoS,bC]
 cases hs:s with
 | nil =>
   have hf:fuel=18446744073709551615+1:=rfl
   rw [hf]; rfl
 | cons x r =>
   have h3:s=([]++[x])++r:=hs
   have:=aDo (by omega) h.pw r [] x fuel h3 (dN (by rw [hs] at hl; simp at hl; omega))
   have this:iB s fuel 1=_:=this
   rw [←hs]; exact this
theorem aGa {l:List Iv} (hl:l.length≤100000):dB l=some l:=by
 unfold dB
 have h:(bno (app 16 ([]:(List Iv)) l) fun x3=>some x3)=some l:=by
  rw [gZ (by simp; omega) (by simp; omega),bnoS,List.nil_append]
 rw [h,zX]
 rintro rfl; rfl
theorem iclone2 {l:List Iv} (hl:l.length≤100000):dR l=some l:=by
 unfold dR
 have h:(bno (app 16 ([]:(List Iv)) l) fun x3=>some x3)=some l:=by
  rw [gZ (by simp; omega) (by simp; omega),bnoS,List.nil_append]
 rw [h,zX]
 rintro rfl; rfl
def parts (y x:Iv):List Iv:=(if y.From<min y.To x.From then [⟨y.From,min y.To x.From⟩] else [])++(if max y.From x.To<y.To then [⟨max y.From x.To,y.To⟩] else [])
def cutS (s:List Iv) (x:Iv):List Iv:=s.flatMap fun y=>parts y x
theorem aAo {y x z:Iv} (h:z∈parts y x):y.From≤z.From∧z.To≤y.To∧z.From<z.To∧(z.To≤x.From∨x.To≤z.From):=by
 unfold parts at h
 rcases List.mem_append.1 h with h | h
 · split at h
   · rw [List.mem_singleton.1 h]; refine ⟨Int.le_refl _,?_,?_,.inl ?_⟩ <;> simp only [] <;> omega
   · exact (List.not_mem_nil h).elim
 · split at h
   · rw [List.mem_singleton.1 h]; refine ⟨?_,Int.le_refl _,?_,.inr ?_⟩ <;> simp only [] <;> omega
   · exact (List.not_mem_nil h).elim
theorem aEq {y x:Iv} {n:Int} (h1:y.From≤n∧n<y.To) (h2:¬ (x.From≤n∧n<x.To)) (hx:x.From<x.To):∃ z∈parts y x,z.From≤n∧n<z.To:=by
 unfold parts
 by_cases h:n<x.From
 · refine ⟨⟨y.From,min y.To x.From⟩,?_,by simp only []; omega⟩
   rw [List.mem_append]; left; rw [if_pos (by omega)]; simp
 · refine ⟨⟨max y.From x.To,y.To⟩,?_,by simp only []; omega⟩
   rw [List.mem_append]; right; rw [if_pos (by omega)]; simp
theorem aFx (y x:Iv) (hx:x.From<x.To):(parts y x).Pairwise (fun a b=>a.To<b.From):=by
 unfold parts
 rw [List.pairwise_append]
 refine ⟨by split <;> simp,by split <;> simp,fun a ha b hb=>?_⟩
 split at ha
 · split at hb
   · rw [List.mem_singleton.1 ha,List.mem_singleton.1 hb]; show min y.To x.From<max y.From x.To; omega
   · exact (List.not_mem_nil hb).elim
 · exact (List.not_mem_nil ha).elim
theorem aEr (y x:Iv):(parts y x).length≤2:=by unfold parts; rw [List.length_append]; (repeat' split) <;> simp
theorem vM {s:List Iv} {x z:Iv} (h:z∈cutS s x):∃ y∈s,y.From≤z.From∧z.To≤y.To∧z.From<z.To∧(z.To≤x.From∨x.To≤z.From):=by
 obtain ⟨y,hy,hz⟩:=List.mem_flatMap.1 h
 exact ⟨y,hy,aAo hz⟩
theorem aDO {s:List Iv} {x:Iv} (h:VS s) (hx:x.From<x.To):VS (cutS s x):=by
 refine ⟨?_,fun z hz=>?_,fun z hz=>?_,fun z hz=>?_⟩
 · unfold cutS
   rw [List.pairwise_flatMap]
   refine ⟨fun y _=>aFx y x hx,h.pw.imp fun {a b} hab z hz w hw=>?_⟩
   have h1:=aAo hz
   have h2:=aAo hw
   omega
 · obtain ⟨y,hy,h1,h2,h3,_⟩:=vM hz; exact h3
 · obtain ⟨y,hy,h1,h2,h3,_⟩:=vM hz; have:=h.lo y hy; omega
 · obtain ⟨y,hy,h1,h2,h3,_⟩:=vM hz; have:=h.hi y hy; omega
theorem aB0 {s:List Iv} {x:Iv} (hx:x.From<x.To) {n:Int}:mem n (cutS s x)↔mem n s∧¬ (x.From≤n∧n<x.To):=by
 constructor
 · rintro ⟨z,hz,h1,h2⟩
   obtain ⟨y,hy,a1,a2,a3,a4⟩:=vM hz
   exact ⟨⟨y,hy,by omega,by omega⟩,by omega⟩
 · rintro ⟨⟨y,hy,h1⟩,h2⟩
   obtain ⟨z,hz,h3⟩:=aEq h1 h2 hx
   exact ⟨z,List.mem_flatMap.2 ⟨y,hy,hz⟩,h3⟩
theorem aDt (x:Iv):∀ (s:List Iv),(cutS s x).length≤2*s.length
 | []=>Nat.le_refl _
 | y::s=>by
   have h1:=aDt x s
   have h2:=aEr y x
   show (parts y x++cutS s x).length≤_
   rw [List.length_append,List.length_cons]; omega
theorem aFX {s:List Iv} {x:Iv} (h:∀ y∈s,y.From<y.To∧(y.To≤x.From∨x.To≤y.From)) (hx:x.From<x.To):cutS s x=s:=by
 induction s with
 | nil=>rfl
 | cons y s ih =>
   have h1:=h y (by simp)
   show parts y x++cutS s x=y::s
   rw [ih (fun z hz=>h z (by simp [hz]))]
   have:parts y x=[y]:=by
    unfold parts
    rcases h1.2 with h2 | h2
    · rw [if_pos (by omega),if_neg (by omega),show min y.To x.From=y.To by omega]; rfl
    · rw [if_neg (by omega),if_pos (by omega),show max y.From x.To=y.From by omega]; rfl
   rw [this]; rfl
theorem cut_one {x:Iv} {k:Int} {kk0:Int→List Iv→Option (List Iv)} (y:Iv) (acc:List Iv) (n:Nat) (ha:acc.length≤100000) :
 gQ k kk0 y (min y.To x.From) (max y.From x.To) (n+3) 0 acc=kk0 (IntKind.wrap .i64 (k+1)) (acc++parts y x):=by
 have w0:IntKind.wrap .i64 (0+1)=1:=rfl
 have w1:IntKind.wrap .i64 (1+1)=2:=rfl
 have g0:∀ a b:Iv,gix [a,b] 0=some a:=fun _ _=>rfl
 have g1:∀ a b:Iv,gix [a,b] 1=some b:=fun _ _=>rfl
 unfold parts
 have e2:∀ (m:Nat) (a:List Iv),gQ k kk0 y (min y.To x.From) (max y.From x.To) (m+1) 2 a=kk0 (IntKind.wrap .i64 (k+1)) a:=fun m a=>by
  rw [gQ]
  simp only [bndD,show decide ((2:Int)<2)=false from rfl,bC]
 have e1:∀ (m:Nat) (a:List Iv),a.length≤100001→gQ k kk0 y (min y.To x.From) (max y.From x.To) (m+2) 1 a=kk0 (IntKind.wrap .i64 (k+1)) (a++if max y.From x.To<y.To then [⟨max y.From x.To,y.To⟩] else []):=fun m a hal=>by
  rw [gQ]
  simp only [bndD,show decide ((1:Int)<2)=true from rfl,bH,g1,bnoS,xA]
  by_cases h:max y.From x.To<y.To
  · rw [decide_eq_false (by omega),if_pos h]
    simp only [Bool.not_false,beq_self_eq_true,bH,Bool.not_true,Bool.and_false,bC,w1]
    rw [gZ (by simp; omega) (by simp; omega),bnoS,e2 m]
  · rw [decide_eq_true (by omega),if_neg h,List.append_nil]
    simp only [Bool.not_true,ft,bC,Bool.not_false,Bool.and_true,w1,e2 m]
 rw [gQ]
 simp only [bndD,show decide ((0:Int)<2)=true from rfl,bH,g0,bnoS,xA]
 by_cases h:y.From<min y.To x.From
 · rw [decide_eq_false (by omega),if_pos h]
   simp only [Bool.not_false,beq_self_eq_true,bH,Bool.not_true,Bool.and_false,bC,w0]
   rw [gZ (by simp; omega) (by simp; omega),bnoS,e1 n _ (by simp; omega),List.append_assoc]
 · rw [decide_eq_true (by omega),if_neg h,List.nil_append]
   simp only [Bool.not_true,ft,bC,Bool.not_false,Bool.and_true,w0]
   rw [e1 n _ (by omega)]
theorem cut_L {s:List Iv} {x:Iv} (hl:s.length≤20000):∀ (r p:List Iv) (f:Nat),s=p++r→r.length<f→kJ s x f (p.length:Int) (cutS p x)=some (cutS s x)
 | [],p,f+1,h,_=>by
   unfold kJ
   simp only [bndD,jO h,bC]
   rw [List.append_nil] at h; rw [h]
 | y::r,p,f+1,h,hf=>by
   unfold kJ
   have hp:p.length+(r.length+1)=s.length:=by rw [h]; simp
   have hc:=aDt x p
   simp only [bndD,jC h,bH,dP h,bnoS]
   have hfu:fuel=18446744073709551613+3:=rfl
   rw [hfu,cut_one y (cutS p x) _ (by omega),w_at h (by omega)]
   have ih:=cut_L (x:=x) hl r (p++[y]) f (pV h) (by simpa using hf)
   have e:cutS (p++[y]) x=cutS p x++parts y x:=by simp [cutS]
   rw [e] at ih
   exact ih
theorem aFW {s:List Iv} {x:Iv} (hl:s.length≤20000) (h:VS s) (hx:0≤x.From∧x.From≤4398046511104∧0≤x.To∧x.To≤4398046511104):rN s x=some (if x.To≤x.From then s else cutS s x):=by
 have hm:mayB x=true:=by unfold mayB; simp; omega
 unfold rN
 rw [aDg (⟨x.From,x.To⟩:Iv),show mayB (⟨x.From,x.To⟩:Iv)=true from hm,bnoS]
 simp only [bndD,Bool.not_true,beq_self_eq_true,gdtt,xA,bnoS,Bool.false_or]
 by_cases hn:x.To≤x.From
 · rw [decide_eq_true hn,if_pos hn]
   simp only [tf,gdff,bnoS,Bool.true_or,bH,aGa (show s.length≤100000 by omega)]
 · rw [decide_eq_false hn,if_neg hn]
   simp only [beq_self_eq_true,gdtt,yU (show s.length≤100000 by omega) h,bnoS,decide_true,Bool.not_true,Bool.or_self,bC]
   exact cut_L hl s [] fuel rfl (dN (by omega))
end Go.Fn
open Go Go.IL
namespace Go.Fn
def putS (s:List Iv) (x:Iv):List Iv:=match s.getLast? with
 | some y=>if x.From≤y.To then s.dropLast++[⟨y.From,max y.To x.To⟩] else s++[x]
 | none=>s++[x]
theorem aFu (x:Iv):putS [] x=[x]:=rfl
theorem aEp (p:List Iv) (y x:Iv):putS (p++[y]) x=if x.From≤y.To then p++[⟨y.From,max y.To x.To⟩] else p++[y]++[x]:=by
 unfold putS; simp
theorem aEo {s:List Iv} {x:Iv} (hl:s.length≤100000) (hx:x.From<x.To):jH x s=some (putS s x):=by
 unfold jH
 rw [xA (⟨x.From,x.To⟩:Iv),show decide ((⟨x.From,x.To⟩:Iv).To≤(⟨x.From,x.To⟩:Iv).From)=false from decide_eq_false (by show ¬x.To≤x.From; omega),bnoS,bC]
 rcases List.eq_nil_or_concat s with rfl | ⟨p,y,hs⟩
 · simp only [bndD,List.length_nil,show decide ((0:Int)<((0:Nat):Int))=false from rfl,ft,gdff,bnoS,Bool.false_and,bC]
   rw [gZ (by simp) (by simp),bnoS]; rfl
 · rw [List.concat_eq_append] at hs
   subst hs
   have hlen:(p++[y]).length=p.length+1:=by simp
   have hw:IntKind.wrap .i64 (((p++[y]).length:Int)-1)=(p.length:Int):=by rw [hlen,w64 (by omega) (by omega)]; omega
   have hg:gix (p++[y]) (p.length:Int)=some y:=dP (r:=[]) rfl
   have hge:(p++[y])[p.length]? = some y:=by rw [List.getElem?_append_right (Nat.le_refl _)]; simp
   have hset:∀ z:Iv,(p++[y]).set p.length z=p++[z]:=fun z=>by rw [List.set_append_right _ _ (Nat.le_refl _)]; simp
   simp only [bndD,decide_eq_true (show (0:Int)<((p++[y]).length:Int) by omega),beq_self_eq_true,gdtt,hw,hg,bnoS,Int.toNat_natCast,hge,Bool.true_and,hset]
   rw [aEp]
   by_cases h:x.From≤y.To
   · rw [decide_eq_true h,bH,if_pos h]
   · rw [decide_eq_false h,bC,if_neg h,gZ (by simp; omega) (by simp; omega),bnoS]
theorem aEn {s:List Iv} {x:Iv} (h:VS s) (hx:x.From<x.To) (h0:0≤x.From) (h1:x.To≤4398046511104) (hle:∀ y∈s,y.From≤x.From) :
 VS (putS s x)∧(∀ n,mem n (putS s x)↔mem n s∨(x.From≤n∧n<x.To))∧(∀ y∈putS s x,y.From≤x.From)∧(putS s x).length≤s.length+1:=by
 rcases List.eq_nil_or_concat s with rfl | ⟨p,y,hs⟩
 · rw [aFu]
   refine ⟨⟨by simp,fun z hz=>?_,fun z hz=>?_,fun z hz=>?_⟩,fun n=>?_,fun z hz=>?_,by simp⟩
   · rw [List.mem_singleton.1 hz]; exact hx
   · rw [List.mem_singleton.1 hz]; exact h0
   · rw [List.mem_singleton.1 hz]; exact h1
   · constructor
     · rintro ⟨z,hz,h2⟩; rw [List.mem_singleton.1 hz] at h2; exact .inr h2
     · rintro (⟨z,hz,_⟩ | h2)
       · exact (List.not_mem_nil hz).elim
       · exact ⟨x,by simp,h2⟩
   · rw [List.mem_singleton.1 hz]; exact Int.le_refl _
 · rw [List.concat_eq_append] at hs
   subst hs
   rw [aEp]
   have hy:=hle y (by simp)
   have hyn:=h.ne y (by simp)
   have hpp:=List.pairwise_append.1 h.pw
   by_cases hc:x.From≤y.To
   · rw [if_pos hc]
     have hmem:∀ z,z∈p++[(⟨y.From,max y.To x.To⟩:Iv)]→z∈p∨z=⟨y.From,max y.To x.To⟩:=fun z hz=>by
      rcases List.mem_append.1 hz with hz | hz
      · exact .inl hz
      · exact .inr (List.mem_singleton.1 hz)
     refine ⟨⟨?_,fun z hz=>?_,fun z hz=>?_,fun z hz=>?_⟩,fun n=>?_,fun z hz=>?_,by simp⟩
     · rw [List.pairwise_append]
       refine ⟨hpp.1,by simp,fun a ha b hb=>?_⟩
       rw [List.mem_singleton.1 hb]; exact hpp.2.2 a ha y (by simp)
     · rcases hmem z hz with hz | rfl
       · exact h.ne z (by simp [hz])
       · show y.From<max y.To x.To; omega
     · rcases hmem z hz with hz | rfl
       · exact h.lo z (by simp [hz])
       · exact h.lo y (by simp)
     · rcases hmem z hz with hz | rfl
       · exact h.hi z (by simp [hz])
       · have:=h.hi y (by simp); show max y.To x.To≤_; omega
     · constructor
       · rintro ⟨z,hz,h2,h3⟩
         rcases hmem z hz with hz | rfl
         · exact .inl ⟨z,by simp [hz],h2,h3⟩
         · have h2:y.From≤n:=h2
           have h3:n<max y.To x.To:=h3
           by_cases h4:n<y.To
           · exact .inl ⟨y,by simp,h2,h4⟩
           · exact .inr (by omega)
       · rintro (⟨z,hz,h2,h3⟩ | h2)
         · rcases List.mem_append.1 hz with hz | hz
           · exact ⟨z,by simp [hz],h2,h3⟩
           · rw [List.mem_singleton.1 hz] at h2 h3
             exact ⟨_,List.mem_append.2 (.inr (List.mem_singleton.2 rfl)),h2,by show n<max y.To x.To; omega⟩
         · exact ⟨_,List.mem_append.2 (.inr (List.mem_singleton.2 rfl)),by show y.From≤n; omega,by show n<max y.To x.To; omega⟩
     · rcases hmem z hz with hz | rfl
       · exact hle z (by simp [hz])
       · exact hy
   · rw [if_neg hc]
     refine ⟨⟨?_,fun z hz=>?_,fun z hz=>?_,fun z hz=>?_⟩,fun n=>?_,fun z hz=>?_,by simp⟩
     · rw [List.pairwise_append]
       refine ⟨h.pw,by simp,fun a ha b hb=>?_⟩
       rw [List.mem_singleton.1 hb]
       rcases List.mem_append.1 ha with ha | ha
       · have:=hpp.2.2 a ha y (by simp); omega
       · rw [List.mem_singleton.1 ha]; omega
     · rcases List.mem_append.1 hz with hz | hz
       · exact h.ne z hz
       · rw [List.mem_singleton.1 hz]; exact hx
     · rcases List.mem_append.1 hz with hz | hz
       · exact h.lo z hz
       · rw [List.mem_singleton.1 hz]; exact h0
     · rcases List.mem_append.1 hz with hz | hz
       · exact h.hi z hz
       · rw [List.mem_singleton.1 hz]; exact h1
     · constructor
       · rintro ⟨z,hz,h2⟩
         rcases List.mem_append.1 hz with hz | hz
         · exact .inl ⟨z,hz,h2⟩
         · rw [List.mem_singleton.1 hz] at h2; exact .inr h2
       · rintro (⟨z,hz,h2⟩ | h2)
         · exact ⟨z,List.mem_append.2 (.inl hz),h2⟩
         · exact ⟨x,List.mem_append.2 (.inr (by simp)),h2⟩
     · rcases List.mem_append.1 hz with hz | hz
       · exact hle z hz
       · rw [List.mem_singleton.1 hz]; exact Int.le_refl _
theorem aDD {n:Int} {p:List Iv} {y:Iv}:mem n (p++[y])↔mem n p∨(y.From≤n∧n<y.To):=by
 constructor
 · rintro ⟨z,hz,h2⟩
   rcases List.mem_append.1 hz with hz | hz
   · exact .inl ⟨z,hz,h2⟩
   · rw [List.mem_singleton.1 hz] at h2; exact .inr h2
 · rintro (⟨z,hz,h2⟩ | h2)
   · exact ⟨z,List.mem_append.2 (.inl hz),h2⟩
   · exact ⟨y,List.mem_append.2 (.inr (by simp)),h2⟩
theorem add_L {s:List Iv} {x:Iv} (hl:s.length≤20000) (h:VS s) (hx:x.From<x.To) (h0:0≤x.From) (h1:x.To≤4398046511104):∀ (r p:List Iv) (f:Nat) (out:List Iv) (laid:Bool),s=p++r→r.length<f→VS out →
 (∀ y∈out,∀ z∈r,y.From≤z.From)→(laid=false→∀ y∈out,y.From≤x.From)→(∀ n,mem n out↔mem n p∨(laid=true∧x.From≤n∧n<x.To))→out.length≤p.length+1→(laid=false→out.length≤p.length) →
 ∃ t,iI s x f out laid (p.length:Int)=some t∧VS t∧(∀ n,mem n t↔mem n s∨(x.From≤n∧n<x.To))∧t.length≤s.length+1:=by
 intro r
 induction r with
 | nil =>
   intro p f out laid hs hf hv ha hb hm hc hd
   obtain ⟨f,rfl⟩:∃ g,f=g+1:=⟨f-1,by simp at hf; omega⟩
   have hps:p=s:=by rw [hs,List.append_nil]
   subst hps
   unfold iI
   simp only [bndD,rX,bC]
   cases laid
   · obtain ⟨v1,v2,v3,v4⟩:=aEn hv hx h0 h1 (hb rfl)
     have:=hd rfl
     refine ⟨putS out x,?_,v1,fun n=>?_,by omega⟩
     · rw [Bool.not_false,bH,aEo (x:=(⟨x.From,x.To⟩:Iv)) (by omega) hx,bnoS]
     · rw [v2,hm]; simp
   · refine ⟨out,by rw [Bool.not_true,bC],hv,fun n=>?_,hc⟩
     rw [hm]; simp
 | cons y r ih =>
   intro p f out laid hs hf hv ha hb hm hc hd
   obtain ⟨f,rfl⟩:∃ g,f=g+1:=⟨f-1,by simp at hf; omega⟩
   have hpl:p.length+(r.length+1)=s.length:=by rw [hs]; simp
   have hym:y∈s:=by rw [hs]; simp
   have hyn:=h.ne y hym
   have hyr:∀ z∈r,y.From≤z.From:=fun z hz=>by
    have:=h.pw
    rw [hs] at this
    have:=(List.pairwise_cons.1 (List.pairwise_append.1 this).2.1).1 z hz
    omega
   unfold iI
   simp only [bndD,jC hs,bH,dP hs,bnoS]
   have fin:∀ (o1:List Iv) (l1:Bool),VS o1→(∀ z∈o1,z.From≤y.From)→(l1=false→y.From≤x.From)→(∀ n,mem n o1↔mem n p∨(l1=true∧x.From≤n∧n<x.To))→o1.length≤p.length+1→(l1=false→o1.length≤p.length) →
    ∃ t,oZ (p.length:Int) (iI s x f) y o1 l1=some t∧VS t∧(∀ n,mem n t↔mem n s∨(x.From≤n∧n<x.To))∧t.length≤s.length+1:=fun o1 l1 b1 b2 b3 b4 b5 b6=>by
    obtain ⟨v1,v2,v3,v4⟩:=aEn b1 hyn (h.lo y hym) (h.hi y hym) b2
    unfold oZ
    rw [aEo (x:=(⟨y.From,y.To⟩:Iv)) (by omega) hyn,bnoS,bndD,w_at hs (by omega)]
    refine ih (p++[y]) f (putS o1 y) l1 (pV hs) (by simpa using hf) v1 (fun z hz w hw=>?_) (fun hl1 z hz=>?_) (fun n=>?_) ?_ (fun hl1=>?_)
    · have:=v3 z hz; have:=hyr w hw; omega
    · have:=v3 z hz; have:=b3 hl1; omega
    · rw [v2,b4,aDD]
      constructor
      · rintro ((h5 | h5) | h5)
        · exact .inl (.inl h5)
        · exact .inr h5
        · exact .inl (.inr h5)
      · rintro ((h5 | h5) | h5)
        · exact .inl (.inl h5)
        · exact .inr h5
        · exact .inl (.inr h5)
    · rw [List.length_append,List.length_singleton]; omega
    · have:=b6 hl1; rw [List.length_append,List.length_singleton]; omega
   by_cases hcond:laid=false∧x.From≤y.From
   · rw [hcond.1,decide_eq_true hcond.2]
     obtain ⟨v1,v2,v3,v4⟩:=aEn hv hx h0 h1 (hb hcond.1)
     have:=hd hcond.1
     simp only [Bool.not_false,Bool.and_self,bH]
     rw [aEo (x:=(⟨x.From,x.To⟩:Iv)) (by omega) hx,bnoS]
     refine fin (putS out x) true v1 (fun z hz=>by have:=v3 z hz; omega) (fun h=>by cases h) (fun n=>?_) (by omega) (fun h=>by cases h)
     rw [v2,hm,hcond.1]; simp
   · rw [show (!laid&&decide (x.From≤y.From))=false by
      cases laid
      · simp only [true_and] at hcond; rw [decide_eq_false hcond]; rfl
      · rfl,bC]
     refine fin out laid hv (fun z hz=>ha z hz y (by simp)) (fun hl1=>?_) hm hc hd
     simp only [hl1,true_and] at hcond; omega
theorem aGk {s:List Iv} {x:Iv} (hl:s.length≤20000) (h:VS s) (h0:0≤x.From) (h1:x.To≤4398046511104) (hx:x.From≤x.To) :
 ∃ t,uZ s x=some t∧VS t∧(∀ n,mem n t↔mem n s∨(x.From≤n∧n<x.To))∧(x.From=x.To→t=s)∧t.length≤s.length+1:=by
 have hm:mayB x=true:=by unfold mayB; simp; omega
 unfold uZ
 rw [aDg (⟨x.From,x.To⟩:Iv),show mayB (⟨x.From,x.To⟩:Iv)=true from hm,bnoS]
 simp only [bndD,Bool.not_true,beq_self_eq_true,gdtt,xA,bnoS,Bool.false_or]
 by_cases hn:x.To≤x.From
 · rw [decide_eq_true hn]
   refine ⟨s,?_,h,fun n=>⟨.inl,fun h=>by rcases h with h | h; exact h; omega⟩,fun _=>rfl,by omega⟩
   simp only [tf,gdff,bnoS,Bool.true_or,bH,aGa (show s.length≤100000 by omega)]
 · rw [decide_eq_false hn]
   obtain ⟨t,e1,e2,e3,e4⟩:=add_L hl h (by omega) h0 h1 s [] fuel [] false rfl (dN (by omega)) VS.nil (fun _ h=>(List.not_mem_nil h).elim) (fun _ _ h=>(List.not_mem_nil h).elim) (fun n=>by simp) (by simp) (fun _=>by simp)
   refine ⟨t,?_,e2,e3,fun h=>by omega,e4⟩
   simp only [beq_self_eq_true,gdtt,yU (show s.length≤100000 by omega) h,bnoS,decide_true,Bool.not_true,Bool.or_self,bC]
   exact e1
theorem aGe {s:List Iv} {x:Iv} (hl:s.length≤20000) (h:VS s) (hx:x.From<x.To) (h0:0≤x.From) (h1:x.To≤4398046511104) (hd:∀ y∈s,y.To≤x.From∨x.To≤y.From):∀ (r p:List Iv) (f:Nat),s=p++r→r.length<f→kI s f [x] (p.length:Int)=some [x]
 | [],p,f+1,hs,_=>by
   unfold kI
   simp only [bndD,jO hs,bC]
 | y::r,p,f+1,hs,hf=>by
   have hym:y∈s:=by rw [hs]; simp
   have hyn:=h.ne y hym
   have a1:=h.lo y hym
   have a2:=h.hi y hym
   have hdy:=hd y hym
   have hv:VS [x]:=⟨by simp,fun z hz=>by rw [List.mem_singleton.1 hz]; exact hx,fun z hz=>by rw [List.mem_singleton.1 hz]; exact h0,fun z hz=>by rw [List.mem_singleton.1 hz]; exact h1⟩
   unfold kI
   simp only [bndD,jC hs,bH,dP hs,bnoS]
   rw [aFW (x:=(⟨y.From,y.To⟩:Iv)) (by simp) hv ⟨a1,by show y.From≤_; omega,by show 0≤y.To; omega,a2⟩,if_neg (by show ¬y.To≤y.From; omega),aFX (x:=(⟨y.From,y.To⟩:Iv)) (fun z hz=>by rw [List.mem_singleton.1 hz]; exact ⟨hx,by show x.To≤y.From∨y.To≤x.From; omega⟩) hyn,bnoS,w_at hs (by omega)]
   exact aGe hl h hx h0 h1 hd r (p++[y]) f (pV hs) (by simpa using hf)
theorem gaps_eq {s:List Iv} {x:Iv} (hl:s.length≤20000) (h:VS s) (hx:x.From<x.To) (h0:0≤x.From) (h1:x.To≤4398046511104) (hd:∀ n,x.From≤n→n<x.To→¬ mem n s):tA s x=some [x]:=by
 have hm:mayB x=true:=by unfold mayB; simp; omega
 have hd2:∀ y∈s,y.To≤x.From∨x.To≤y.From:=fun y hy=>by
  have hyn:=h.ne y hy
  by_cases hc:y.To≤x.From∨x.To≤y.From
  · exact hc
  · exact absurd ⟨y,hy,by omega,by omega⟩ (hd (max x.From y.From) (by omega) (by omega))
 unfold tA
 rw [aDg (⟨x.From,x.To⟩:Iv),show mayB (⟨x.From,x.To⟩:Iv)=true from hm,bnoS]
 simp only [bndD,Bool.not_true,beq_self_eq_true,gdtt,yU (show s.length≤100000 by omega) h,bnoS,decide_true,Bool.or_self,xA,decide_eq_false (show ¬x.To≤x.From by omega),bC]
 exact aGe hl h hx h0 h1 hd2 s [] fuel rfl (dN (by omega))
theorem isame {l m:List Iv} (hl:l.length≤1000000):qX l m=some (decide (l=m)):=by
 have heq:∀ x y:Iv,(decide (x.From=y.From)&&(decide (x.To=y.To)&&true))=decide (x=y):=fun x y=>by
  obtain ⟨a,b⟩:=x; obtain ⟨c,d⟩:=y; rw [Bool.eq_iff_iff]; simp
 have:=tD (L:=cP l m) (m:=m) (z:=true) hl (fun p x r s y t f h k e=>by
  rw [cP]
  simp only [bndD,jC h,bH,dP h,show gix m (p.length:Int)=some y by rw [e]; exact dP k,bnoS,heq,w_at h hl]) (fun _ f=>by
  rw [cP]
  simp only [bndD,rX,bC])
 rw [Bool.and_true] at this
 have this:eQ l m=_:=this
 unfold qX
 rw [this,bnoS]
end Go.Fn
open Go Go.IL
namespace Go.Fn
def endS (s:S23):Int:=s.Base+(s.Data.length:Int)
def fins (l:List Pc):Nat:=(l.filter (·.Fin)).length
structure G (s:S23):Prop where
 b0:0≤s.Base
 bn:s.Base≤s.Next
 nd:s.Next≤endS s
 en:endS s≤1099511623680
 dl:s.Data.length≤4096
 lv:VS s.Lost
 lb:∀ x∈s.Lost,s.Base≤x.From∧x.To≤s.Next
 pw:s.Pieces.Pairwise (fun p q=>p.To≤q.From)
 pb:∀ p∈s.Pieces,(s.Base≤p.From∧p.From≤p.To∧p.To≤s.Next)∧0≤p.Path∧p.Path<4
 pf:∀ p∈s.Pieces,p.From=p.To→p.Fin=true
 pd:∀ p∈s.Pieces,∀ n,p.From≤n→n<p.To→¬ mem n s.Lost
 fe:∀ p∈s.Pieces,p.Fin=true→p.To=endS s
 fc:fins s.Pieces=if s.Sent=true∧s.Again=false∧s.Done=false then 1 else 0
 se:s.Sent=true→s.Closed=true∧s.Next=endS s∧¬ (s.Again=true∧s.Done=true)
 ns:s.Sent=false→s.Again=false∧s.Done=false
 cov:∀ n,s.Base≤n→n<s.Next→mem n s.Lost∨∃ p∈s.Pieces,p.From≤n∧n<p.To
theorem aGW:∀ {l:List Pc} {a b:Int},l.Pairwise (fun p q=>p.To≤q.From)→(∀ p∈l,a≤p.From∧p.From≤p.To∧p.To≤b)→(∀ p∈l,p.From=p.To→p.Fin=true)→a≤b→(l.length:Int)≤b-a+fins l
 | [],a,b,_,_,_,h=>by simp [fins]; omega
 | x :: l,a,b,hp,hb,hf,hab=>by
   have hp:=List.pairwise_cons.1 hp
   have h1:=hb x (by simp)
   have:=aGW (l:=l) (a:=x.To) (b:=b) hp.2 (fun y hy=>⟨hp.1 y hy,(hb y (by simp [hy])).2⟩) (fun y hy=>hf y (by simp [hy])) h1.2.2
   have hf1:fins (x::l)=fins l+if x.Fin=true then 1 else 0:=by unfold fins; rw [List.filter_cons]; split <;> simp
   rw [hf1]
   by_cases he:x.From=x.To
   · rw [if_pos (hf x (by simp) he)]
     simp only [List.length_cons]; omega
   · simp only [List.length_cons]; split <;> omega
theorem G.ll {s:S23} (h:G s):s.Lost.length≤4096:=by
 have h1:=aDV h.lv.pw h.lv.ne h.lb h.bn
 have h2:=h.nd
 have h3:=h.dl
 unfold endS at h2; omega
theorem G.pl {s:S23} (h:G s):s.Pieces.length≤4097:=by
 have h1:=aGW h.pw (fun p hp=>(h.pb p hp).1) h.pf h.bn
 have h2:=h.nd
 have h3:=h.dl
 have h4:fins s.Pieces≤1:=by rw [h.fc]; split <;> omega
 unfold endS at h2; omega
theorem G.num {s:S23} (h:G s):0≤s.Base∧s.Base≤s.Next∧s.Next≤endS s∧endS s≤1099511623680:=⟨h.b0,h.bn,h.nd,h.en⟩
theorem sC {s:S23} (h:G s):fJ s=some (endS s):=by
 obtain ⟨h1,h2,h3,h4⟩:=h.num
 unfold fJ
 rw [bndD]; unfold endS at *; rw [w64 (by omega) (by omega)]
theorem aCQ {s:S23} (hp:s.Pieces.length≤100000) (hl:s.Lost.length≤100000):fV s=some (s.Base,s.Data,s.Next,s.Pieces,s.Lost,s.Closed,s.Sent,s.Again,s.Done):=by
 unfold fV
 have e:cpy (List.replicate s.Pieces.length (⟨0,0,0,false⟩:Pc)) s.Pieces=s.Pieces:=by
  unfold cpy
  rw [List.length_replicate,List.take_length,List.drop_of_length_le (by rw [List.length_replicate]; exact Nat.le_refl _),List.append_nil]
 rw [made_ok (by omega) (by omega) (by omega),bnoS,Int.toNat_natCast,bndD,e,iclone2 hl,bnoS]
theorem lost23 {s:S23} (h:G s):nF s=some true:=by
 have hl:=h.ll
 unfold nF
 rw [yU (by omega) h.lv,bnoS]
 simp only [bndD,decide_true,Bool.not_true,bC]
 cases hs:s.Lost with
 | nil=>rfl
 | cons x r =>
   obtain ⟨p,y,hy⟩:∃ p y,x::r=p++[y]:=by
    rcases List.eq_nil_or_concat (x::r) with h | ⟨p,y,h⟩
    · cases h
    · exact ⟨p,y,by rw [h,List.concat_eq_append]⟩
   have hlen:((x::r).length:Int)=(p.length:Int)+1:=by rw [hy]; simp
   have hpl:p.length≤5000:=by rw [hs,hy] at hl; simp at hl; omega
   have hw:IntKind.wrap .i64 (((x::r).length:Int)-1)=(p.length:Int):=by rw [hlen,w64 (by omega) (by omega)]; omega
   have hg:gix (x::r) (p.length:Int)=some y:=dP (r:=[]) hy
   have h0:gix (x::r) 0=some x:=rfl
   have hx:=h.lb x (by rw [hs]; simp)
   have hyb:=h.lb y (by rw [hs,hy]; simp)
   simp only [decide_eq_false (show ¬((x::r).length:Int)=0 by omega),beq_self_eq_true,gdtt,h0,bnoS,decide_eq_true hx.1,Bool.and_self,hw,hg,decide_eq_true hyb.2,Bool.or_true]
theorem fits23 {s:S23} (h:G s) {p:Pc} (hp:p∈s.Pieces) {at_:Int} (ha:at_≤p.From):nG s p at_=some true:=by
 obtain ⟨⟨a1,a2,a3⟩,a4,a5⟩:=h.pb p hp
 obtain ⟨n1,n2,n3,n4⟩:=h.num
 have hl:=h.ll
 unfold nG nE gL
 simp only [bndD,decide_eq_false (show ¬p.From<at_ by omega),decide_eq_false (show ¬p.To<p.From by omega),decide_eq_false (show ¬s.Next<p.To by omega),Bool.or_self,beq_self_eq_true,gdtt,decide_eq_true a4,decide_eq_true a5,Bool.and_self,bnoS,Bool.not_true,bC]
 by_cases he:p.From=p.To
 · rw [decide_eq_true he,bH,h.pf p hp he]
 · rw [decide_eq_false he,bC,gaps_eq (x:=(⟨p.From,p.To⟩:Iv)) (by omega) h.lv (by show p.From<p.To; omega) (by show 0≤p.From; omega) (by show p.To≤_; omega) (h.pd p hp),bnoS,isame (by simp),bnoS,decide_eq_true rfl]
theorem tU (l m:List Pc):fins (l++m)=fins l+fins m:=by unfold fins; rw [List.filter_append,List.length_append]
theorem aGf {s:S23} (h:G s):∀ (r p:List Pc) (f:Nat),s.Pieces=p++r→r.length<f→eS s f (fins p:Int) (p.length:Int)=some true
 | [],p,f+1,hs,_=>by
   unfold eS
   rw [List.append_nil] at hs
   have hc:=h.fc
   rw [hs] at hc
   simp only [bndD,show decide ((p.length:Int)<(s.Pieces.length:Int))=false by rw [hs]; exact rX,bC]
   cases hS:s.Sent
   · obtain ⟨h1,h2⟩:=h.ns hS
     rw [hS] at hc
     simp at hc
     simp [hc,h1,h2]
   · obtain ⟨h1,h2,h3⟩:=h.se hS
     rw [hS] at hc
     simp only [h1,Bool.not_true,bC,beq_self_eq_true,gdtt,sC h,bnoS,decide_eq_true h2,Bool.or_self,Bool.false_or]
     cases hA:s.Again <;> cases hD:s.Done <;> rw [hA,hD] at hc h3 <;> simp at hc h3 <;> simp [hc]
 | x :: r,p,f+1,hs,hf=>by
   have hx:x∈s.Pieces:=by rw [hs]; simp
   have hpl:=h.pl
   have hpp:p.length+(r.length+1)=s.Pieces.length:=by rw [hs]; simp
   have hfl:fins p≤p.length:=List.length_filter_le _ _
   have ih:=aGf h r (p++[x]) f (pV hs) (by simpa using hf)
   rw [tU] at ih
   unfold eS
   simp only [bndD,jC hs,bH,dP hs,bnoS,sC h,w_at hs (show s.Pieces.length≤1000000 by omega)]
   cases hF:x.Fin
   · rw [bC]
     have:fins [x]=0:=by simp [fins,hF]
     rw [this] at ih; exact ih
   · have:fins [x]=1:=by simp [fins,hF]
     rw [this] at ih
     rw [bH,decide_eq_true (h.fe x hx hF),Bool.not_true,bC,w64 (by omega) (by omega)]
     exact ih
theorem aDu {s:S23} (h:G s):∀ (r p:List Pc) (f:Nat) (at_:Int),s.Pieces=p++r→r.length<f→(∀ q∈r,at_≤q.From)→jY s f at_ (p.length:Int)=some 0
 | [],p,f+1,at_,hs,_,_=>by
   unfold jY
   have he:=aGf h s.Pieces [] fuel rfl (dN (by have:=h.pl; omega))
   have he:pE s=some true:=he
   simp only [bndD,jO hs,bC,he,bnoS,Bool.not_true]
 | x::r,p,f+1,at_,hs,hf,ha=>by
   have hx:x∈s.Pieces:=by rw [hs]; simp
   have hpl:=h.pl
   unfold jY
   simp only [bndD,jC hs,bH,dP hs,bnoS,fits23 h hx (ha x (by simp)),Bool.not_true,bC,w_at hs (show s.Pieces.length≤1000000 by omega)]
   refine aDu h r (p++[x]) f x.To (pV hs) (by simpa using hf) (fun q hq=>?_)
   have:=h.pw
   rw [hs] at this
   exact (List.pairwise_cons.1 (List.pairwise_append.1 this).2.1).1 q hq
theorem vB {s:S23} (h:G s):lQ s=some 0:=by
 obtain ⟨n1,n2,n3,n4⟩:=h.num
 have hd:=h.dl
 have e:endS s=s.Base+(s.Data.length:Int):=rfl
 unfold lQ lY
 simp only [bndD,decide_eq_false (show ¬s.Base<0 by omega),decide_eq_false (show ¬1099511623680<s.Base by omega),decide_eq_false (show ¬s.Next<s.Base by omega),w64 (show -9223372036854775808≤s.Next-s.Base by omega) (by omega),decide_eq_false (show ¬(s.Data.length:Int)<s.Next-s.Base by omega),decide_eq_false (show ¬(4096:Int)<(s.Data.length:Int) by omega),bC,lost23 h,bnoS,Bool.not_true]
 exact aDu h s.Pieces [] fuel s.Base rfl (dN (by have:=h.pl; omega)) (fun q hq=>(h.pb q hq).1.1)
def new23:S23:=⟨0,[],0,[],[],false,false,false,false⟩
theorem g_new:G new23:=⟨by decide,by decide,by decide,by decide,by decide,VS.nil,fun _ h=>(List.not_mem_nil h).elim,.nil,fun _ h=>(List.not_mem_nil h).elim,fun _ h=>(List.not_mem_nil h).elim,fun _ h=>(List.not_mem_nil h).elim,fun _ h=>(List.not_mem_nil h).elim,rfl,fun h=>(by cases h),fun _=>⟨rfl,rfl⟩,fun n h1 h2=>by have h1:(0:Int)≤n:=h1; have h2:n<0:=h2; omega⟩
def sO (s:S23):Int:=if s.Closed=true then 0 else 4096-(s.Data.length:Int)
theorem room23 {s:S23} (h:G s):uJ s=some (sO s):=by
 have hd:=h.dl
 unfold uJ sO
 cases s.Closed
 · rw [bC,bndD,w64 (by omega) (by omega)]; rfl
 · rfl
def writeN (s:S23) (str:List UInt8):Nat:=if endS s≤1099511623680-min (sO s) (str.length:Int) then (min (sO s) (str.length:Int)).toNat else 0
def zY (s:S23) (str:List UInt8):S23:=⟨s.Base,s.Data++str.take (writeN s str),s.Next,s.Pieces,s.Lost,s.Closed,s.Sent,s.Again,s.Done⟩
theorem vC {s:S23} (h:G s):0≤sO s∧sO s≤4096-(s.Data.length:Int):=by
 have hd:=h.dl
 unfold sO; split <;> omega
theorem aEX {s:S23} (h:G s) (str:List UInt8):(writeN s str:Int)≤sO s∧writeN s str≤str.length:=by
 have:=vC h
 unfold writeN; split <;> omega
theorem write23 {s:S23} (h:G s) (str:List UInt8) (hs:str.length≤100000):sM s str=some (zY s str,(writeN s str:Int)):=by
 have hp:=h.pl
 have hl:=h.ll
 have hr:=vC h
 have hd:=h.dl
 obtain ⟨n1,n2,n3,n4⟩:=h.num
 unfold sM
 rw [aCQ (by omega) (by omega),bnoS,vB h,bnoS]
 simp only [bndD,decide_true,Bool.not_true,bC,room23 h,bnoS,sC h,w64 (show -9223372036854775808≤1099511623680-min (sO s) (str.length:Int) by omega) (by omega)]
 unfold zY writeN
 by_cases hc:endS s≤1099511623680-min (sO s) (str.length:Int)
 · rw [decide_eq_false (by omega),bC,if_pos hc]
   obtain ⟨k,hk⟩:∃ k:Nat,min (sO s) (str.length:Int)=(k:Int):=⟨(min (sO s) (str.length:Int)).toNat,by omega⟩
   have hkl:k≤str.length:=by omega
   have hcat:cat s.Data (str.take k)=some (s.Data++str.take k):=by unfold cat; rw [if_pos (by rw [List.length_take]; omega)]
   rw [hk,aDr hkl,bnoS,hcat,bnoS,Int.toNat_natCast]
 · rw [decide_eq_true (by omega),bH,if_neg hc]
   simp
theorem g_write {s : S23} (h : G s) (str : List UInt8) : G (zY s str):=by
 obtain ⟨k1,k2⟩:=aEX h str
 have hr:=vC h
 obtain ⟨n1,n2,n3,n4⟩:=h.num
 have hd:=h.dl
 have hdl:(zY s str).Data.length=s.Data.length+writeN s str:=by show (s.Data++str.take _).length=_; rw [List.length_append,List.length_take]; omega
 have he:endS (zY s str)=endS s+writeN s str:=by unfold endS; rw [hdl]; show s.Base+_=_; omega
 have hen:endS s+writeN s str≤1099511623680:=by unfold writeN; split <;> omega
 have hcl : s.Closed = true → writeN s str = 0 := fun hc => by have:sO s=0:=by unfold sO; rw [if_pos hc]
                                                               omega
 refine ⟨h.b0,h.bn,by rw [he]; show s.Next≤_; omega,by rw [he]; exact hen,by rw [hdl]; omega,h.lv,h.lb,h.pw,h.pb,h.pf,h.pd,fun p hp hF=>?_,h.fc,fun hS=>?_,h.ns,h.cov⟩
 · rw [he,h.fe p hp hF]
   have:s.Sent=true:=by
    cases hS:s.Sent
    · have hc:=h.fc
      rw [hS] at hc; simp at hc
      have:p∈s.Pieces.filter (·.Fin):=List.mem_filter.2 ⟨hp,hF⟩
      rw [List.length_eq_zero_iff.1 hc] at this
      exact (List.not_mem_nil this).elim
    · rfl
   rw [hcl (h.se this).1]; omega
 · obtain ⟨a1,a2,a3⟩:=h.se hS
   refine ⟨a1,?_,a3⟩
   rw [he,hcl a1]; show s.Next=_; omega
def aBT (s:S23):S23:=⟨s.Base,s.Data,s.Next,s.Pieces,s.Lost,true,s.Sent,s.Again,s.Done⟩
theorem close23 {s:S23} (h:G s):sN s=some (aBT s):=by
 have hp:=h.pl
 have hl:=h.ll
 unfold sN aBT
 rw [aCQ (by omega) (by omega),bnoS]
 simp only [bndD,vB h]
 cases s.Closed
 · simp only [beq_self_eq_true,gdtt,bnoS,decide_true,Bool.or_true]
 · simp only [tf,gdff,bnoS,Bool.true_or]
theorem g_close {s:S23} (h:G s):G (aBT s):=⟨h.b0,h.bn,h.nd,h.en,h.dl,h.lv,h.lb,h.pw,h.pb,h.pf,h.pd,h.fe,h.fc,fun hS=>⟨rfl,(h.se hS).2⟩,h.ns,h.cov⟩
end Go.Fn
open Go Go.IL
namespace Go.Fn
def dueS (s:S23):Bool:=if (!s.Closed||s.Done)=true then false else s.Again || !s.Sent
theorem due23 (s:S23):mT s=some (dueS s):=by
 unfold mT dueS
 simp only [bndD]
 cases !s.Closed||s.Done <;> rfl
theorem aGg {s:S23} (h:dueS s=true):s.Closed=true∧s.Done=false∧(s.Again=true∨s.Sent=false):=by
 unfold dueS at h
 cases hC:s.Closed <;> cases hD:s.Done <;> rw [hC,hD] at h <;> simp at h
 exact ⟨rfl,rfl,by simpa using h⟩
def gJ (s:S23) (most limit:Int):Pc×Bool:=match s.Lost with
 | x::_=>(⟨x.From,x.From+min most (x.To-x.From),0,false⟩,true)
 | []=>if 0<endS s-s.Next then (⟨s.Next,s.Next+min (min (endS s-s.Next) most) (max limit s.Next-s.Next),0,false⟩,decide (0<min (min (endS s-s.Next) most) (max limit s.Next-s.Next))) else (⟨s.Next,s.Next,0,false⟩,dueS s)
theorem aEx {s:S23} (h:G s) {most limit:Int} (hm:1≤most∧most≤9223372036854775807) (hl:0≤limit∧limit≤4398046511104):lP s most limit=some (gJ s most limit):=by
 obtain ⟨n1,n2,n3,n4⟩:=h.num
 unfold lP gJ
 cases hs:s.Lost with
 | cons x r =>
   have hx:x∈s.Lost:=by rw [hs]; simp
   have a1:=h.lv.ne x hx
   have a2:=h.lb x hx
   have h0:gix (x::r) 0=some x:=rfl
   simp only [bndD,decide_eq_true (show (0:Int)<((x::r).length:Int) by simp only [List.length_cons]; omega),bH,h0,bnoS,w64 (show -9223372036854775808≤x.To-x.From by omega) (by omega),w64 (show -9223372036854775808≤x.From+min most (x.To-x.From) by omega) (by omega)]
 | nil =>
   simp only [bndD,List.length_nil,show decide ((0:Int)<((0:Nat):Int))=false from rfl,bC,sC h,bnoS,w64 (show -9223372036854775808≤endS s-s.Next by omega) (by omega)]
   by_cases hc:0<endS s-s.Next
   · rw [decide_eq_true hc,bH,if_pos hc,w64 (show -9223372036854775808≤max limit s.Next-s.Next by omega) (by omega),w64 (show -9223372036854775808≤s.Next+min (min (endS s-s.Next) most) (max limit s.Next-s.Next) by omega) (by omega)]
   · rw [decide_eq_false hc,bC,if_neg hc,due23,bnoS]
def before (p q:Pc):Bool:=decide (p.From<q.From)||(decide (q.From=p.From)&&decide (p.To≤q.To))
theorem place23 {s:S23} (h:G s) (p:Pc) (hp:p.From≤endS s) (hp2:p.From=endS s→p.To≤endS s):∃ A B:List Pc,s.Pieces=A++B∧(∀ a∈A,before p a=false)∧(∀ b B',B=b::B'→before p b=true)∧mQ s p=some (A.length:Int):=by
 obtain ⟨n1,n2,n3,n4⟩:=h.num
 have hpl:=h.pl
 have hsent:before p (⟨endS s,endS s+1,0,false⟩:Pc)=true:=by
  unfold before
  by_cases he:p.From=endS s
  · have:=hp2 he
    simp [he]; omega
  · simp; left; omega
 rcases aAW (L:=bO (s.Pieces++[(⟨endS s,endS s+1,0,false⟩:Pc)]) p) (q:=before p) (l:=s.Pieces++[(⟨endS s,endS s+1,0,false⟩:Pc)]) (fun p' x r f hh=>by
  rw [bO]
  have hx:mV x p=some (before p x):=rfl
  simp only [bndD,jC hh,bH,dP hh,bnoS,hx,w_at hh (by simp; omega)]) (fun f=>by
  rw [bO]
  simp only [bndD,rX,bC]) (s.Pieces++[(⟨endS s,endS s+1,0,false⟩:Pc)]) [] fuel rfl (dN (by simp; omega)) (fun _ h=>(List.not_mem_nil h).elim) with ⟨_,e2⟩ | ⟨a,x,t,e1,e2,e3,e4⟩
 · have:=e2 _ (List.mem_append.2 (.inr (List.mem_singleton.2 rfl)))
   rw [hsent] at this; cases this
 · have hal:a.length≤s.Pieces.length:=by have:=congrArg List.length e1; simp at this; omega
   have hA:a=s.Pieces.take a.length:=by
    have:=congrArg (List.take a.length) e1
    rw [List.take_append_of_le_length hal,List.take_append_of_le_length (Nat.le_refl _),List.take_length] at this
    exact this.symm
   refine ⟨a,s.Pieces.drop a.length,by conv=>lhs; rw [←List.take_append_drop a.length s.Pieces,←hA],e2,fun b B' hb=>?_,?_⟩
   · have h5:(s.Pieces++[(⟨endS s,endS s+1,0,false⟩:Pc)])[a.length]? = some x:=by rw [e1,List.getElem?_append_right (Nat.le_refl _)]; simp
     have hlt:a.length<s.Pieces.length:=by
      have:=congrArg List.length hb
      rw [List.length_drop,List.length_cons] at this; omega
     rw [List.getElem?_append_left hlt] at h5
     have h6:(s.Pieces.drop a.length)[0]? = some x:=by rw [List.getElem?_drop]; simpa using h5
     rw [hb] at h6
     have:b=x:=by simpa using h6
     rw [this]; exact e3
   · unfold mQ dG
     have hc:=aDr (l:=s.Pieces) (Nat.le_refl _)
     rw [List.take_length] at hc
     simp only [bndD,hc,bnoS,sC h,w64 (show -9223372036854775808≤endS s+1 by omega) (by omega)]
     rw [gZ (by simp; omega) (by simp; omega),bnoS]
     have e4:bO (s.Pieces++[(⟨endS s,endS s+1,0,false⟩:Pc)]) p fuel 0=_:=e4
     rw [e4,bnoS]
structure Pk (s:S23) (p:Pc) (lost:List Iv):Prop where
 lo:s.Base≤p.From
 le:p.From≤p.To
 nx:p.From≤s.Next
 hi:p.To≤endS s
 pa:0≤p.Path∧p.Path<4
 em:p.From=p.To→p.From=s.Next∧p.Fin=true
 dj:∀ q∈s.Pieces,∀ n,p.From≤n→n<p.To→¬ (q.From≤n∧n<q.To)
 fi:p.Fin=(decide (p.To=endS s)&&dueS s)
 lv:VS lost
 lb:∀ x∈lost,s.Base≤x.From∧x.To≤s.Next
 lm:∀ n,mem n lost↔mem n s.Lost∧¬ (p.From≤n∧n<p.To)
def aAA (s:S23) (p:Pc) (lost:List Iv) (A B:List Pc):S23:=⟨s.Base,s.Data,max s.Next p.To,A++[p]++B,lost,s.Closed,if p.Fin=true then true else s.Sent,if p.Fin=true then false else s.Again,s.Done⟩
theorem g_pick {s:S23} (h:G s) {p:Pc} {lost:List Iv} {A B:List Pc} (k:Pk s p lost) (hs:s.Pieces=A++B) (hA:∀ a∈A,before p a=false) (hB:∀ b B',B=b::B'→before p b=true):G (aAA s p lost A B):=by
 obtain ⟨n1,n2,n3,n4⟩:=h.num
 have he:endS (aAA s p lost A B)=endS s:=rfl
 have hmem:∀ q,q∈A++[p]++B↔q=p∨q∈s.Pieces:=fun q=>by
  rw [hs]; simp only [List.mem_append,List.mem_singleton]
  constructor
  · rintro ((h1 | h1) | h1)
    · exact .inr (.inl h1)
    · exact .inl h1
    · exact .inr (.inr h1)
  · rintro (h1 | h1 | h1)
    · exact .inl (.inr h1)
    · exact .inl (.inl h1)
    · exact .inr h1
 have k1:=k.lo; have k2:=k.le; have k3:=k.nx; have k4:=k.hi
 have hap:∀ a∈A,a.To≤p.From:=fun a ha=>by
  have hb:=hA a ha
  have ham:a∈s.Pieces:=by rw [hs]; simp [ha]
  have hpb:=(h.pb a ham).1
  unfold before at hb
  simp only [Bool.or_eq_false_iff,Bool.and_eq_false_iff,decide_eq_false_iff_not] at hb
  obtain ⟨b1,b2⟩:=hb
  by_cases hpe:p.From=p.To
  · have:=(k.em hpe).1; omega
  · by_cases hae:a.From=a.To
    · omega
    · have:=k.dj a ham (max p.From a.From) (by omega)
      by_cases hc:a.To≤p.From
      · exact hc
      · exfalso; exact this (by omega) ⟨by omega,by omega⟩
 have hpb:∀ b∈B,p.To≤b.From:=fun b hb=>by
  cases hBB:B with
  | nil=>rw [hBB] at hb; exact (List.not_mem_nil hb).elim
  | cons b0 B' =>
    have hb0:=hB b0 B' hBB
    have hbm:b0∈s.Pieces:=by rw [hs,hBB]; simp
    have hbb:=(h.pb b0 hbm).1
    have key:p.To≤b0.From:=by
     unfold before at hb0
     simp only [Bool.or_eq_true,Bool.and_eq_true,decide_eq_true_iff] at hb0
     by_cases hpe:p.From=p.To
     · omega
     · by_cases hbe:b0.From=b0.To
       · have:=h.fe b0 hbm (h.pf b0 hbm hbe); omega
       · have:=k.dj b0 hbm (max p.From b0.From) (by omega)
         by_cases hc:p.To≤b0.From
         · exact hc
         · exfalso; exact this (by omega) ⟨by omega,by omega⟩
    rw [hBB] at hb
    rcases List.mem_cons.1 hb with rfl | hb
    · exact key
    · have:=h.pw
      rw [hs,hBB] at this
      have:=(List.pairwise_cons.1 (List.pairwise_append.1 this).2.1).1 b hb
      omega
 have hpw:=List.pairwise_append.1 (hs ▸ h.pw)
 refine ⟨h.b0,by show s.Base≤max s.Next p.To; omega,by rw [he]; show max s.Next p.To≤_; omega,h.en,h.dl,k.lv,fun x hx=>⟨(k.lb x hx).1,by have:=(k.lb x hx).2; show x.To≤max s.Next p.To; omega⟩,?_,fun q hq=>?_,fun q hq hqe=>?_,fun q hq n h1 h2=>?_,fun q hq hF=>?_,?_,fun hS=>?_,fun hS=>?_,fun n h1 h2=>?_⟩
 · show (A++[p]++B).Pairwise _
   rw [List.pairwise_append,List.pairwise_append]
   refine ⟨⟨hpw.1,by simp,fun a ha b hb=>?_⟩,hpw.2.1,fun a ha b hb=>?_⟩
   · rw [List.mem_singleton.1 hb]; exact hap a ha
   · rcases List.mem_append.1 ha with ha | ha
     · exact hpw.2.2 a ha b hb
     · rw [List.mem_singleton.1 ha]; exact hpb b hb
 · rcases (hmem q).1 hq with rfl | hq
   · exact ⟨⟨k1,k2,by show q.To≤max s.Next q.To; omega⟩,k.pa⟩
   · obtain ⟨⟨a1,a2,a3⟩,a4⟩:=h.pb q hq
     exact ⟨⟨a1,a2,by show q.To≤max s.Next p.To; omega⟩,a4⟩
 · rcases (hmem q).1 hq with rfl | hq
   · exact (k.em hqe).2
   · exact h.pf q hq hqe
 · rcases (hmem q).1 hq with rfl | hq
   · intro hm; exact ((k.lm n).1 hm).2 ⟨h1,h2⟩
   · intro hm; exact h.pd q hq n h1 h2 ((k.lm n).1 hm).1
 · rcases (hmem q).1 hq with rfl | hq
   · rw [k.fi,Bool.and_eq_true,decide_eq_true_iff] at hF; exact hF.1
   · exact h.fe q hq hF
 · show fins (A++[p]++B)=_
   have hf:fins (A++[p]++B)=fins s.Pieces+if p.Fin=true then 1 else 0:=by
    rw [hs,tU,tU,tU]
    have:fins [p]=if p.Fin=true then 1 else 0:=by unfold fins; rw [List.filter_cons]; split <;> rfl
    rw [this]; omega
   rw [hf,h.fc]
   unfold aAA
   cases hF:p.Fin
   · simp
   · have hd:=k.fi
     rw [hF] at hd
     have hd2:=aGg (Bool.and_eq_true _ _ |>.mp hd.symm).2
     simp only [if_true]
     rw [if_neg (by rintro ⟨x1,x2,x3⟩; rcases hd2.2.2 with x4 | x4 <;> simp_all),if_pos (by simp [hd2.2.1])]
 · rw [he]
   cases hF:p.Fin
   · have hS:s.Sent=true:=by have:(if p.Fin=true then true else s.Sent)=true:=hS; rwa [hF] at this
     obtain ⟨a1,a2,a3⟩:=h.se hS
     refine ⟨a1,by show max s.Next p.To=_; omega,?_⟩
     show ¬((if p.Fin=true then false else s.Again)=true∧s.Done=true)
     rw [hF]; exact a3
   · have hd:=k.fi
     rw [hF] at hd
     have hd1:=Bool.and_eq_true _ _ |>.mp hd.symm
     have hd2:=aGg hd1.2
     refine ⟨hd2.1,by have:=of_decide_eq_true hd1.1; show max s.Next p.To=_; omega,?_⟩
     show ¬((if p.Fin=true then false else s.Again)=true∧s.Done=true)
     rw [hF]; simp
 · have hS:(if p.Fin=true then true else s.Sent)=false:=hS
   cases hF:p.Fin
   · rw [hF] at hS
     have:=h.ns (by simpa using hS)
     refine ⟨?_,this.2⟩
     show (if p.Fin=true then false else s.Again)=false
     rw [hF]; exact this.1
   · rw [hF] at hS; cases hS
 · have h2:n<max s.Next p.To:=h2
   by_cases hp:p.From≤n∧n<p.To
   · exact .inr ⟨p,(hmem p).2 (.inl rfl),hp⟩
   · rcases h.cov n h1 (by omega) with hm | ⟨q,hq,hqn⟩
     · exact .inl ((k.lm n).2 ⟨hm,hp⟩)
     · exact .inr ⟨q,(hmem q).2 (.inr hq),hqn⟩
def dF (s:S23) (by_ most limit:Int):Pc:=⟨(gJ s most limit).1.From,(gJ s most limit).1.To,by_,decide ((gJ s most limit).1.To=endS s)&&dueS s⟩
def tP (s:S23) (p:Pc):List Iv:=if p.To≤p.From then s.Lost else cutS s.Lost ⟨p.From,p.To⟩
theorem pk_of {s:S23} (h:G s) {by_ most limit:Int} (hb:0≤by_∧by_<4) (hm:1≤most∧most≤9223372036854775807) (hl:0≤limit∧limit≤4398046511104) (his:(gJ s most limit).2=true):Pk s (dF s by_ most limit) (tP s (dF s by_ most limit)):=by
 obtain ⟨n1,n2,n3,n4⟩:=h.num
 have hlost:∀ p:Pc,p.From≤p.To→VS (tP s p)∧(∀ x∈tP s p,s.Base≤x.From∧x.To≤s.Next)∧∀ n,mem n (tP s p)↔mem n s.Lost∧¬ (p.From≤n∧n<p.To):=fun p hp=>by
  unfold tP
  by_cases hc:p.To≤p.From
  · rw [if_pos hc]
    exact ⟨h.lv,h.lb,fun n=>⟨fun hm=>⟨hm,by omega⟩,fun hm=>hm.1⟩⟩
  · rw [if_neg hc]
    have hx:(⟨p.From,p.To⟩:Iv).From<(⟨p.From,p.To⟩:Iv).To:=by show p.From<p.To; omega
    refine ⟨aDO h.lv hx,fun x hxm=>?_,fun n=>aB0 hx⟩
    obtain ⟨y,hy,a1,a2,a3,_⟩:=vM hxm
    have:=h.lb y hy
    omega
 unfold dF
 unfold gJ at his ⊢
 cases hs:s.Lost with
 | cons x r =>
   simp only []
   have hx:x∈s.Lost:=by rw [hs]; simp
   have a1:=h.lv.ne x hx
   have a2:=h.lb x hx
   have hle:x.From≤x.From+min most (x.To-x.From):=by omega
   obtain ⟨b1,b2,b3⟩:=hlost ⟨x.From,x.From+min most (x.To-x.From),by_,decide (x.From+min most (x.To-x.From)=endS s)&&dueS s⟩ hle
   refine ⟨a2.1,hle,by show x.From≤s.Next; omega,by show x.From+min most (x.To-x.From)≤_; omega,hb,fun he=>?_,fun q hq n h1 h2 hqn=>?_,rfl,b1,b2,b3⟩
   · have he:x.From=x.From+min most (x.To-x.From):=he
     omega
   · have h1:x.From≤n:=h1
     have h2:n<x.From+min most (x.To-x.From):=h2
     exact h.pd q hq n hqn.1 hqn.2 ⟨x,hx,h1,by omega⟩
 | nil =>
   rw [hs] at his
   simp only [] at his ⊢
   by_cases hc:0<endS s-s.Next
   · rw [if_pos hc] at his
     simp only [if_pos hc]
     have hn:=of_decide_eq_true his
     have hle:s.Next≤s.Next+min (min (endS s-s.Next) most) (max limit s.Next-s.Next):=by omega
     obtain ⟨b1,b2,b3⟩:=hlost ⟨s.Next,s.Next+min (min (endS s-s.Next) most) (max limit s.Next-s.Next),by_,decide (s.Next+min (min (endS s-s.Next) most) (max limit s.Next-s.Next)=endS s)&&dueS s⟩ hle
     refine ⟨n2,hle,Int.le_refl _,by show s.Next+min (min (endS s-s.Next) most) (max limit s.Next-s.Next)≤_; omega,hb,fun he=>?_,fun q hq n h1 h2 hqn=>?_,rfl,b1,b2,b3⟩
     · have he:s.Next=s.Next+min (min (endS s-s.Next) most) (max limit s.Next-s.Next):=he
       omega
     · have h1:s.Next≤n:=h1
       have:=(h.pb q hq).1; omega
   · rw [if_neg hc] at his
     simp only [if_neg hc]
     have hd:dueS s=true:=his
     have hne:s.Next=endS s:=by omega
     obtain ⟨b1,b2,b3⟩:=hlost ⟨s.Next,s.Next,by_,decide (s.Next=endS s)&&dueS s⟩ (Int.le_refl _)
     refine ⟨n2,Int.le_refl _,Int.le_refl _,by show s.Next≤_; omega,hb,fun he=>⟨rfl,by show (decide (s.Next=endS s)&&dueS s)=true; rw [hd,decide_eq_true hne]; rfl⟩,fun q hq n h1 h2 hqn=>?_,rfl,b1,b2,b3⟩
     have h1:s.Next≤n:=h1
     have h2:n<s.Next:=h2
     omega
theorem aBi {s:S23} (h:G s) {by_ most limit:Int} (hb:0≤by_∧by_<4) (hm:most≤9223372036854775807) (hl:0≤limit∧limit≤4398046511104) (his:most<1∨(gJ s most limit).2=false):nH s by_ most limit=some (s,⟨0,0,0,false⟩,[],false):=by
 have hp:=h.pl
 have hll:=h.ll
 unfold nH nE
 rw [aCQ (by omega) (by omega),bnoS]
 simp only [bndD,decide_eq_true hb.1,decide_eq_true hb.2,Bool.and_self,bnoS,Bool.not_true,Bool.false_or]
 by_cases h1:most<1
 · rw [decide_eq_true h1]
   simp only [tf,gdff,bnoS,Bool.true_or,bH]
 · rw [decide_eq_false h1]
   have h2:(gJ s most limit).2=false:=by rcases his with h2 | h2; exact absurd h2 h1; exact h2
   simp only [beq_self_eq_true,gdtt,vB h,bnoS,decide_true,Bool.not_true,Bool.or_self,bC,aEx h ⟨by omega,hm⟩ hl,h2,Bool.not_false,bH]
theorem aDd {s:S23} (h:G s) {by_ most limit:Int} (hb:0≤by_∧by_<4) (hm:1≤most∧most≤9223372036854775807) (hl:0≤limit∧limit≤4398046511104) (his:(gJ s most limit).2=true) :
 ∃ A B:List Pc,s.Pieces=A++B∧G (aAA s (dF s by_ most limit) (tP s (dF s by_ most limit)) A B) ∧
   nH s by_ most limit=some (aAA s (dF s by_ most limit) (tP s (dF s by_ most limit)) A B,dF s by_ most limit,(s.Data.take ((dF s by_ most limit).To-s.Base).toNat).drop ((dF s by_ most limit).From-s.Base).toNat,true):=by
 obtain ⟨n1,n2,n3,n4⟩:=h.num
 have hp:=h.pl
 have hll:=h.ll
 have k:=pk_of h hb hm hl his
 have k1:=k.lo; have k2:=k.le; have k3:=k.nx; have k4:=k.hi
 obtain ⟨A,B,e1,e2,e3,e4⟩:=place23 h (dF s by_ most limit) (by omega) (fun _=>k4)
 have hg:=g_pick h k e1 e2 e3
 refine ⟨A,B,e1,hg,?_⟩
 have hAl:A.length≤s.Pieces.length:=by rw [e1]; simp
 have hcut:cut s.Data ((dF s by_ most limit).From-s.Base) ((dF s by_ most limit).To-s.Base)=some ((s.Data.take ((dF s by_ most limit).To-s.Base).toNat).drop ((dF s by_ most limit).From-s.Base).toNat):=by
  unfold cut; rw [if_pos (by unfold endS at k4; omega)]
 have hJ1:∀ (p:Pc) (S1 A1:Bool) (L:List Iv),p=dF s by_ most limit→lV s by_ (s.Base,s.Data,s.Next,s.Pieces,s.Lost,s.Closed,s.Sent,s.Again,s.Done) (gJ s most limit) (max s.Next (gJ s most limit).1.To) L S1 A1 p.Fin =
  some (⟨s.Base,s.Data,max s.Next p.To,A++[p]++B,L,s.Closed,S1,A1,s.Done⟩,p,(s.Data.take (p.To-s.Base).toNat).drop (p.From-s.Base).toNat,true):=fun p S1 A1 L hp'=>by
  have hpe:(⟨(gJ s most limit).1.From,(gJ s most limit).1.To,by_,p.Fin⟩:Pc)=p:=by rw [hp']; rfl
  have hto:(gJ s most limit).1.To=p.To:=by rw [hp']; rfl
  have hpe2:(⟨p.From,p.To,by_,p.Fin⟩:Pc)=p:=by rw [hp']; rfl
  have hfr:(gJ s most limit).1.From=p.From:=by rw [hp']; rfl
  rw [←hp'] at e4 hcut k1 k2 k3 k4
  unfold lV
  simp only [hpe,hto,hfr,hpe2,e4,bnoS,fN]
  rw [insS_ok (by omega) (by omega) (by simp; omega) (by simp; omega),bnoS]
  simp only [bndD,w64 (show -9223372036854775808≤p.From-s.Base by omega) (by omega),w64 (show -9223372036854775808≤p.To-s.Base by omega) (by omega),hcut,bnoS,Int.toNat_natCast]
  rw [show s.Pieces.take A.length=A by rw [e1]; simp,show s.Pieces.drop A.length=B by rw [e1]; simp]
 have hJ0:∀ L:List Iv,oV s by_ (s.Base,s.Data,s.Next,s.Pieces,s.Lost,s.Closed,s.Sent,s.Again,s.Done) (gJ s most limit) (max s.Next (gJ s most limit).1.To) L =
  some (⟨s.Base,s.Data,max s.Next (dF s by_ most limit).To,A++[dF s by_ most limit]++B,L,s.Closed,if (dF s by_ most limit).Fin=true then true else s.Sent,if (dF s by_ most limit).Fin=true then false else s.Again,s.Done⟩,dF s by_ most limit,(s.Data.take ((dF s by_ most limit).To-s.Base).toNat).drop ((dF s by_ most limit).From-s.Base).toNat,true):=fun L=>by
  have hfin:∀ {β:Type} (g:Bool→Option β),(bno (gd (decide ((gJ s most limit).1.To=endS s) == true) (some (dueS s)) default) fun x32=>g (decide ((gJ s most limit).1.To=endS s)&&x32))=g (dF s by_ most limit).Fin:=fun g=>by
   show _=g (decide ((gJ s most limit).1.To=endS s)&&dueS s)
   cases decide ((gJ s most limit).1.To=endS s) <;> rfl
  unfold oV
  simp only [sC h,bnoS,bndD,due23]
  rw [hfin (fun z=>bif z then lV s by_ (s.Base,s.Data,s.Next,s.Pieces,s.Lost,s.Closed,s.Sent,s.Again,s.Done) (gJ s most limit) (max s.Next (gJ s most limit).1.To) L true false z else lV s by_ (s.Base,s.Data,s.Next,s.Pieces,s.Lost,s.Closed,s.Sent,s.Again,s.Done) (gJ s most limit) (max s.Next (gJ s most limit).1.To) L s.Sent s.Again z)]
  have a1:=hJ1 _ true false L rfl
  have a2:=hJ1 _ s.Sent s.Again L rfl
  cases hF:(dF s by_ most limit).Fin
  · rw [hF] at a2; rw [bC,a2]; rfl
  · rw [hF] at a1; rw [bH,a1]; rfl
 unfold nH nE
 rw [aCQ (by omega) (by omega),bnoS]
 simp only [bndD,decide_eq_true hb.1,decide_eq_true hb.2,Bool.and_self,bnoS,Bool.not_true,Bool.false_or,decide_eq_false (show ¬most<1 by omega),beq_self_eq_true,gdtt,vB h,decide_true,Bool.or_self,bC,aEx h hm hl,his]
 unfold gL
 have hpf:(dF s by_ most limit).From=(gJ s most limit).1.From:=rfl
 have hpt:(dF s by_ most limit).To=(gJ s most limit).1.To:=rfl
 by_cases hc:(gJ s most limit).1.From<(gJ s most limit).1.To
 · rw [decide_eq_true hc,bH,bnoS]
   simp only []
   rw [aFW (x:=(⟨(gJ s most limit).1.From,(gJ s most limit).1.To⟩:Iv)) (by omega) h.lv ⟨by show 0≤(gJ s most limit).1.From; omega,by show (gJ s most limit).1.From≤_; omega,by show 0≤(gJ s most limit).1.To; omega,by show (gJ s most limit).1.To≤_; omega⟩,bnoS]
   exact hJ0 _
 · rw [decide_eq_false hc,bC]
   have hL:tP s (dF s by_ most limit)=s.Lost:=by unfold tP; rw [if_pos (by omega)]
   have:=hJ0 s.Lost
   rw [hL]
   exact this
end Go.Fn
open Go Go.IL
namespace Go.Fn
def cmap (b:Int) (fin:Bool) (p:Pc):Pc:=⟨max p.From b,max p.To b,p.Path,p.Fin && !fin⟩
def vU (p:Pc):Bool:=decide (p.From=p.To) && !p.Fin
def aA7 (l:List Iv) (b:Int):List Iv:=if b≤0 then l else cutS l ⟨0,b⟩
def aBC (s:S23) (n:Int) (fin:Bool):S23:=⟨max n s.Base,s.Data.drop (max n s.Base-s.Base).toNat,s.Next,(s.Pieces.map (cmap (max n s.Base) fin)).filter (fun p=>!vU p),aA7 s.Lost (max n s.Base),s.Closed,s.Sent,if fin=true then false else s.Again,if fin=true then true else s.Done⟩
def tG (s:S23) (n:Int) (fin:Bool):Prop:=0≤n∧n≤s.Next∧(fin=true→n=endS s∧s.Sent=true)
instance (s:S23) (n:Int) (fin:Bool):Decidable (tG s n fin):=by unfold tG; infer_instance
theorem delC {l:List Pc} (hl:l.length≤100000):cZ l=some (l.filter fun y=>!vU y) :=
 wA (P:=fun x=>rF x) (q:=vU) (I:=cM l) (L:=cA) (fun _=>rfl) (fun _ _=>rfl) (fun _ _ _ _=>rfl) hl
theorem delD {l:List Pc} {k:Int} (hl:l.length≤100000):cY l k=some (l.filter fun y=>!decide (y.Path=k)) :=
 wA (P:=fun x=>oM x k) (q:=fun y=>decide (y.Path=k)) (I:=cL l k) (L:=bZ k) (fun _=>rfl) (fun _ _=>rfl) (fun _ _ _ _=>rfl) hl
theorem set_at {α:Type} {p r:List α} {x y:α}:(p++x::r).set p.length y=p++y::r:=by rw [List.set_append_right _ _ (Nat.le_refl _)]; simp
theorem get_at {α:Type} {p r:List α} {x:α}:(p++x::r)[p.length]? = some x:=by rw [List.getElem?_append_right (Nat.le_refl _)]; simp
def tup (s:S23):(Int×(List UInt8)×Int×(List aI)×(List aG)×Bool×Bool×Bool×Bool):=(s.Base,s.Data,s.Next,s.Pieces,s.Lost,s.Closed,s.Sent,s.Again,s.Done)
theorem aGi {s:S23} (h:G s) {n:Int} {fin:Bool} (hn:tG s n fin):∀ (r p:List Pc) (f:Nat),s.Pieces=p++r→r.length<f→lW s fin (tup s) (max n s.Base) f (p.length:Int) (p.map (cmap (max n s.Base) fin)++r)=some (aBC s n fin)
 | [],p,f+1,hs,_=>by
   obtain ⟨n1,n2,n3,n4⟩:=h.num
   obtain ⟨c1,c2,c3⟩:=hn
   have hpl:=h.pl
   have hll:=h.ll
   have hlen:p.length=s.Pieces.length:=by rw [hs]; simp
   rw [List.append_nil] at hs
   unfold lW
   have hcut:cut s.Data (max n s.Base-s.Base) (s.Data.length:Int)=some (s.Data.drop (max n s.Base-s.Base).toNat):=by
    unfold cut
    unfold endS at n3
    rw [if_pos (by omega),Int.toNat_natCast,List.take_length]
   rw [List.append_nil,←hs]
   have hlt:decide ((s.Pieces.length:Int)<((tup s).2.2.2.1.length:Int))=false:=rX
   have hL:(tup s).2.2.2.2.1=s.Lost:=rfl
   simp only [bndD,hlt,bC]
   rw [delC (by rw [List.length_map]; omega),bnoS,w64 (by omega) (by omega),hcut,bnoS,hL,aFW (x:=(⟨0,max n s.Base⟩:Iv)) (by omega) h.lv ⟨Int.le_refl _,by show (0:Int)≤_; decide,by show 0≤max n s.Base; omega,by show max n s.Base≤_; omega⟩,bnoS]
   unfold aBC aA7
   cases fin <;> rfl
 | x::r,p,f+1,hs,hf=>by
   have hpl:=h.pl
   have hpp:p.length+(r.length+1)=s.Pieces.length:=by rw [hs]; simp
   have ih:=aGi h hn r (p++[x]) f (pV hs) (by simpa using hf)
   unfold lW
   have hlt:decide ((p.length:Int)<((tup s).2.2.2.1.length:Int))=true:=jC hs
   have hm:(p.map (cmap (max n s.Base) fin)).length=p.length:=List.length_map _
   have hg:∀ y:Pc,(p.map (cmap (max n s.Base) fin)++y::r)[((p.length:Int)).toNat]? = some y:=fun y=>by rw [Int.toNat_natCast,←hm]; exact get_at
   have hst:∀ y z:Pc,(p.map (cmap (max n s.Base) fin)++y::r).set ((p.length:Int)).toNat z=p.map (cmap (max n s.Base) fin)++z::r:=fun y z=>by rw [Int.toNat_natCast,←hm]; exact set_at
   have hgx:gix (p.map (cmap (max n s.Base) fin)++x::r) (p.length:Int)=some x:=by rw [←hm]; exact dP rfl
   simp only [bndD,hlt,bH,hgx,hg,hst,bnoS,w_at hs (show s.Pieces.length≤1000000 by omega)]
   rw [List.map_append,List.append_assoc] at ih
   exact ih
theorem came23 {s:S23} (h:G s) (n:Int) (fin:Bool):uL s n fin=some (if tG s n fin then aBC s n fin else s):=by
 have hp:=h.pl
 have hl:=h.ll
 unfold uL
 rw [aCQ (by omega) (by omega),bnoS,vB h,bnoS]
 simp only [bndD,decide_true,Bool.not_true,Bool.false_or]
 by_cases hc:tG s n fin
 · obtain ⟨c1,c2,c3⟩:=hc
   rw [if_pos ⟨c1,c2,c3⟩,decide_eq_false (show ¬n<0 by omega),decide_eq_false (show ¬s.Next<n by omega)]
   have:=aGi h ⟨c1,c2,c3⟩ s.Pieces [] fuel rfl (dN (by omega))
   cases fin
   · simp only [Bool.or_self,beq_self_eq_true,ft,Bool.and_false,gdff,bnoS,Bool.false_and,bC]
     exact this
   · obtain ⟨c4,c5⟩:=c3 rfl
     have hx:(!decide (n=endS s) || !s.Sent)=false:=by rw [decide_eq_true c4,c5]; rfl
     simp only [Bool.or_self,beq_self_eq_true,Bool.and_self,gdtt,sC h,bnoS,hx,Bool.and_false,bC]
     exact this
 · rw [if_neg hc]
   by_cases c1:n<0
   · rw [decide_eq_true c1]
     simp only [Bool.true_or,tf,Bool.false_and,gdff,bnoS,bH]
   · by_cases c2:s.Next<n
     · rw [decide_eq_true c2]
       simp only [Bool.or_true,Bool.true_or,tf,Bool.false_and,gdff,bnoS,bH]
     · cases fin
       · exact absurd ⟨by omega,by omega,fun h=>(by cases h)⟩ hc
       · have:(!decide (n=endS s) || !s.Sent)=true:=by
          cases hS:s.Sent
          · simp
          · by_cases c3:n=endS s
            · exact absurd ⟨by omega,by omega,fun _=>⟨c3,hS⟩⟩ hc
            · rw [decide_eq_false c3]; rfl
         rw [decide_eq_false c1,decide_eq_false c2]
         simp only [Bool.or_self,beq_self_eq_true,Bool.and_self,gdtt,sC h,bnoS,this,Bool.and_true,Bool.or_true,bH]
theorem aCS {l:List Iv} {b:Int} (hl:∀ x∈l,0≤x.From) {n:Int}:mem n (aA7 l b)↔mem n l∧b≤n:=by
 unfold aA7
 split
 · refine ⟨fun hm=>⟨hm,?_⟩,fun hm=>hm.1⟩
   obtain ⟨x,hx,h1,h2⟩:=hm
   have:=hl x hx; omega
 · rw [aB0 (by show 0<b; omega)]
   refine ⟨fun hm=>⟨hm.1,?_⟩,fun hm=>⟨hm.1,by have:=hm.2; show ¬(0≤n∧n<b); omega⟩⟩
   obtain ⟨x,hx,h1,h2⟩:=hm.1
   have:=hl x hx
   have h3:¬ (0≤n∧n<b):=hm.2
   omega
theorem aGG (b:Int) (l:List Pc):fins ((l.map (cmap b false)).filter (fun p=>!vU p))=fins l:=by
 unfold fins
 rw [List.filter_filter,List.filter_map,List.length_map]
 congr 1
 apply List.filter_congr
 intro p _
 unfold vU cmap
 cases hp:p.Fin <;> simp [hp]
theorem yZ {s:S23} {b:Int} {fin:Bool} {q:Pc} (hq:q∈(s.Pieces.map (cmap b fin)).filter (fun p=>!vU p)):∃ p∈s.Pieces,q=cmap b fin p∧(q.From=q.To→q.Fin=true):=by
 obtain ⟨h1,h2⟩:=List.mem_filter.1 hq
 obtain ⟨p,hp,rfl⟩:=List.mem_map.1 h1
 refine ⟨p,hp,rfl,fun he=>?_⟩
 unfold vU at h2
 rw [decide_eq_true he] at h2
 simpa using h2
theorem aGM {s:S23} (h:G s) {n:Int} {fin:Bool} (hc:tG s n fin):endS (aBC s n fin)=endS s:=by
 obtain ⟨n1,n2,n3,n4⟩:=h.num
 obtain ⟨c1,c2,c3⟩:=hc
 unfold endS at n3
 show max n s.Base+((s.Data.drop (max n s.Base-s.Base).toNat).length:Int)=s.Base+_
 rw [List.length_drop]; omega
theorem g_came {s:S23} (h:G s) {n:Int} {fin:Bool} (hc:tG s n fin):G (aBC s n fin):=by
 obtain ⟨n1,n2,n3,n4⟩:=h.num
 have he:=aGM h hc
 obtain ⟨c1,c2,c3⟩:=hc
 have hd:=h.dl
 refine ⟨by show 0≤max n s.Base; omega,by show max n s.Base≤s.Next; omega,by rw [he]; exact n3,by rw [he]; exact n4,by show (s.Data.drop _).length≤_; rw [List.length_drop]; omega,?_,fun x hx=>?_,?_,fun q hq=>?_,fun q hq=>?_,fun q hq m h1 h2=>?_,fun q hq hF=>?_,?_,fun hS=>?_,fun hS=>?_,fun m h1 h2=>?_⟩
 · show VS (aA7 s.Lost (max n s.Base))
   unfold aA7
   split
   · exact h.lv
   · exact aDO h.lv (by show 0<max n s.Base; omega)
 · have hx:x∈aA7 s.Lost (max n s.Base):=hx
   show max n s.Base≤x.From∧x.To≤s.Next
   unfold aA7 at hx
   split at hx
   · have:=h.lb x hx; omega
   · obtain ⟨y,hy,a1,a2,a3,a4⟩:=vM hx
     have:=h.lb y hy
     have a4:x.To≤0∨max n s.Base≤x.From:=a4
     omega
 · show ((s.Pieces.map (cmap (max n s.Base) fin)).filter (fun p=>!vU p)).Pairwise _
   refine List.Pairwise.filter _ ?_
   rw [List.pairwise_map]
   exact h.pw.imp fun {a b} hab=>by show max a.To _≤max b.From _; omega
 · obtain ⟨p,hp,rfl,_⟩:=yZ hq
   obtain ⟨⟨a1,a2,a3⟩,a4⟩:=h.pb p hp
   exact ⟨⟨by show max n s.Base≤max p.From _; omega,by show max p.From _≤max p.To _; omega,by show max p.To _≤s.Next; omega⟩,a4⟩
 · obtain ⟨p,hp,rfl,h1⟩:=yZ hq
   exact h1
 · obtain ⟨p,hp,rfl,_⟩:=yZ hq
   have h1:max p.From (max n s.Base)≤m:=h1
   have h2:m<max p.To (max n s.Base):=h2
   intro hm
   have hm:mem m (aA7 s.Lost (max n s.Base)):=hm
   exact h.pd p hp m (by omega) (by omega) ((aCS h.lv.lo).1 hm).1
 · obtain ⟨p,hp,rfl,_⟩:=yZ hq
   have hF:(p.Fin && !fin)=true:=hF
   rw [he]
   show max p.To _=_
   rw [h.fe p hp (Bool.and_eq_true _ _ |>.mp hF).1]; omega
 · show fins ((s.Pieces.map (cmap (max n s.Base) fin)).filter (fun p=>!vU p))=_
   cases fin
   · rw [aGG,h.fc]; rfl
   · have h0:fins ((s.Pieces.map (cmap (max n s.Base) true)).filter (fun p=>!vU p))=0:=by
      unfold fins
      rw [List.length_eq_zero_iff,List.filter_eq_nil_iff]
      intro q hq hF
      obtain ⟨p,hp,rfl,_⟩:=yZ hq
      have hF:(p.Fin && !true)=true:=hF
      simp at hF
     rw [h0,if_neg]
     rintro ⟨x1,x2,x3⟩
     have x3:(if true=true then true else s.Done)=false:=x3
     simp at x3
 · obtain ⟨a1,a2,a3⟩:=h.se hS
   refine ⟨a1,by rw [he]; exact a2,?_⟩
   show ¬((if fin=true then false else s.Again)=true∧(if fin=true then true else s.Done)=true)
   cases fin
   · exact a3
   · simp
 · have hS:s.Sent=false:=hS
   cases fin
   · exact h.ns hS
   · have h5:s.Sent=true:=(c3 rfl).2
     exact absurd (hS.symm.trans h5) (by decide)
 · have h1:max n s.Base≤m:=h1
   have h2:m<s.Next:=h2
   rcases h.cov m (by omega) h2 with hm | ⟨p,hp,hpm⟩
   · exact .inl ((aCS h.lv.lo).2 ⟨hm,h1⟩)
   · refine .inr ⟨cmap (max n s.Base) fin p,List.mem_filter.2 ⟨List.mem_map.2 ⟨p,hp,rfl⟩,?_⟩,by show max p.From _≤m; omega,by show m<max p.To _; omega⟩
     show (!(decide (max p.From (max n s.Base)=max p.To (max n s.Base)) && !(p.Fin && !fin)))=true
     rw [decide_eq_false (show ¬max p.From (max n s.Base)=max p.To (max n s.Base) by omega)]; rfl
theorem pw_ne {l:List Pc} (h:l.Pairwise (fun p q=>p.To≤q.From)) {p q:Pc} (hp:p∈l) (hq:q∈l) (hne:p≠q):p.To≤q.From∨q.To≤p.From:=by
 induction l with
 | nil=>exact (List.not_mem_nil hp).elim
 | cons x l ih =>
   have h:=List.pairwise_cons.1 h
   rcases List.mem_cons.1 hp with h1 | h1
   · rcases List.mem_cons.1 hq with h2 | h2
     · exact absurd (h1.trans h2.symm) hne
     · rw [h1]; exact .inl (h.1 q h2)
   · rcases List.mem_cons.1 hq with h2 | h2
     · rw [h2]; exact .inr (h.1 p h1)
     · exact ih h.2 h1 h2
def anyD (l:List Pc) (k:Int):Bool:=l.any fun p=>decide (p.Path=k)&&p.Fin
structure DL (s:S23) (p:List Pc) (k:Int) (L:List Iv):Prop where
 lv:VS L
 lb:∀ x∈L,s.Base≤x.From∧x.To≤s.Next
 lm:∀ n,mem n L↔mem n s.Lost∨∃ q∈p,q.Path=k∧q.From≤n∧n<q.To
 le:(∀ q∈p,q.Path=k→q.From=q.To)→L=s.Lost
theorem aCq {L:List Iv} {a b:Int} (h:VS L) (hm:∀ n,mem n L→a≤n∧n<b):∀ x∈L,a≤x.From∧x.To≤b:=fun x hx=>by
 have h0:=h.ne x hx
 have h1:=hm x.From ⟨x,hx,by omega,by omega⟩
 have h2:=hm (x.To-1) ⟨x,hx,by omega,by omega⟩
 omega
theorem DL.len {s:S23} (h:G s) {p:List Pc} {k:Int} {L:List Iv} (d:DL s p k L):L.length≤4096:=by
 have h1:=aDV d.lv.pw d.lv.ne d.lb h.bn
 have h2:=h.nd
 have h3:=h.dl
 unfold endS at h2; omega
def aEO (s:S23) (k:Int) (L:List Iv):S23:=⟨s.Base,s.Data,s.Next,s.Pieces.filter (fun y=>!decide (y.Path=k)),L,s.Closed,s.Sent,s.Again||anyD s.Pieces k,s.Done⟩
theorem aFV {s:S23} (h:G s) (k:Int):∀ (r p:List Pc) (f:Nat) (L:List Iv),s.Pieces=p++r→r.length<f→DL s p k L→∃ L',DL s s.Pieces k L'∧jX s k (tup s) f (p.length:Int) L (s.Again||anyD p k)=some (aEO s k L')
 | [],p,f+1,L,hs,_,d=>by
   have hpl:=h.pl
   rw [List.append_nil] at hs
   rw [←hs] at d ⊢
   refine ⟨L,d,?_⟩
   unfold jX
   simp only [tup,bndD,rX,bC,delD (show s.Pieces.length≤100000 by omega),bnoS]
   rfl
 | x :: r, p, f+1,L,hs,hf,d=>by
   have hx:x∈s.Pieces:=by rw [hs]; simp
   have hpl:=h.pl
   obtain ⟨n1,n2,n3,n4⟩:=h.num
   obtain ⟨⟨a1,a2,a3⟩,a4⟩:=h.pb x hx
   have hd1:oM x k=some (decide (x.Path=k)):=rfl
   have hany:anyD (p++[x]) k=(anyD p k||(decide (x.Path=k)&&x.Fin)):=by unfold anyD; rw [List.any_append]; simp
   unfold jX
   simp only [bndD,jC hs,bH,dP hs,bnoS,hd1,w_at hs (show s.Pieces.length≤1000000 by omega)]
   by_cases hk:x.Path=k
   · have hdl := d.len h
     obtain ⟨t,e1,e2,e3,e4,e5⟩:=aGk (s:=L) (x:=(⟨x.From,x.To⟩:Iv)) (by omega) d.lv (by show 0≤x.From; omega) (by show x.To≤_; omega) a2
     have hb:∀ y∈t,s.Base≤y.From∧y.To≤s.Next:=aCq e2 fun n hm=>by
      rcases (e3 n).1 hm with hm | hm
      · obtain ⟨y,hy,h1,h2⟩:=hm
        have:=d.lb y hy; omega
      · have:x.From≤n∧n<x.To:=hm
        omega
     have d2:DL s (p++[x]) k t:=by
      refine ⟨e2,hb,fun n=>?_,fun hq=>?_⟩
      · rw [e3,d.lm]
        constructor
        · rintro ((h1 | ⟨q,hq,h2⟩) | h1)
          · exact .inl h1
          · exact .inr ⟨q,by simp [hq],h2⟩
          · exact .inr ⟨x,by simp,hk,h1⟩
        · rintro (h1 | ⟨q,hq,h2⟩)
          · exact .inl (.inl h1)
          · rcases List.mem_append.1 hq with hq | hq
            · exact .inl (.inr ⟨q,hq,h2⟩)
            · rw [List.mem_singleton.1 hq] at h2
              exact .inr h2.2
      · rw [e4 (hq x (by simp) hk)]
        exact d.le fun q hq'=>hq q (by simp [hq'])
     have ih:=aFV h k r (p++[x]) f t (pV hs) (by simpa using hf) d2
     rw [hany,decide_eq_true hk,Bool.true_and,←Bool.or_assoc] at ih
     rw [decide_eq_true hk,bH]
     unfold gL
     simp only [bnoS,e1]
     exact ih
   · have d2:DL s (p++[x]) k L:=by
      refine ⟨d.lv,d.lb,fun n=>?_,fun hq=>d.le fun q hq'=>hq q (by simp [hq'])⟩
      rw [d.lm]
      constructor
      · rintro (h1 | ⟨q,hq,h2⟩)
        · exact .inl h1
        · exact .inr ⟨q,by simp [hq],h2⟩
      · rintro (h1 | ⟨q,hq,h2⟩)
        · exact .inl h1
        · rcases List.mem_append.1 hq with hq | hq
          · exact .inr ⟨q,hq,h2⟩
          · rw [List.mem_singleton.1 hq] at h2
            exact absurd h2.1 hk
     have ih:=aFV h k r (p++[x]) f L (pV hs) (by simpa using hf) d2
     rw [hany,decide_eq_false hk,Bool.false_and,Bool.or_false] at ih
     rw [decide_eq_false hk,bC]
     exact ih
theorem dead23 {s:S23} (h:G s) (k:Int):∃ L,DL s s.Pieces k L∧uK s k=some (aEO s k L):=by
 have hp:=h.pl
 have hl:=h.ll
 obtain ⟨L,d,e⟩:=aFV h k s.Pieces [] fuel s.Lost rfl (dN (by omega)) ⟨h.lv,h.lb,fun n=>by simp,fun _=>rfl⟩
 refine ⟨L,d,?_⟩
 unfold uK
 rw [aCQ (by omega) (by omega),bnoS,vB h,bnoS]
 simp only [bndD,decide_true,Bool.not_true,bC]
 rw [show anyD [] k=false from rfl,Bool.or_false] at e
 exact e
theorem aBO (l:List Pc) (k:Int):fins l=fins (l.filter fun y=>!decide (y.Path=k))+(l.filter fun p=>decide (p.Path=k)&&p.Fin).length:=by
 unfold fins
 rw [List.filter_filter]
 induction l with
 | nil=>rfl
 | cons x l ih =>
   simp only [List.filter_cons]
   cases hF:x.Fin <;> by_cases hk:x.Path=k <;> simp [hF,hk] <;> omega
theorem g_dead {s:S23} (h:G s) {k:Int} {L:List Iv} (d:DL s s.Pieces k L):G (aEO s k L):=by
 obtain ⟨n1,n2,n3,n4⟩:=h.num
 have hmem:∀ q,q∈s.Pieces.filter (fun y=>!decide (y.Path=k))↔q∈s.Pieces∧q.Path≠k:=fun q=>by rw [List.mem_filter]; simp
 have hany:anyD s.Pieces k=true→s.Sent=true∧s.Again=false∧s.Done=false∧fins (s.Pieces.filter fun y=>!decide (y.Path=k))=0:=fun ha=>by
  unfold anyD at ha
  obtain ⟨p,hp,hpk⟩:=List.any_eq_true.1 ha
  have h1:0<(s.Pieces.filter fun p=>decide (p.Path=k)&&p.Fin).length:=List.length_pos_of_mem (List.mem_filter.2 ⟨hp,hpk⟩)
  have h2:=aBO s.Pieces k
  have h3:=h.fc
  by_cases hc:s.Sent=true∧s.Again=false∧s.Done=false
  · rw [if_pos hc] at h3
    exact ⟨hc.1,hc.2.1,hc.2.2,by rw [h3] at h2; generalize fins (s.Pieces.filter fun y=>!decide (y.Path=k))=a at *; generalize (s.Pieces.filter fun p=>decide (p.Path=k)&&p.Fin).length=b at *; clear h; omega⟩
  · rw [if_neg hc] at h3; rw [h3] at h2; generalize fins (s.Pieces.filter fun y=>!decide (y.Path=k))=a at *; generalize (s.Pieces.filter fun p=>decide (p.Path=k)&&p.Fin).length=b at *; clear h; omega
 have hno:anyD s.Pieces k=false→fins (s.Pieces.filter fun y=>!decide (y.Path=k))=fins s.Pieces:=fun ha=>by
  have h2:=aBO s.Pieces k
  have h1:(s.Pieces.filter fun p=>decide (p.Path=k)&&p.Fin)=[]:=by
   rw [List.filter_eq_nil_iff]
   intro p hp
   exact Bool.not_eq_true _ |>.mpr (List.any_eq_false.1 ha p hp |> fun h=>by simpa using h)
  rw [h1] at h2; simpa using h2.symm
 refine ⟨h.b0,h.bn,h.nd,h.en,h.dl,d.lv,d.lb,List.Pairwise.filter _ h.pw,fun q hq=>h.pb q ((hmem q).1 hq).1,fun q hq=>h.pf q ((hmem q).1 hq).1,fun q hq m h1 h2 hm=>?_,fun q hq=>h.fe q ((hmem q).1 hq).1,?_,fun hS=>?_,fun hS=>?_,fun m h1 h2=>?_⟩
 · obtain ⟨q1,q2⟩:=(hmem q).1 hq
   rcases (d.lm m).1 hm with hm | ⟨p,hp,hpk,h3,h4⟩
   · exact h.pd q q1 m h1 h2 hm
   · have hne:p≠q:=fun e=>q2 (e ▸ hpk)
     have:=pw_ne h.pw hp q1 hne
     omega
 · show fins (s.Pieces.filter fun y=>!decide (y.Path=k))=if s.Sent=true∧(s.Again||anyD s.Pieces k)=false∧s.Done=false then 1 else 0
   cases ha:anyD s.Pieces k
   · rw [hno ha,h.fc,Bool.or_false]
   · rw [(hany ha).2.2.2,Bool.or_true]; simp
 · obtain ⟨a1,a2,a3⟩:=h.se hS
   refine ⟨a1,a2,?_⟩
   show ¬((s.Again||anyD s.Pieces k)=true∧s.Done=true)
   cases ha:anyD s.Pieces k
   · rw [Bool.or_false]; exact a3
   · rw [(hany ha).2.2.1]; simp
 · have hS:s.Sent=false:=hS
   obtain ⟨a1,a2⟩:=h.ns hS
   refine ⟨?_,a2⟩
   show (s.Again||anyD s.Pieces k)=false
   cases ha:anyD s.Pieces k
   · rw [a1]; rfl
   · have:=(hany ha).1; rw [hS] at this; cases this
 · rcases h.cov m h1 h2 with hm | ⟨p,hp,hpm⟩
   · exact .inl ((d.lm m).2 (.inl hm))
   · by_cases hk:p.Path=k
     · exact .inl ((d.lm m).2 (.inr ⟨p,hp,hk,hpm⟩))
     · exact .inr ⟨p,(hmem p).2 ⟨hp,hk⟩,hpm⟩
end Go.Fn
open Go Go.IL
namespace Go.Fn
structure Went (s s':S23):Prop where
 g:G s'
 base:s.Base≤s'.Base
 data:s'.Data=s.Data.drop (s'.Base-s.Base).toNat
 next:s.Next≤s'.Next
 done:s.Done=true→s'.Done=true
 en:endS s'=endS s
theorem Went.refl {s:S23} (h:G s):Went s s:=⟨h,Int.le_refl _,by simp,Int.le_refl _,id,rfl⟩
theorem want23 {s:S23} (h:G s) {limit:Int} (hl:0≤limit∧limit≤4398046511104):uH s limit=some (gJ s 1 limit).2:=by
 unfold uH
 rw [vB h,bnoS]
 simp only [bndD,decide_true,Bool.not_true,bC,aEx h (show (1:Int)≤1∧(1:Int)≤9223372036854775807 by decide) hl,bnoS]
structure All (s:S23) (all:List UInt8):Prop where
 g:G s
 data:s.Data=all.drop s.Base.toNat
 len:(all.length:Int)=endS s
end Go.Fn
open Go Go.IL
namespace Go.Fn
end Go.Fn
open Go Go.IL
namespace Go.Fn
theorem pcsame {l m:List Pc} (hl:l.length≤1000000):eI l m=some (decide (l=m)):=by
 have heq:∀ x y:Pc,(decide (x.From=y.From)&&(decide (x.To=y.To)&&(decide (x.Path=y.Path)&&((x.Fin == y.Fin)&&true))))=decide (x=y):=fun x y=>by
  obtain ⟨a,b,c,d⟩:=x; obtain ⟨e,f,g,h⟩:=y; rw [Bool.eq_iff_iff]; simp
 have:=tD (L:=cN l m) (m:=m) (z:=true) hl (fun p x r s y t f h k e=>by
  rw [cN]
  simp only [bndD,jC h,bH,dP h,show gix m (p.length:Int)=some y by rw [e]; exact dP k,bnoS,heq,w_at h hl]) (fun _ f=>by
  rw [cN]
  simp only [bndD,rX,bC])
 rw [Bool.and_true] at this
 exact this
end Go.Fn
open Go Go.IL
namespace Go.Fn
def sl (W:List UInt8) (a b:Int):List UInt8:=(W.take b.toNat).drop a.toNat
end Go.Fn
open Go Go.IL
namespace Go.Fn
def jB (u:Iv):List Iv→Iv×List Iv
 | []=>(u,[])
 | p::r=>if u.To<p.From then (u,p::r) else jB ⟨min u.From p.From,max u.To p.To⟩ r
structure Jd (u:Iv) (R:List Iv) (v:Iv) (C:List Iv) (B:List Iv):Prop where
 sp:R=B++C
 f:v.From≤u.From
 t:u.To≤v.To
 c:∀ y∈C,v.To<y.From
 m:∀ n,(v.From≤n∧n<v.To)↔((u.From≤n∧n<u.To)∨mem n B)
 vf:v.From=u.From∨∃ y∈B,v.From=y.From
 vt:v.To=u.To∨∃ y∈B,v.To=y.To
theorem mem_cons {n:Int} {y:Iv} {p:List Iv}:mem n (y::p)↔(y.From≤n∧n<y.To)∨mem n p:=by
 unfold mem
 constructor
 · rintro ⟨x,hx,h⟩
   rcases List.mem_cons.1 hx with rfl | hx
   · exact .inl h
   · exact .inr ⟨x,hx,h⟩
 · rintro (h | ⟨x,hx,h⟩)
   · exact ⟨y,by simp,h⟩
   · exact ⟨x,by simp [hx],h⟩
def jA (x:Iv) (l:List Iv):List Iv:=l.takeWhile fun p=>decide (p.To<x.From)
def jR (x:Iv) (l:List Iv):List Iv:=l.dropWhile fun p=>decide (p.To<x.From)
def joinI (x:Iv) (l:List Iv):List Iv:=jA x l++[(jB x (jR x l)).1]++(jB x (jR x l)).2
structure Joined (x:Iv) (l:List Iv) (A:List Iv) (v:Iv) (B C:List Iv):Prop where
 e:joinI x l=A++[v]++C
 sp:l=A++(B++C)
 j:Jd x (B++C) v C B
 a:∀ y∈A,y.To<x.From
 av:∀ y∈A,y.To<v.From
def aBX (b:Int) (l:List Iv) (h:Int):Prop:=b≤h∧(∀ y∈l,y.To≤h)∧(h=b∨∃ y∈l,y.To=h)
theorem aBX.uniq {b:Int} {l:List Iv} {h k:Int} (p:aBX b l h) (q:aBX b l k):h=k:=by
 obtain ⟨p1,p2,p3⟩:=p
 obtain ⟨q1,q2,q3⟩:=q
 have a:h≤k:=by
  rcases p3 with e | ⟨y,hy,e⟩
  · omega
  · have:=q2 y hy; omega
 have b:k≤h:=by
  rcases q3 with e | ⟨y,hy,e⟩
  · omega
  · have:=p2 y hy; omega
 omega
end Go.Fn
open Go Go.IL
namespace Go.Fn
abbrev Pt:=aS
abbrev R12:=aW
def pt (W:List UInt8) (x:Iv):Pt:=⟨x.From,sl W x.From x.To⟩
structure RQ (W:List UInt8) (I:List Iv) (s:R12):Prop where
 wl:W.length≤100000
 b0:0≤s.Base
 bw:s.Base≤(W.length:Int)
 rl:(s.Ready.length:Int)≤s.Base
 rm:s.Ready.length≤4096
 rd:s.Ready=sl W (s.Base-s.Ready.length) s.Base
 ps:s.Parts=I.map (pt W)
 vs:VS I
 ib:∀ x∈I,s.Base<x.From∧x.To≤(W.length:Int)
 lim:∀ x∈I,x.To≤s.Base-s.Ready.length+4096
theorem RQ.il {W:List UInt8} {I:List Iv} {s:R12} (h:RQ W I s):I.length≤100000:=by
 have:=aDV h.vs.pw h.vs.ne (fun x hx=>⟨by have:=(h.ib x hx).1; omega,(h.ib x hx).2⟩) h.bw
 have:=h.wl; have:=h.b0
 omega
theorem RQ.pl {W:List UInt8} {I:List Iv} {s:R12} (h:RQ W I s):s.Parts.length≤100000:=by rw [h.ps,List.length_map]; exact h.il
theorem aGU {l:List Pt} (hl:l.length≤100000):dD l=some l:=by
 unfold dD
 have h:(bno (app 24 ([]:(List aS)) l) fun x3=>some x3)=some l:=by
  rw [gZ (by simp; omega) (by simp; omega),bnoS,List.nil_append]
 rw [h,zX]
 rintro rfl; rfl
theorem aGb {s:R12} (hl:s.Parts.length≤100000):∀ (r p:List Pt) (f:Nat) (v:Int),s.Parts=p++r→r.length<f→∃ n,kE s f v (p.length:Int)=some n
 | [],p,f+1,v,hs,_=>by
   unfold kE
   simp only [bndD,jO hs,bC]
   exact ⟨_,rfl⟩
 | x::r,p,f+1,v,hs,hf=>by
   unfold kE
   simp only [bndD,jC hs,bH,dP hs,bnoS,w_at hs (by omega)]
   exact aGb hl r (p++[x]) f _ (pV hs) (by simpa using hf)
theorem held {s:R12} (hl:s.Parts.length≤100000):∃ n,qW s=some n:=aGb hl s.Parts [] fuel _ rfl (dN (by omega))
structure JI (W:List UInt8) (I:List Iv):Prop where
 wl:W.length≤100000
 il:I.length≤100000
 pw:I.Pairwise (fun x y=>x.To<y.From)
 ne:∀ x∈I,x.From<x.To
 lo:∀ x∈I,0≤x.From
 hi:∀ x∈I,x.To≤(W.length:Int)
end Go.Fn
open Go Go.IL
namespace Go.Fn
structure Puts (W:List UInt8) (s s':R12) (I I':List Iv) (at_ to:Int):Prop where
 rq:RQ W I' s'
 rd:s'.Base-s'.Ready.length=s.Base-s.Ready.length
 hi:∀ h,aBX s.Base I h→aBX s'.Base I' (if at_<to then max h to else h)
 bs:s.Base≤s'.Base
 hs:∀ n,(n<s.Base∨mem n I∨(at_≤n∧n<to))→n<s'.Base∨mem n I'
 hc:∀ n,(n<s'.Base∨mem n I')→n<s.Base∨mem n I∨(at_≤n∧n<to)
theorem aEb {s:R12} {a:Int} {str:List UInt8} (hs:str=[]):kD s s.Parts a str=some (s,0):=by
 unfold kD
 rw [hs]
 simp only [bndD,decide_true,bH]
end Go.Fn
open Go Go.IL
namespace Go.Fn
def pe (p:Pt):Int:=p.At+(p.Data.length:Int)
def bm:List Pt→Int→Option UInt8
 | [],_=>none
 | p::r,n=>if p.At≤n∧n<pe p then p.Data[(n-p.At).toNat]? else bm r n
def CP:Int→List Pt→Prop
 | _,[]=>True
 | b,p::r=>b<p.At∧p.Data≠[]∧CP (pe p) r
theorem nU {p:Pt} {r:List Pt} {n:Int} (h:p.At≤n∧n<pe p):bm (p::r) n=p.Data[(n-p.At).toNat]?:=if_pos h
theorem jI {p:Pt} {r:List Pt} {n:Int} (h:¬ (p.At≤n∧n<pe p)):bm (p::r) n=bm r n:=if_neg h
theorem nN {p:Pt} {n:Int} (h:p.At≤n∧n<pe p):p.Data[(n-p.At).toNat]? ≠ none:=by
 unfold pe at h
 rw [Ne,List.getElem?_eq_none_iff]; omega
theorem qG {p:Pt} (h:p.Data≠[]):p.At<pe p:=by
 unfold pe
 have:=List.length_pos_iff.2 h; omega
theorem cp_le {b c:Int}:∀ {l:List Pt},CP b l→c≤b→CP c l
 | [],_,_=>trivial
 | p::r,h,hc=>⟨by have:=h.1; omega,h.2⟩
theorem aAR:∀ {l:List Pt} {b n:Int},CP b l→n≤b→bm l n=none
 | [],_,_,_,_=>rfl
 | p::r,b,n,h,hn=>by
   have h1:=h.1
   have h2:=qG h.2.1
   rw [jI (by omega)]
   exact aAR h.2.2 (by omega)
theorem aB3:∀ {l l':List Pt} {b b':Int},CP b l→CP b' l'→(∀ n,bm l n=bm l' n)→l=l'
 | [],[],_,_,_,_,_=>rfl
 | [],p::r,_,_,_,h',e=>by
   have hp:=qG h'.2.1
   have:=e p.At
   rw [nU (p:=p) (r:=r) ⟨Int.le_refl _,hp⟩] at this
   exact absurd this.symm (nN ⟨Int.le_refl _,hp⟩)
 | p::r,[],_,_,h,_,e=>by
   have hp:=qG h.2.1
   have:=e p.At
   rw [nU (p:=p) (r:=r) ⟨Int.le_refl _,hp⟩] at this
   exact absurd this (nN ⟨Int.le_refl _,hp⟩)
 | p :: r,q::t,b,b',h,h',e=>by
   have hp:=qG h.2.1
   have hq:=qG h'.2.1
   have hat:p.At=q.At:=by
    rcases Int.lt_trichotomy p.At q.At with hl | hl | hl
    · have:=e p.At
      rw [nU (p:=p) (r:=r) ⟨Int.le_refl _,hp⟩,aAR (l:=q::t) (b:=q.At-1) ⟨by omega,h'.2⟩ (by omega)] at this
      exact absurd this (nN ⟨Int.le_refl _,hp⟩)
    · exact hl
    · have:=e q.At
      rw [nU (p:=q) (r:=t) ⟨Int.le_refl _,hq⟩,aAR (l:=p::r) (b:=p.At-1) ⟨by omega,h.2⟩ (by omega)] at this
      exact absurd this.symm (nN ⟨Int.le_refl _,hq⟩)
   have hpe:pe p=pe q:=by
    rcases Int.lt_trichotomy (pe p) (pe q) with hl | hl | hl
    · have:=e (pe p)
      rw [jI (p:=p) (by omega),aAR h.2.2 (Int.le_refl _),nU (p:=q) (by omega)] at this
      exact absurd this.symm (nN (by omega))
    · exact hl
    · have:=e (pe q)
      rw [jI (p:=q) (by omega),aAR h'.2.2 (Int.le_refl _),nU (p:=p) (by omega)] at this
      exact absurd this (nN (by omega))
   have hlen:p.Data.length=q.Data.length:=by unfold pe at hpe; omega
   have hd:p.Data=q.Data:=by
    apply List.ext_getElem?
    intro i
    by_cases hi:i<p.Data.length
    · have:=e (p.At+(i:Int))
      rw [nU (p:=p) (by unfold pe; omega),nU (p:=q) (by unfold pe; omega)] at this
      rw [show (p.At+(i:Int)-p.At).toNat=i by omega,show (p.At+(i:Int)-q.At).toNat=i by omega] at this
      exact this
    · rw [List.getElem?_eq_none (by omega),List.getElem?_eq_none (by omega)]
   have hpq:p=q:=by cases p; cases q; simp only at hat hd; rw [hat,hd]
   subst hpq
   congr 1
   refine aB3 h.2.2 h'.2.2 fun n=>?_
   by_cases hn:p.At≤n∧n<pe p
   · rw [aAR h.2.2 (by omega),aAR h'.2.2 (by omega)]
   · have:=e n
     rwa [jI hn,jI hn] at this
def mg (p x:Pt):Pt:=if p.At≤x.At then ⟨p.At,p.Data++x.Data.drop (pe p-x.At).toNat⟩ else ⟨x.At,x.Data.take (p.At-x.At).toNat++p.Data++x.Data.drop (pe p-x.At).toNat⟩
theorem aFz (p x:Pt):(mg p x).At=min p.At x.At:=by unfold mg; split <;> (simp only; omega)
theorem mg_pe {p x:Pt} (hp:p.Data≠[]) (h1:p.At≤pe x) (h2:x.At≤pe p):pe (mg p x)=max (pe p) (pe x):=by
 have:=qG hp
 unfold pe at this h1 h2 ⊢
 unfold mg
 split
 · simp only [List.length_append,List.length_drop]; unfold pe; omega
 · simp only [List.length_append,List.length_drop,List.length_take]; unfold pe; omega
theorem mg_bm {p x:Pt} (hp:p.Data≠[]) (h1:p.At≤pe x) (h2:x.At≤pe p) (n:Int):bm [mg p x] n=(bm [p] n).or (bm [x] n):=by
 have hpe:=mg_pe hp h1 h2
 have hat:=aFz p x
 have hpp:=qG hp
 by_cases a:p.At≤n∧n<pe p
 · rw [nU (p:=mg p x) (by omega),nU (p:=p) a]
   have hs:=nN a
   have e:(mg p x).Data[(n-(mg p x).At).toNat]? = p.Data[(n-p.At).toNat]?:=by
    rw [hat]
    unfold mg
    unfold pe at a
    split
    · simp only
      rw [List.getElem?_append_left (by omega)]
      congr 2; omega
    · simp only
      rw [List.append_assoc,List.getElem?_append_right (by rw [List.length_take]; omega),List.getElem?_append_left (by rw [List.length_take]; unfold pe at h1; omega)]
      congr 1
      rw [List.length_take]; unfold pe at h1; omega
   rw [e]
   cases hc:p.Data[(n-p.At).toNat]? with
   | none=>exact absurd hc hs
   | some c=>rfl
 · rw [jI (p:=p) a]
   show _=(bm [] n).or _
   rw [show bm [] n=none from rfl,Option.none_or]
   by_cases b:x.At≤n∧n<pe x
   · rw [nU (p:=mg p x) (by omega),nU (p:=x) b,hat]
     unfold mg
     unfold pe at a b h1 h2 hpp
     split
     · simp only
       rw [List.getElem?_append_right (by omega),List.getElem?_drop]
       congr 1; unfold pe; omega
     · simp only
       by_cases c:n<p.At
       · rw [List.append_assoc,List.getElem?_append_left (by rw [List.length_take]; omega),List.getElem?_take_of_lt (by omega)]
         congr 1; omega
       · rw [List.getElem?_append_right (by rw [List.length_append,List.length_take]; omega),List.getElem?_drop]
         congr 1
         rw [List.length_append,List.length_take]; unfold pe; omega
   · rw [jI (p:=mg p x) (by omega),jI b]
def jP (x:Pt):List Pt→List Pt
 | []=>[x]
 | p::r=>if pe p<x.At then p::jP x r else if pe x<p.At then x::p::r else jP (mg p x) r
theorem qR (a:Option UInt8):a.or none=a:=by cases a <;> rfl
theorem yL {a:Option UInt8} (h:a≠none) (b:Option UInt8):a.or b=a:=by cases a with
 | none=>exact absurd rfl h
 | some c=>rfl
theorem tV (p:Pt) (r:List Pt) (n:Int):bm (p::r) n=(bm [p] n).or (bm r n):=by
 by_cases h:p.At≤n∧n<pe p
 · rw [nU h,nU h,yL (nN h)]
 · rw [jI h,jI h]; rfl
theorem aDF:∀ (l:List Pt) {x:Pt} {b:Int},CP b l→b<x.At→x.Data≠[]→CP b (jP x l)∧∀ n,bm (jP x l) n=(bm l n).or (bm [x] n)
 | [],x,b,h,hb,hx=>⟨⟨hb,hx,trivial⟩,fun n=>rfl⟩
 | p :: r,x,b,h,hb,hx=>by
   have hpp:=qG h.2.1
   have hxx:=qG hx
   unfold jP
   by_cases c1:pe p<x.At
   · rw [if_pos c1]
     obtain ⟨g1,g2⟩:=aDF r h.2.2 c1 hx
     refine ⟨⟨h.1,h.2.1,g1⟩,fun n=>?_⟩
     rw [tV p (jP x r),g2,tV p r,Option.or_assoc]
   · rw [if_neg c1]
     by_cases c2:pe x<p.At
     · rw [if_pos c2]
       refine ⟨⟨hb,hx,c2,h.2⟩,fun n=>?_⟩
       rw [tV x]
       by_cases hn:x.At≤n∧n<pe x
       · rw [aAR (l:=p::r) (b:=pe x) ⟨c2,h.2⟩ (by omega),Option.none_or,qR]
       · rw [show bm [x] n=none from jI hn,Option.none_or,qR]
     · rw [if_neg c2]
       have hm:=aFz p x
       have hme:=mg_pe h.2.1 (by omega:p.At≤pe x) (by omega:x.At≤pe p)
       have hmd:(mg p x).Data≠[]:=fun e=>by
        have:pe (mg p x)=(mg p x).At:=by unfold pe; rw [e]; simp
        omega
       have h1:=h.1
       obtain ⟨g1,g2⟩:=aDF r (x:=mg p x) (cp_le h.2.2 (by omega:b≤pe p)) (by omega) hmd
       refine ⟨g1,fun n=>?_⟩
       rw [g2,mg_bm h.2.1 (by omega) (by omega),tV p r]
       by_cases hn:p.At≤n∧n<pe p
       · rw [aAR h.2.2 (by omega),Option.none_or,qR]
       · rw [show bm [p] n=none from jI hn,Option.none_or,Option.none_or]
end Go.Fn
open Go Go.IL
namespace Go.Fn
def Wi (lo hi:Int) (p:Pt):Prop:=lo≤p.At∧pe p≤hi
theorem Wi.len {lo hi:Int} {p:Pt} (h:Wi lo hi p):(p.Data.length:Int)≤hi-lo:=by
 have h1:=h.1; have h2:=h.2; unfold pe at h2; omega
theorem mg_wi {lo hi:Int} {p x:Pt} (hp:p.Data≠[]) (h:Wi lo hi p) (hx:Wi lo hi x) (h1:p.At≤pe x) (h2:x.At≤pe p):Wi lo hi (mg p x):=by
 have a:=aFz p x
 have b:=mg_pe hp h1 h2
 have:=h.1; have:=h.2; have:=hx.1; have:=hx.2
 exact ⟨by omega,by omega⟩
theorem aEA {lo hi:Int} {p:Pt} (h:Wi lo hi p) (h0:0≤lo) (h1:hi≤4398046511104):fT p=some (pe p):=by
 have a:=h.1; have b:=h.2; unfold pe at b
 unfold fT
 rw [w64 (by omega) (by omega),bndD]; rfl
theorem jn_J2 {l r q out:List Pt} (hl:l.length≤100000) (ho:out.length≤100000) (hs:l=q++r) (x:Pt):lR l out (q.length:Int) x.At x.Data=some (out++(x::r)):=by
 have h2:=yY hs
 have hrl:r.length≤l.length:=by rw [hs]; simp
 unfold lR
 rw [gZ (by simp; omega) (by simp; omega),bnoS,h2,bnoS,gZ (by simp; omega) (by simp; omega),bnoS]
 simp
theorem aCs {l:List UInt8} {k:Int} (h:0≤k):(bnd (min (l.length:Int) k) fun m=>cut l m (l.length:Int))=some (l.drop k.toNat):=by
 rw [bndD]
 by_cases c:k≤(l.length:Int)
 · rw [Int.min_eq_right c,aBP h c]
 · rw [Int.min_eq_left (by omega),aBP (by omega) (Int.le_refl _),List.drop_eq_nil_of_le (by omega),List.drop_eq_nil_of_le (by omega)]
theorem jn_L3 {lo hi:Int} (h0:0≤lo) (h1:hi≤4398046511104) (hw:hi-lo≤100000) {l out:List Pt} (hl:l.length≤100000) (ho:out.length≤100000) (hwi:∀ p∈l,Wi lo hi p∧p.Data≠[]):∀ (r q:List Pt) (f:Nat) (x:Pt),l=q++r→r.length<f→Wi lo hi x→(∀ p∈r,x.At≤pe p) →
 gM l out f (q.length:Int) x.At x.Data=some (out++jP x r)
 | _,_,0,_,_,hf,_,_=>absurd hf (by omega)
 | [],q,f+1,x,hs,_,_,_=>by
   unfold gM
   simp only [bndD,jO hs,bC]
   exact jn_J2 hl ho hs x
 | p :: r,q,f+1,x,hs,hf,hx,hu=>by
   obtain ⟨hp,hpd⟩:=hwi p (by rw [hs]; simp)
   have hup:=hu p (by simp)
   have hxl:=hx.len
   have hpl:=hp.len
   have a1:=hx.1; have a2:=hx.2; have a3:=hp.1; have a4:=hp.2
   have e1:fT ⟨x.At,x.Data⟩=some (pe x):=aEA hx h0 h1
   have hxp:x.At≤pe x:=by unfold pe; omega
   have hpp:=qG hpd
   rw [gM,bndD,jC hs,bH,dP hs,bnoS,e1,bnoS,bndD]
   by_cases c:pe x<p.At
   · rw [decide_eq_true c,bH,jn_J2 hl ho hs x,jP,if_neg (by omega),if_pos c]
   · rw [decide_eq_false c,bC,bndD,jP,if_neg (by omega),if_neg c]
     have hm:=mg_wi hpd hp hx (by omega) hup
     have hma:=aFz p x
     have hrec:=jn_L3 h0 h1 hw hl ho hwi r (q++[p]) f (mg p x) (by rw [hs]; simp) (by simpa using hf) hm (fun y hy=>by have:=hu y (by simp [hy]); omega)
     have hwp:IntKind.wrap .i64 (pe p-x.At)=pe p-x.At:=w64 (by omega) (by omega)
     by_cases d:p.At≤x.At
     · have ht:∀ k:List UInt8→Option (List Pt),(bnd (min (x.Data.length:Int) (pe p-x.At)) fun x167=>bno (cut x.Data x167 (x.Data.length:Int)) k)=bno (some (x.Data.drop (pe p-x.At).toNat)) k:=fun k=>by
        have:=aCs (l:=x.Data) (k:=pe p-x.At) (by omega)
        rw [bndD] at this
        rw [bndD,this]
       have hmg:mg p x=⟨p.At,p.Data++x.Data.drop (pe p-x.At).toNat⟩:=by unfold mg; rw [if_pos d]
       rw [decide_eq_true d,bH,aEA hp h0 h1,bnoS,bndD,hwp,ht,bnoS,aAK (by rw [List.length_drop]; omega),bnoS,w_at hs (by omega),bndD]
       rw [hmg] at hrec ⊢
       exact hrec
     · have ht:∀ k:List UInt8→Option (List Pt),(bnd (min (x.Data.length:Int) (pe p-x.At)) fun x167=>bno (cut x.Data x167 (x.Data.length:Int)) k)=bno (some (x.Data.drop (pe p-x.At).toNat)) k:=fun k=>by
        have:=aCs (l:=x.Data) (k:=pe p-x.At) (by omega)
        rw [bndD] at this
        rw [bndD,this]
       have hmg:mg p x=⟨x.At,x.Data.take (p.At-x.At).toNat++p.Data++x.Data.drop (pe p-x.At).toNat⟩:=by unfold mg; rw [if_neg d]
       have hwq:IntKind.wrap .i64 (p.At-x.At)=p.At-x.At:=w64 (by omega) (by omega)
       rw [decide_eq_false d,bC,bndD,hwq,aBQ (by omega) (by unfold pe at c; omega),bnoS,aAK (by rw [List.length_take]; omega),bnoS,aEA hp h0 h1,bnoS,bndD,hwp,ht,bnoS,aAK (by rw [List.length_append,List.length_take,List.length_drop]; omega),bnoS,w_at hs (by omega),bndD]
       rw [hmg] at hrec ⊢
       exact hrec
theorem aFY {b:Int}:∀ {q r:List Pt} {p:Pt},CP b (q++p::r)→∀ y∈r,pe p<y.At
 | [], r,p,h,y,hy=>by
   have h2:=h.2.2
   clear h
   induction r generalizing p with
   | nil=>cases hy
   | cons z r ih =>
     rcases List.mem_cons.1 hy with rfl | hy
     · exact h2.1
     · have:=ih (p:=z) hy h2.2.2
       have:=qG h2.2.1
       have:=h2.1
       omega
 | z::q,r,p,h,y,hy=>aFY (q:=q) h.2.2 y hy
theorem jn_L0 {lo hi:Int} (h0:0≤lo) (h1:hi≤4398046511104) (hw:hi-lo≤100000) {l:List Pt} {b:Int} (hc:CP b l) (hl:l.length≤100000) (hwi:∀ p∈l,Wi lo hi p∧p.Data≠[]) {x:Pt} (hx:Wi lo hi x):∀ (r q:List Pt) (f:Nat),l=q++r→r.length<f →
 iG l x f q (q.length:Int)=some (q++jP x r)
 | _,_,0,_,hf=>absurd hf (by omega)
 | [],q,f+1,hs,_=>by
   have hql:q.length≤100000:=by rw [hs] at hl; simp at hl; omega
   rw [iG,bndD,jO hs,ft,gdff,bnoS,gdff,bnoS,bndD,bndD,Bool.false_and,bC]
   exact jn_L3 h0 h1 hw hl hql hwi [] q fuel x hs (dN (by decide)) hx (fun _ h=>by cases h)
 | p :: r,q,f+1,hs,hf=>by
   have hql:q.length≤100000:=by rw [hs] at hl; simp at hl; omega
   obtain ⟨hp,hpd⟩:=hwi p (by rw [hs]; simp)
   have hrl:(p::r).length≤l.length:=by rw [hs]; simp
   rw [iG,bndD,jC hs,beq_self_eq_true,gdtt,dP hs,bnoS,gdtt,aEA hp h0 h1,bnoS,bndD,bndD,Bool.true_and]
   by_cases c:pe p<x.At
   · rw [decide_eq_true c,bH,bnoS,gZ (by simp; omega) (by simp; omega),bnoS,w_at hs (by omega),bndD]
     have hrec:=jn_L0 h0 h1 hw hc hl hwi hx r (q++[p]) f (by rw [hs]; simp) (by simpa using hf)
     rw [jP,if_pos c]
     rw [hrec]; simp
   · rw [decide_eq_false c,bC]
     refine jn_L3 h0 h1 hw hl hql hwi (p::r) q fuel x hs (dN (by omega)) hx (fun y hy=>?_)
     rcases List.mem_cons.1 hy with rfl | hy
     · omega
     · have:=aFY (q:=q) (by rw [hs] at hc; exact hc) y hy
       have:=qG (hwi y (by rw [hs]; simp [hy])).2
       omega
theorem jn_eq {lo hi:Int} (h0:0≤lo) (h1:hi≤4398046511104) (hw:hi-lo≤100000) {l:List Pt} {b:Int} (hc:CP b l) (hl:l.length≤100000) (hwi:∀ p∈l,Wi lo hi p∧p.Data≠[]) {x:Pt} (hx:Wi lo hi x):oW l x=some (jP x l) :=
 jn_L0 h0 h1 hw hc hl hwi hx l [] fuel rfl (dN (by omega))
end Go.Fn
open Go Go.IL
namespace Go.Fn
theorem aBS {b:Int}:∀ {l:List Pt},CP b l→∀ p∈l,b<p.At∧p.Data≠[]
 | [],_,p,hp=>by cases hp
 | q :: r,h,p,hp=>by
   rcases List.mem_cons.1 hp with rfl | hp
   · exact ⟨h.1,h.2.1⟩
   · have:=aBS h.2.2 p hp
     have:=qG h.2.1
     have:=h.1
     exact ⟨by omega,(aBS h.2.2 p hp).2⟩
theorem aFZ {c:Int}:∀ {l:List Pt} {b:Int},CP b l→(∀ p∈l,pe p≤c)→b≤c→(l.length:Int)≤c-b
 | [],b,_,_,hb=>by simp; omega
 | q::r,b,h,hp,hb=>by
   have h1:=aFZ h.2.2 (fun p hh=>hp p (by simp [hh])) (hp q (by simp))
   have:=qG h.2.1
   have:=h.1
   rw [List.length_cons]; omega
theorem aF6 {lo hi:Int}:∀ {l:List Pt} {x:Pt},(∀ p∈l,Wi lo hi p∧p.Data≠[])→Wi lo hi x→∀ p∈jP x l,Wi lo hi p
 | [],x,_,hx,p,hp=>by
   rcases List.mem_cons.1 hp with rfl | hp
   · exact hx
   · cases hp
 | q :: r,x,h,hx,p,hp=>by
   have hq:=h q (by simp)
   have hr:∀ p∈r,Wi lo hi p∧p.Data≠[]:=fun p hp=>h p (by simp [hp])
   unfold jP at hp
   by_cases c1:pe q<x.At
   · rw [if_pos c1] at hp
     rcases List.mem_cons.1 hp with rfl | hp
     · exact hq.1
     · exact aF6 hr hx p hp
   · rw [if_neg c1] at hp
     by_cases c2:pe x<q.At
     · rw [if_pos c2] at hp
       rcases List.mem_cons.1 hp with rfl | hp
       · exact hx
       · exact (h p hp).1
     · rw [if_neg c2] at hp
       exact aF6 hr (mg_wi hq.2 hq.1 hx (by omega) (by omega)) p hp
structure RX (s:R12):Prop where
 b0:0≤s.Base
 bh:s.Base≤1099511627776
 rl:(s.Ready.length:Int)≤s.Base
 rm:s.Ready.length≤4096
 cp:CP s.Base s.Parts
 lm:∀ p∈s.Parts,pe p≤s.Base-s.Ready.length+4096∧pe p≤1099511627776
def limS (s:R12):Int:=min (s.Base-s.Ready.length+4096) 1099511627776
def lowS (s:R12):Int:=s.Base-s.Ready.length
theorem RX.wi {s:R12} (h:RX s):∀ p∈s.Parts,Wi (lowS s) (limS s) p∧p.Data≠[]:=fun p hp=>by
 have:=h.lm p hp
 have:=aBS h.cp p hp
 unfold lowS limS
 exact ⟨⟨by omega,by omega⟩,(aBS h.cp p hp).2⟩
theorem RX.pl {s:R12} (h:RX s):s.Parts.length≤5000:=by
 have h1:=aFZ h.cp (c:=s.Base-s.Ready.length+4096) (fun p hp=>(h.lm p hp).1) (by have:=h.rm; omega)
 omega
theorem aGQ {s:R12} (h:RX s):pR s=some (limS s):=by
 have a:=h.b0; have b:=h.bh; have c:=h.rl; have d:=h.rm
 unfold pR limS
 rw [w64 (by omega) (by omega),bndD,w64 (by omega) (by omega),bndD,bndD]
theorem aDU {s:R12} (h:RX s):∀ (r q:List Pt) (f:Nat) (e:Int),s.Parts=q++r→r.length<f→(CP e r)→iT s (limS s) f e (q.length:Int)=some 0
 | _,_,0,_,_,hf,_=>absurd hf (by omega)
 | [],q,f+1,e,hs,_,_=>by
   rw [iT,bndD,jO hs,bC]
 | p::r,q,f+1,e,hs,hf,hc=>by
   have hp:p∈s.Parts:=by rw [hs]; simp
   have hw:=(h.wi p hp).1
   have hl:=hw.len
   have h1:=hw.1; have h2:=hw.2
   have h3:=hc.1
   have a:=h.b0; have b:=h.bh; have c:=h.rl; have d:=h.rm
   have hpl:=h.pl
   have e2:pe p=p.At+(p.Data.length:Int):=rfl
   have hlo:lowS s=s.Base-s.Ready.length:=rfl
   have hli:limS s=min (s.Base-s.Ready.length+4096) 1099511627776:=rfl
   have hrec:=aDU h r (q++[p]) f (pe p) (by rw [hs]; simp) (by simpa using hf) hc.2.2
   unfold iT
   simp only [bndD,jC hs,bH,dP hs,bnoS,decide_eq_false (show ¬p.At≤e by omega),decide_eq_false hc.2.1,Bool.or_self,decide_eq_false (show ¬limS s<p.At by omega),w64 (show -9223372036854775808≤limS s-p.At by omega) (by omega),decide_eq_false (show ¬limS s-p.At<(p.Data.length:Int) by omega),bC,aEA hw (by omega) (by omega),w_at hs (by omega)]
   exact hrec
theorem aEU {s:R12} (h:RX s):oN s=some 0:=by
 have b:=h.b0; have c:=h.bh; have d:=h.rl; have e:=h.rm
 unfold oN
 simp only [bndD,decide_eq_false (show ¬s.Base<0 by omega),decide_eq_false (show ¬1099511627776<s.Base by omega),Bool.or_self,decide_eq_false (show ¬min s.Base 4096<(s.Ready.length:Int) by omega),bC,aGQ h,bnoS]
 exact aDU h s.Parts [] fuel s.Base rfl (dN (by have:=h.pl; omega)) h.cp
def rB (s:R12) (x:Pt):R12:=match jP x s.Parts with
 | []=>s
 | p::r=>if p.At=s.Base then ⟨pe p,s.Ready++p.Data,r⟩ else ⟨s.Base,s.Ready,p::r⟩
structure Ov (s0 s:R12) (M:Int→Option UInt8):Prop where
 rx:RX s
 low:lowS s=lowS s0
 le:s0.Base≤s.Base
 rd:∃ D,s.Ready=s0.Ready++D∧(D.length:Int)=s.Base-s0.Base∧∀ n,s0.Base≤n→n<s.Base→D[(n-s0.Base).toNat]? = M n
 pm:∀ n,s.Base≤n→bm s.Parts n=M n
theorem Ov.base {s0 s t:R12} {M:Int→Option UInt8} (h:Ov s0 s M) (k:Ov s0 t M):¬ s.Base<t.Base:=fun hl=>by
 obtain ⟨D,h1,h2,h3⟩:=k.rd
 have a:=h.pm s.Base (Int.le_refl _)
 rw [aAR h.rx.cp (Int.le_refl _)] at a
 have b:=h3 s.Base h.le hl
 rw [←a,List.getElem?_eq_none_iff] at b
 have:=h.le
 omega
theorem Ov.uniq {s0 s t:R12} {M:Int→Option UInt8} (h:Ov s0 s M) (k:Ov s0 t M):s=t:=by
 have e1:s.Base=t.Base:=by have:=h.base k; have:=k.base h; omega
 obtain ⟨D,h1,h2,h3⟩:=h.rd
 obtain ⟨D',k1,k2,k3⟩:=k.rd
 have e2:D=D':=by
  apply List.ext_getElem?
  intro i
  by_cases hi:i<D.length
  · have a:=h3 (s0.Base+(i:Int)) (by omega) (by omega)
    have b:=k3 (s0.Base+(i:Int)) (by omega) (by omega)
    rw [show (s0.Base+(i:Int)-s0.Base).toNat=i by omega] at a b
    rw [a,b]
  · rw [List.getElem?_eq_none (by omega),List.getElem?_eq_none (by omega)]
 have e3:s.Parts=t.Parts:=aB3 h.rx.cp k.rx.cp fun n=>by
  by_cases hn:n<s.Base
  · rw [aAR h.rx.cp (by omega),aAR k.rx.cp (by omega)]
  · rw [h.pm n (by omega),k.pm n (by omega)]
 have e4:s.Ready=t.Ready:=by rw [h1,k1,e2]
 cases s; cases t; simp only at e1 e3 e4; rw [e1,e3,e4]
theorem Ov.self {s:R12} (h:RX s):Ov s s (bm s.Parts) :=
 ⟨h,rfl,Int.le_refl _,⟨[],by simp,by simp,fun n h1 h2=>absurd h1 (by omega)⟩,fun _ _=>rfl⟩
theorem Ov.trans {s0 s t:R12} {M M':Int→Option UInt8} (h:Ov s0 s M) (k:Ov s t M'):Ov s0 t (fun n=>if n<s.Base then M n else M' n):=by
 obtain ⟨D,h1,h2,h3⟩:=h.rd
 obtain ⟨D',k1,k2,k3⟩:=k.rd
 have l1:=h.le; have l2:=k.le
 refine ⟨k.rx,k.low.trans h.low,by omega,⟨D++D',by rw [k1,h1,List.append_assoc],by rw [List.length_append]; omega,fun n n1 n2=>?_⟩,fun n hn=>?_⟩
 · by_cases c:n<s.Base
   · rw [if_pos c,List.getElem?_append_left (by omega),h3 n n1 c]
   · rw [if_neg c,List.getElem?_append_right (by omega),←k3 n (by omega) n2]
     congr 1; omega
 · rw [if_neg (show ¬n<s.Base by omega),k.pm n hn]
theorem Ov.ext {s0 s:R12} {M M':Int→Option UInt8} (h:Ov s0 s M) (e:∀ n,s0.Base≤n→M n=M' n):Ov s0 s M':=by
 have hle:=h.le
 obtain ⟨D,h1,h2,h3⟩:=h.rd
 exact ⟨h.rx,h.low,h.le,⟨D,h1,h2,fun n n1 n2=>(h3 n n1 n2).trans (e n n1)⟩,fun n hn=>(h.pm n hn).trans (e n (by omega))⟩
def ovM (s:R12) (x:Pt) (n:Int):Option UInt8:=(bm s.Parts n).or (bm [x] n)
theorem aEt {s:R12} (h:RX s) {x:Pt} (hx:x.Data≠[]) (h1:s.Base≤x.At) (h2:pe x≤limS s):Ov s (rB s x) (ovM s x):=by
 have a:=h.b0; have b:=h.bh; have c:=h.rl; have d:=h.rm
 have hli:limS s=min (s.Base-s.Ready.length+4096) 1099511627776:=rfl
 have hlo:lowS s=s.Base-s.Ready.length:=rfl
 obtain ⟨g1,g2⟩:=aDF s.Parts (x:=x) (b:=s.Base-1) (cp_le h.cp (by omega)) (by omega) hx
 have g3:=aF6 h.wi (x:=x) ⟨by omega,h2⟩
 unfold rB
 unfold ovM
 cases hj:jP x s.Parts with
 | nil =>
   have e:=g2 x.At
   rw [hj,nU (p:=x) ⟨Int.le_refl _,qG hx⟩] at e
   cases hb:bm s.Parts x.At with
   | some c=>rw [hb] at e; cases e
   | none=>rw [hb] at e; exact absurd e.symm (nN ⟨Int.le_refl _,qG hx⟩)
 | cons p r =>
   rw [hj] at g1 g2 g3
   have hp:=g3 p (by simp)
   have hp1:=hp.1; have hp2:=hp.2
   have e2:pe p=p.At+(p.Data.length:Int):=rfl
   simp only
   by_cases hc:p.At=s.Base
   · rw [if_pos hc]
     refine ⟨⟨by show 0≤pe p; omega,by show pe p≤1099511627776; omega,by show ((s.Ready++p.Data).length:Int)≤pe p; rw [List.length_append]; omega,by show (s.Ready++p.Data).length≤4096; rw [List.length_append]; omega,g1.2.2,fun q hq=>?_⟩,?_,by show s.Base≤pe p; omega,⟨p.Data,rfl,by show (p.Data.length:Int)=pe p-s.Base; omega,fun n n1 n2=>?_⟩,fun n hn=>?_⟩
     · have hq:=g3 q (by simp [hq])
       have:=hq.2
       show pe q≤pe p-((s.Ready++p.Data).length:Int)+4096∧_
       rw [List.length_append]; omega
     · show pe p-((s.Ready++p.Data).length:Int)=s.Base-s.Ready.length
       rw [List.length_append]; omega
     · have n2:n<pe p:=n2
       rw [←g2 n,nU (by omega),hc]
     · have hn:pe p≤n:=hn
       rw [←g2 n,jI (by omega)]
   · rw [if_neg hc]
     have g1':=g1.1
     refine ⟨⟨a,b,c,d,⟨by show s.Base<p.At; omega,g1.2⟩,fun q hq=>?_⟩,rfl,Int.le_refl _,⟨[],by simp,by simp,fun n n1 n2=>absurd n1 (by have n2:n<s.Base:=n2; omega)⟩,fun n _=>?_⟩
     · have hq:=g3 q hq
       have:=hq.2
       show pe q≤s.Base-(s.Ready.length:Int)+4096∧_
       omega
     · exact (g2 n)
end Go.Fn
open Go Go.IL
namespace Go.Fn
theorem aGc {R:Int} {B:Int} {D:List UInt8} {P:List Pt} (hl:P.length≤100000) (w:Int):∃ n,oX w B D P=some ((⟨B,D,P⟩:R12),n):=by
 obtain ⟨m,hm⟩:=held (s:=⟨B,D,P⟩) hl
 unfold oX
 rw [hm,bnoS,bndD]
 exact ⟨_,rfl⟩
theorem aET {s:R12} (h:RX s) {x:Pt} (hx:x.Data≠[]) (h1:s.Base≤x.At) (h2:pe x≤limS s):∃ n,kD s s.Parts x.At x.Data=some (rB s x,n):=by
 have a:=h.b0; have b:=h.bh; have c:=h.rl; have d:=h.rm
 have hpl:=h.pl
 have hli:limS s=min (s.Base-s.Ready.length+4096) 1099511627776:=rfl
 have hlo:lowS s=s.Base-s.Ready.length:=rfl
 have hwx:Wi (lowS s) (limS s) x:=⟨by omega,h2⟩
 have hj:oW s.Parts x=some (jP x s.Parts):=jn_eq (by omega) (by omega) (by omega) h.cp (by omega) h.wi hwx
 have hj:oW s.Parts ⟨x.At,x.Data⟩=some (jP x s.Parts):=hj
 obtain ⟨g1,g2⟩:=aDF s.Parts (x:=x) (b:=s.Base-1) (cp_le h.cp (by omega)) (by omega) hx
 have g3:=aF6 h.wi hwx
 have hcnt:=aFZ g1 (c:=limS s) (fun p hp=>(g3 p hp).2) (by omega)
 obtain ⟨w,hw⟩:=held (s:=s) (by omega)
 have hw:qW ⟨s.Base,s.Ready,s.Parts⟩=some w:=hw
 unfold kD rB
 rw [bndD,decide_eq_false hx,bC,hw,bnoS,hj,bnoS]
 cases hjj:jP x s.Parts with
 | nil =>
   have e:=g2 x.At
   rw [hjj,nU (p:=x) ⟨Int.le_refl _,qG hx⟩] at e
   cases hb:bm s.Parts x.At with
   | some c=>rw [hb] at e; cases e
   | none=>rw [hb] at e; exact absurd e.symm (nN ⟨Int.le_refl _,qG hx⟩)
 | cons p r =>
   rw [hjj] at g3 hcnt
   have hp:=g3 p (by simp)
   have hpl:=hp.len
   have hr:r.length≤100000:=by rw [List.length_cons] at hcnt; omega
   show ∃ n,(bno (some p) fun x38=>bno (some p) fun x39=>bnd (decide (x39.At=s.Base)) fun x40=>bif x40 then _ else _)=_
   rw [bnoS,bnoS,bndD]
   simp only
   by_cases hc:p.At=s.Base
   · rw [decide_eq_true hc,bH,if_pos hc,aEA hp (by omega) (by omega),bnoS,aAK (by omega),bnoS]
     have hd:dT 0 1 (p::r)=some r:=by
      unfold dT
      rw [delS_ok (by decide) (by decide) (by simp; omega)]; rfl
     rw [hd,bnoS]
     exact aGc (R:=0) hr w
   · rw [decide_eq_false hc,bC,if_neg hc]
     exact aGc (R:=0) (by omega) w
def putR (s:R12) (a:Int) (str:List UInt8):R12:=if str.drop (s.Base-a).toNat=[] then s else rB s ⟨max a s.Base,str.drop (s.Base-a).toNat⟩
theorem aGP {s:R12} (h:RX s) {a:Int} {str:List UInt8} (h1:s.Base≤a) (h2:a+(str.length:Int)≤limS s):∃ n,kD s s.Parts a str=some (if str=[] then s else rB s ⟨a,str⟩,n):=by
 by_cases hs:str=[]
 · rw [if_pos hs]
   exact ⟨0,aEb hs⟩
 · rw [if_neg hs]
   exact aET h (x:=⟨a,str⟩) hs h1 h2
theorem xput {s:R12} (h:RX s) {a:Int} {str:List UInt8} (h0:0≤a) (h2:a+(str.length:Int)≤limS s):∃ n,uM s a str=some (putR s a str,n):=by
 have b0:=h.b0; have b:=h.bh; have c:=h.rl; have d:=h.rm
 have hpl:=h.pl
 have hli:limS s=min (s.Base-s.Ready.length+4096) 1099511627776:=rfl
 have es:(⟨s.Base,s.Ready,s.Parts⟩:R12)=s:=rfl
 unfold uM
 rw [aGU (by omega),bnoS,es,bndD,decide_eq_false (show ¬a<0 by omega),bndD,decide_eq_false (show ¬1099511627776<a by omega),bndD,Bool.or_self,show (false == false)=true from rfl,gdtt,aEU h,bnoS,bndD,decide_eq_true rfl,bndD,show (false || !true)=false from rfl,bC,aGQ h,bnoS,bndD]
 unfold putR
 by_cases hc:limS s≤a
 · have:str=[]:=List.length_eq_zero_iff.1 (by omega)
   subst this
   rw [decide_eq_true hc,bH,List.drop_nil,if_pos rfl]
   exact ⟨0,rfl⟩
 · rw [decide_eq_false hc,bC,bndD,w64 (by omega) (by omega),bndD,Int.min_eq_left (by omega),aBQ (by omega) (Int.le_refl _),bnoS,bndD]
   have ht:str.take (str.length:Int).toNat=str:=by rw [Int.toNat_natCast,List.take_length]
   rw [ht]
   by_cases ha:a<s.Base
   · have hk:∀ k:List UInt8→Option (R12×Int),(bnd (min (str.length:Int) (s.Base-a)) fun x48=>bno (cut str x48 (str.length:Int)) k)=bno (some (str.drop (s.Base-a).toNat)) k:=fun k=>by
      have:=aCs (l:=str) (k:=s.Base-a) (by omega)
      rw [bndD] at this
      rw [bndD,this]
     rw [decide_eq_true ha,bH,bndD,w64 (by omega) (by omega),hk,bnoS]
     obtain ⟨n,hn⟩:=aGP h (a:=s.Base) (str:=str.drop (s.Base-a).toNat) (Int.le_refl _) (by rw [List.length_drop]; omega)
     rw [Int.max_eq_right (by omega)]
     exact ⟨n,hn⟩
   · rw [decide_eq_false ha,bC,show (s.Base-a).toNat=0 by omega,List.drop_zero,Int.max_eq_left (by omega)]
     exact aGP h (by omega) h2
theorem aCy {s:R12} (h:RX s) {a:Int} {str:List UInt8} (h2:a+(str.length:Int)≤limS s):Ov s (putR s a str) (ovM s ⟨a,str⟩):=by
 unfold putR
 by_cases hd:str.drop (s.Base-a).toNat=[]
 · rw [if_pos hd]
   refine (Ov.self h).ext fun n hn=>?_
   unfold ovM
   have hl:str.length≤(s.Base-a).toNat:=List.drop_eq_nil_iff.1 hd
   rw [show bm [(⟨a,str⟩:Pt)] n=none from jI (by show ¬(a≤n∧n<a+(str.length:Int)); omega),qR]
 · rw [if_neg hd]
   have hl:¬ str.length≤(s.Base-a).toNat:=fun hh=>hd (List.drop_eq_nil_iff.2 hh)
   refine (aEt h (x:=⟨max a s.Base,str.drop (s.Base-a).toNat⟩) hd (by show s.Base≤max a s.Base; omega) (by show max a s.Base+((str.drop (s.Base-a).toNat).length:Int)≤limS s; rw [List.length_drop]; omega)).ext fun n hn=>?_
   unfold ovM
   congr 1
   have e1:pe ⟨max a s.Base,str.drop (s.Base-a).toNat⟩=a+(str.length:Int):=by
    show max a s.Base+((str.drop (s.Base-a).toNat).length:Int)=_
    rw [List.length_drop]; omega
   have e2:pe ⟨a,str⟩=a+(str.length:Int):=rfl
   by_cases hi:a≤n∧n<a+(str.length:Int)
   · rw [nU (by show max a s.Base≤n∧n<_; rw [e1]; omega),nU (by rw [e2]; exact hi)]
     show (str.drop (s.Base-a).toNat)[(n-max a s.Base).toNat]? = str[(n-a).toNat]?
     rw [List.getElem?_drop]; congr 1; omega
   · rw [jI (by show ¬(max a s.Base≤n∧n<_); rw [e1]; omega),jI (by rw [e2]; exact hi)]
def uN (s:R12) (n:Int):Nat:=if n<1 then 0 else (min n (s.Ready.length:Int)).toNat
def aD7 (s:R12) (n:Int):R12:=⟨s.Base,s.Ready.drop (uN s n),s.Parts⟩
theorem xread {s:R12} (h:RX s) (n:Int):sQ s n=some (aD7 s n,s.Ready.take (uN s n)):=by
 have hpl:=h.pl
 have d:=h.rm
 have es:(⟨s.Base,s.Ready,s.Parts⟩:R12)=s:=rfl
 unfold sQ aD7 uN
 rw [aGU (by omega),bnoS,bndD]
 by_cases c:n<1
 · rw [decide_eq_true c,if_pos c]
   rfl
 · rw [decide_eq_false c,if_neg c,show (false == false)=true from rfl,gdtt,es,aEU h,bnoS,bndD,decide_eq_true rfl,bndD,show (false || !true)=false from rfl,bC,bndD,aBQ (by omega) (by omega),bnoS,aBP (by omega) (by omega),bnoS]
theorem rx_read {s:R12} (h:RX s) (n:Int):RX (aD7 s n):=by
 have d:=h.rm; have e:=h.rl
 refine ⟨h.b0,h.bh,by show ((s.Ready.drop (uN s n)).length:Int)≤s.Base; rw [List.length_drop]; omega,by show (s.Ready.drop (uN s n)).length≤4096; rw [List.length_drop]; omega,h.cp,fun p hp=>?_⟩
 have:=h.lm p hp
 show pe p≤s.Base-((s.Ready.drop (uN s n)).length:Int)+4096∧_
 rw [List.length_drop]; omega
end Go.Fn
open Go Go.IL
namespace Go.Fn
def ivp (x:Iv):Pt:=⟨x.From,List.replicate (x.To-x.From).toNat 0⟩
theorem aCT {x:Iv} (h:x.From<x.To):pe (ivp x)=x.To:=by
 show x.From+((List.replicate (x.To-x.From).toNat (0:UInt8)).length:Int)=_
 rw [List.length_replicate]; omega
theorem aE5:∀ {l:List Iv} {b:Int},l.Pairwise (fun x y=>x.To<y.From)→(∀ x∈l,x.From<x.To)→(∀ x∈l,b<x.From)→CP b (l.map ivp)
 | [],_,_,_,_=>trivial
 | x :: r,b,hp,hn,hb=>by
   obtain ⟨h1,h2⟩:=List.pairwise_cons.1 hp
   have hx:=hn x (by simp)
   refine ⟨hb x (by simp),fun e=>?_,?_⟩
   · have:(List.replicate (x.To-x.From).toNat (0:UInt8)).length=0:=by
      have e:List.replicate (x.To-x.From).toNat (0:UInt8)=[]:=e
      rw [e]; rfl
     rw [List.length_replicate] at this; omega
   · rw [aCT hx]
     exact aE5 h2 (fun y hy=>hn y (by simp [hy])) h1
theorem aCU:∀ {l:List Iv} (n:Int),(∀ x∈l,x.From<x.To)→(mem n l→bm (l.map ivp) n=some 0)∧(¬mem n l→bm (l.map ivp) n=none)
 | [],n,_=>⟨fun h=>(by obtain ⟨x,hx,_⟩:=h; cases hx),fun _=>rfl⟩
 | x :: r,n,hn=>by
   have hx:=hn x (by simp)
   have hr:=aCU n (l:=r) (fun y hy=>hn y (by simp [hy]))
   rw [List.map_cons]
   by_cases hi:x.From≤n∧n<x.To
   · have e:bm (ivp x::r.map ivp) n=some 0:=by
      rw [nU (by rw [aCT hx]; exact hi)]
      show (List.replicate (x.To-x.From).toNat (0:UInt8))[(n-x.From).toNat]? = _
      rw [List.getElem?_replicate,if_pos (by omega)]
     exact ⟨fun _=>e,fun h=>absurd ⟨x,by simp,hi⟩ h⟩
   · rw [jI (by rw [aCT hx]; exact hi)]
     exact ⟨fun h=>hr.1 ((mem_cons.1 h).resolve_left hi),fun h=>hr.2 fun k=>h (mem_cons.2 (.inr k))⟩
theorem aE4:∀ {l m:List Iv},(∀ x∈l,x.From<x.To)→(∀ x∈m,x.From<x.To)→l.map ivp=m.map ivp→l=m
 | [],[],_,_,_=>rfl
 | [],y::t,_,_,h=>by cases h
 | x::r,[],_,_,h=>by cases h
 | x::r,y::t,hl,hm,h=>by
   rw [List.map_cons,List.map_cons] at h
   injection h with h1 h2
   have e1:x.From=y.From:=by have:=congrArg aS.At h1; exact this
   have e2:x.To=y.To:=by
    have:=congrArg pe h1
    rwa [aCT (hl x (by simp)),aCT (hm y (by simp))] at this
   have:=aE4 (fun z hz=>hl z (by simp [hz])) (fun z hz=>hm z (by simp [hz])) h2
   cases x; cases y; simp only at e1 e2; rw [e1,e2,this]
theorem aBo {l m:List Iv} (hl:l.Pairwise (fun x y=>x.To<y.From)) (hm:m.Pairwise (fun x y=>x.To<y.From)) (nl:∀ x∈l,x.From<x.To) (nm:∀ x∈m,x.From<x.To) (h:∀ n,mem n l↔mem n m):l=m:=by
 have ex:∀ (l:List Iv),∃ b:Int,∀ x∈l,b<x.From:=fun l=>by
  induction l with
  | nil=>exact ⟨0,fun _ h=>by cases h⟩
  | cons x r ih =>
    obtain ⟨b,hb⟩:=ih
    refine ⟨min b (x.From-1),fun y hy=>?_⟩
    rcases List.mem_cons.1 hy with rfl | hy
    · omega
    · have:=hb y hy; omega
 obtain ⟨b,hb⟩:=ex l
 obtain ⟨c,hc⟩:=ex m
 refine aE4 nl nm (aB3 (aE5 hl nl hb) (aE5 hm nm hc) fun n=>?_)
 by_cases hn:mem n l
 · rw [(aCU n nl).1 hn,(aCU n nm).1 ((h n).1 hn)]
 · rw [(aCU n nl).2 hn,(aCU n nm).2 (fun k=>hn ((h n).2 k))]
end Go.Fn
open Go Go.IL
namespace Go.Fn
theorem aCr:∀ (A B:List Pt) (n:Int),bm (A++B) n=(bm A n).or (bm B n)
 | [],B,n=>by rw [List.nil_append]; show _=(none:Option UInt8).or _; rw [Option.none_or]
 | p::A,B,n=>by rw [List.cons_append,tV p (A++B),aCr A B n,tV p A,Option.or_assoc]
def WC:Int→List Pt→Prop
 | _,[]=>True
 | b,p::r=>b≤p.At∧p.Data≠[]∧WC (pe p) r
theorem wc_of {b:Int}:∀ {l:List Pt},CP b l→WC b l
 | [],_=>trivial
 | p::r,h=>⟨by have:=h.1; omega,h.2.1,wc_of h.2.2⟩
theorem wc_le {b c:Int}:∀ {l:List Pt},WC b l→c≤b→WC c l
 | [],_,_=>trivial
 | p::r,h,hc=>⟨by have:=h.1; omega,h.2⟩
def gl1:Pt→List Pt→List Pt
 | z,[]=>[z]
 | z,p::r=>if pe z=p.At then gl1 ⟨z.At,z.Data++p.Data⟩ r else z::gl1 p r
theorem aFN:∀ (r:List Pt) (z:Pt) (b:Int),b<z.At→z.Data≠[]→WC (pe z) r→CP b (gl1 z r)∧∀ n,bm (gl1 z r) n=bm (z::r) n
 | [],z,b,hb,hz,_=>⟨⟨hb,hz,trivial⟩,fun _=>rfl⟩
 | p :: r,z,b,hb,hz,h=>by
   have h1:=h.1
   have hpp:=qG h.2.1
   have hzz:=qG hz
   unfold gl1
   by_cases c:pe z=p.At
   · rw [if_pos c]
     have e:pe ⟨z.At,z.Data++p.Data⟩=pe p:=by
      show z.At+((z.Data++p.Data).length:Int)=pe p
      unfold pe at c ⊢
      rw [List.length_append]; omega
     obtain ⟨g1,g2⟩:=aFN r ⟨z.At,z.Data++p.Data⟩ b hb (by intro hh; exact hz (List.append_eq_nil_iff.1 hh).1) (by rw [e]; exact h.2.2)
     refine ⟨g1,fun n=>?_⟩
     rw [g2]
     by_cases hn:z.At≤n∧n<pe p
     · rw [nU (by rw [e]; exact hn)]
       show (z.Data++p.Data)[(n-z.At).toNat]? = _
       by_cases hz1:n<pe z
       · rw [nU ⟨hn.1,hz1⟩,List.getElem?_append_left (by unfold pe at hz1; omega)]
       · rw [jI (by omega),nU (by omega),List.getElem?_append_right (by unfold pe at hz1; omega)]
         congr 1; unfold pe at c; omega
     · rw [jI (by rw [e]; exact hn),jI (by omega),jI (by omega)]
   · rw [if_neg c]
     obtain ⟨g1,g2⟩:=aFN r p (pe z) (by omega) h.2.1 h.2.2
     refine ⟨⟨hb,hz,g1⟩,fun n=>?_⟩
     rw [tV z (gl1 p r),g2,tV z (p::r)]
theorem aCf {l:List Pt} {a:Int} {c:UInt8}:∀ {A C:List Pt} {b:Int},l=A++C→CP b l→(∀ p∈A,p.At<a)→(∀ p,C.head? = some p→a≤p.At)→b<a→bm l a=none→WC (b+1) (A++⟨a,[c]⟩::C)
 | [],C,b,hl,hc,_,hC,hb,hn=>by
   rw [List.nil_append] at hl
   subst hl
   refine ⟨hb,by simp,?_⟩
   cases l with
   | nil=>trivial
   | cons p r =>
     have h1:=hC p rfl
     have hpp:=qG hc.2.1
     have:p.At≠a:=fun e=>by
      rw [nU (by omega)] at hn
      exact nN (by omega) hn
     refine ⟨?_,hc.2.1,wc_of hc.2.2⟩
     show a+(([c]:List UInt8).length:Int)≤p.At
     simp; omega
 | p :: A,C,b,hl,hc,hA,hC,hb,hn=>by
   subst hl
   have hpp:=qG hc.2.1
   have h1:=hA p (by simp)
   have h2:pe p≤a:=by
    have hh:¬ (p.At≤a∧a<pe p):=fun hh=>by
     rw [List.cons_append,nU hh] at hn
     exact nN hh hn
    omega
   have hn2:bm (A++C) a=none:=by rwa [List.cons_append,jI (by omega)] at hn
   refine ⟨by have:=hc.1; omega,hc.2.1,?_⟩
   by_cases he:pe p<a
   · exact wc_le (aCf (l:=A++C) rfl hc.2.2 (fun q hq=>hA q (by simp [hq])) hC he hn2) (by omega)
   · have e:pe p=a:=by omega
     have hA0:A=[]:=by
      cases A with
      | nil=>rfl
      | cons q A =>
        have:=hA q (by simp)
        have:=hc.2.2.1
        omega
     subst hA0
     show WC (pe p) (⟨a,[c]⟩::C)
     refine ⟨by show pe p≤a; omega,by simp,?_⟩
     cases C with
     | nil=>trivial
     | cons q r =>
       have h3:pe p<q.At:=hc.2.2.1
       refine ⟨?_,hc.2.2.2.1,wc_of hc.2.2.2.2⟩
       show a+(([c]:List UInt8).length:Int)≤q.At
       simp; omega
def gl:List Pt→List Pt
 | []=>[]
 | p::r=>gl1 p r
theorem gl_ins {l A C:List Pt} {a b:Int} {c:UInt8} (hl:l=A++C) (hc:CP b l) (hA:∀ p∈A,p.At<a) (hC:∀ p,C.head? = some p→a≤p.At) (hb:b<a) (hn:bm l a=none):gl (A++⟨a,[c]⟩::C)=jP ⟨a,[c]⟩ l:=by
 have hw:=aCf (c:=c) hl hc hA hC hb hn
 obtain ⟨j1,j2⟩:=aDF l (x:=⟨a,[c]⟩) hc hb (by simp)
 have key:CP b (gl (A++⟨a,[c]⟩::C))∧∀ n,bm (gl (A++⟨a,[c]⟩::C)) n=bm (A++⟨a,[c]⟩::C) n:=by
  cases hL:A++⟨a,[c]⟩::C with
  | nil=>cases A <;> cases hL
  | cons p r =>
    rw [hL] at hw
    exact aFN r p b (by have:=hw.1; omega) hw.2.1 hw.2.2
 refine aB3 key.1 j1 fun n=>?_
 rw [key.2,j2,hl,aCr,aCr,tV]
 by_cases hx:n=a
 · subst hx
   rw [hl,aCr] at hn
   have h1:bm A n=none:=by cases h:bm A n with
    | none=>rfl
    | some z=>rw [h] at hn; cases hn
   rw [h1,Option.none_or] at hn
   rw [h1,hn,Option.none_or,Option.none_or,Option.none_or,qR]
 · have:bm [(⟨a,[c]⟩:Pt)] n=none:=jI (by show ¬(a≤n∧n<a+(([c]:List UInt8).length:Int)); simp; omega)
   rw [this,Option.none_or,qR]
end Go.Fn
open Go Go.IL
namespace Go.Fn
def hv (l:List Pt) (n:Int):Bool:=(bm l n).isSome
theorem hv_cons (p:Pt) (r:List Pt) (n:Int):hv (p::r) n=((decide (p.At≤n)&&decide (n<pe p))||hv r n):=by
 unfold hv
 by_cases h:p.At≤n∧n<pe p
 · rw [nU h,decide_eq_true h.1,decide_eq_true h.2,Bool.and_self,Bool.true_or]
   cases hc:p.Data[(n-p.At).toNat]? with
   | none=>exact absurd hc (nN h)
   | some c=>rfl
 · rw [jI h]
   have:(decide (p.At≤n)&&decide (n<pe p))=false:=by
    rw [Bool.eq_false_iff]; intro hh
    rw [Bool.and_eq_true,decide_eq_true_iff,decide_eq_true_iff] at hh
    exact h hh
   rw [this,Bool.false_or]
theorem aGd {s:R12} (h:RX s) (a:Int):∀ (r q:List Pt) (f:Nat),s.Parts=q++r→r.length<f→eV s a f (q.length:Int)=some (hv r a)
 | _,_,0,_,hf=>absurd hf (by omega)
 | [],q,f+1,hs,_=>by
   rw [eV,bndD,jO hs,bC]; rfl
 | p :: r,q,f+1,hs,hf=>by
   have hp:p∈s.Parts:=by rw [hs]; simp
   have hw:=(h.wi p hp).1
   have hl:=hw.len
   have h1:=hw.1; have h2:=hw.2
   have a0:=h.b0; have b:=h.bh; have c:=h.rl; have d:=h.rm
   have hpl:=h.pl
   have e2:pe p=p.At+(p.Data.length:Int):=rfl
   have hlo:lowS s=s.Base-s.Ready.length:=rfl
   have hli:limS s=min (s.Base-s.Ready.length+4096) 1099511627776:=rfl
   have hrec:=aGd h a r (q++[p]) f (by rw [hs]; simp) (by simpa using hf)
   have hw1:IntKind.wrap .i64 (p.At+(p.Data.length:Int))=pe p:=w64 (by omega) (by omega)
   rw [eV,bndD,jC hs,bH,dP hs,bnoS,bndD,hv_cons]
   by_cases c1:p.At≤a
   · rw [decide_eq_true c1,beq_self_eq_true,gdtt,bnoS,bnoS,bndD,hw1,bndD,bndD,Bool.true_and]
     by_cases c2:a<pe p
     · rw [decide_eq_true c2,bH]; rfl
     · rw [decide_eq_false c2,bC,w_at hs (by omega),bndD,hrec,Bool.false_or]
   · rw [decide_eq_false c1,ft,gdff,bnoS,bnoS,bndD,bndD,bndD,Bool.false_and,bC,w_at hs (by omega),bndD,hrec,Bool.false_and,Bool.false_or]
theorem rhave {s:R12} (h:RX s) (a:Int):oE s a=some (hv s.Parts a):=aGd h a s.Parts [] fuel rfl (dN (by have:=h.pl; omega))
theorem in_last {A:List Pt} {z:Pt}:gix (A++[z]) (A.length:Int)=some z:=dP (p:=A) (r:=[]) rfl
theorem aGE {A:List Pt} {z:Pt}:(A++[z])[(A.length:Int).toNat]? = some z:=by
 rw [Int.toNat_natCast,List.getElem?_append_right (Nat.le_refl _)]; simp
theorem aFm {A:List Pt} {z w:Pt}:(A++[z]).set (A.length:Int).toNat w=A++[w]:=by
 rw [Int.toNat_natCast,List.set_append_right _ _ (Nat.le_refl _)]; simp
theorem aDL {α:Type} {l p r:List α} {x:α} (h:l=p++x::r):l[(p.length:Int).toNat]? = some x:=by
 rw [h,Int.toNat_natCast,List.getElem?_append_right (Nat.le_refl _)]; simp
theorem aFD {l:List Pt} {lo hi:Int} (hl:l.length≤10000) (h0:0≤lo) (h1:hi≤4398046511104) (hw:hi-lo≤100000) (hwi:∀ p∈l,Wi lo hi p):∀ (r q A:List Pt) (z:Pt) (f:Nat),l=q++r→r.length<f→A.length≤q.length→Wi lo hi z→cW l f (A++[z]) (q.length:Int)=some (A++gl1 z r)
 | _,_,_,_,0,_,hf,_,_=>absurd hf (by omega)
 | [],q,A,z,f+1,hs,_,_,_=>by
   rw [cW,bndD,jO hs,bC]; rfl
 | p :: r,q,A,z,f+1,hs,hf,hA,hz=>by
   have hp:=hwi p (by rw [hs]; simp)
   have hpl:=hp.len; have hzl:=hz.len
   have a1:=hz.1; have a2:=hz.2; have a3:=hp.1; have a4:=hp.2
   have e2:pe z=z.At+(z.Data.length:Int):=rfl
   have e3:pe p=p.At+(p.Data.length:Int):=rfl
   have hq:q.length≤10000:=by rw [hs] at hl; simp at hl; omega
   have hpz:decide ((0:Int)<((A++[z]).length:Int))=true:=decide_eq_true (by rw [List.length_append,List.length_singleton]; omega)
   have hwl:IntKind.wrap .i64 (((A++[z]).length:Int)-1)=(A.length:Int):=by rw [List.length_append,List.length_singleton,w64 (by omega) (by omega)]; omega
   have hwz:IntKind.wrap .i64 (z.At+(z.Data.length:Int))=pe z:=w64 (by omega) (by omega)
   rw [cW,bndD,jC hs,bH]
   simp only [bndD,hpz,beq_self_eq_true,hwl,gdtt,in_last,bnoS,aGE,hwz,dP hs,aDL hs,Bool.true_and]
   unfold gl1
   by_cases c:pe z=p.At
   · have hrec:=aFD hl h0 h1 hw hwi r (q++[p]) A ⟨z.At,z.Data++p.Data⟩ f (by rw [hs]; simp) (by simpa using hf) (by simp; omega) ⟨a1,by show z.At+((z.Data++p.Data).length:Int)≤hi; rw [List.length_append]; omega⟩
     rw [decide_eq_true c,bH,if_pos c,aAK (by omega)]
     simp only [bnoS,aFm,w_at hs (show l.length≤1000000 by omega)]
     exact hrec
   · have hrec:=aFD hl h0 h1 hw hwi r (q++[p]) (A++[z]) p f (by rw [hs]; simp) (by simpa using hf) (by simp; omega) hp
     rw [decide_eq_false c,bC,if_neg c,gZ (by simp; omega) (by simp; omega),bnoS,w_at hs (by omega),hrec]
     simp
theorem ins_L1' {l:List Pt} {lo hi:Int} (hl:l.length≤10000) (h0:0≤lo) (h1:hi≤4398046511104) (hw:hi-lo≤100000) (hwi:∀ p∈l,Wi lo hi p):cW l fuel [] 0=some (gl l):=by
 obtain ⟨f,hf⟩:∃ f,fuel=f+1:=⟨fuel-1,by have:=dN (n:=1) (by decide); omega⟩
 have hfl:=dN (n:=20000) (by decide)
 rw [hf]
 cases l with
 | nil=>rw [cW,bndD]; rfl
 | cons p r =>
   have hs:p::r=[]++p::r:=rfl
   have hrec:=aFD hl h0 h1 hw hwi r [p] [] p f rfl (by simp at hl; omega) (by simp) (hwi p (by simp))
   have e0:((([]:List Pt).length:Int))=0:=rfl
   have hz:(0:Int)=(([]:List Pt).length:Int):=rfl
   rw [cW,hz,bndD,jC hs,bH]
   simp only [bndD,show decide ((([]:List Pt).length:Int)<(([]:List Pt).length:Int))=false from rfl,ft,gdff,bnoS,Bool.false_and,bC,dP hs,aDL hs]
   rw [gZ (by simp) (by simp),bnoS,w_at hs (by omega)]
   exact hrec
theorem aGY {l:List Pt} {lo hi a b:Int} {c:UInt8} (hl:l.length≤9000) (h0:0≤lo) (h1:hi≤4398046511104) (hw:hi-lo≤100000) (hwi:∀ p∈l,Wi lo hi p) (hx:Wi lo hi ⟨a,[c]⟩) (hc:CP b l) (hb:b<a) (hn:bm l a=none):∀ (r q:List Pt) (f:Nat),l=q++r→r.length<f→(∀ p∈q,p.At<a)→eB l a [c] f (q.length:Int)=some (jP ⟨a,[c]⟩ l)
 | _,_,0,_,hf,_=>absurd hf (by omega)
 | r, q,f+1,hs,hf,hq=>by
   have hql:q.length≤9000:=by rw [hs] at hl; simp at hl; omega
   have hrl:q.length+r.length≤9000:=by rw [hs,List.length_append] at hl; exact hl
   have fin:(∀ p,r.head? = some p→a≤p.At)→(bno (cut l 0 (q.length:Int)) fun x20=>bno (app 24 ([]:List Pt) x20) fun x21=>bno (app 24 x21 (([(⟨a,[c]⟩:Pt)]:List Pt))) fun x22=>bno (cut l (q.length:Int) (l.length:Int)) fun x23=>bno (app 24 x22 x23) fun x24=>cW x24 fuel ([]:List Pt) 0)=some (jP ⟨a,[c]⟩ l):=fun hC=>by
    have e:q++[(⟨a,[c]⟩:Pt)]++r=q++⟨a,[c]⟩::r:=by simp
    rw [aBR hs,bnoS,gZ (by simp; omega) (by simp; omega),bnoS,List.nil_append,gZ (by simp; omega) (by simp; omega),bnoS,yY hs,bnoS,gZ (by simp; omega) (by simp; omega),bnoS,e,ins_L1' (lo:=lo) (hi:=hi) (by simp; omega) h0 h1 hw (fun p hp=>?_),gl_ins hs hc hq hC hb hn]
    rcases List.mem_append.1 hp with hp | hp
    · exact hwi p (by rw [hs]; simp [hp])
    · rcases List.mem_cons.1 hp with rfl | hp
      · exact hx
      · exact hwi p (by rw [hs]; simp [hp])
   cases r with
   | nil =>
     rw [eB,bndD,jO hs,ft,gdff,bnoS,bndD,bndD,Bool.false_and,bC]
     exact fin (fun p hp=>by cases hp)
   | cons p r =>
     rw [eB,bndD,jC hs,beq_self_eq_true,gdtt,dP hs,bnoS,bndD,bndD,Bool.true_and]
     by_cases c1:p.At<a
     · rw [decide_eq_true c1,bH,w_at hs (by omega),bndD]
       exact aGY hl h0 h1 hw hwi hx hc hb hn r (q++[p]) f (by rw [hs]; simp) (by simpa using hf) (fun y hy=>by
        rcases List.mem_append.1 hy with hy | hy
        · exact hq y hy
        · rcases List.mem_cons.1 hy with rfl | hy
          · exact c1
          · cases hy)
     · rw [decide_eq_false c1,bC]
       exact fin (fun y hy=>by injection hy with hy; subst hy; omega)
end Go.Fn
open Go Go.IL
namespace Go.Fn
theorem zR (s:R12):limS s=min (lowS s+4096) 1099511627776:=rfl
theorem aDZ {s:R12} (h:RX s):gW s=some (limS s):=by
 have a:=h.b0; have b:=h.bh; have c:=h.rl; have d:=h.rm
 unfold gW limS
 rw [w64 (by omega) (by omega),bndD,w64 (by omega) (by omega),bndD,bndD,Int.min_comm]
theorem aF7 {x:Pt} (hx:x.At≤pe x):∀ {l:List Pt},CP (pe x) l→jP x l=x::l
 | [],_=>rfl
 | p::r,h=>by
   have:=h.1
   have:=qG h.2.1
   unfold jP
   rw [if_neg (by omega),if_pos (by omega)]
theorem one_ok {s:R12} (h:RX s) {a:Int} {c:UInt8} (h1 : -1000000≤a) (h2:a<limS s):lJ s a [c]=some (if a<s.Base∨hv s.Parts a=true then (s,false) else (rB s ⟨a,[c]⟩,true)):=by
 have b0:=h.b0; have b:=h.bh; have c0:=h.rl; have d:=h.rm
 have hpl:=h.pl
 have hli:limS s=min (s.Base-s.Ready.length+4096) 1099511627776:=rfl
 have hlo:lowS s=s.Base-s.Ready.length:=rfl
 have es:(⟨s.Base,s.Ready,s.Parts⟩:R12)=s:=rfl
 unfold lJ
 rw [bndD]
 by_cases c1:a<s.Base
 · rw [decide_eq_true c1,show (true == false)=false from rfl,gdff,bnoS,bndD,bndD,Bool.true_or,show (true == false)=false from rfl,gdff,bnoS,bndD,Bool.true_or,bH,if_pos (.inl c1)]
 · rw [decide_eq_false c1,show (false == false)=true from rfl,gdtt,aDZ h,bnoS,bndD,decide_eq_false (show ¬limS s≤a by omega),bndD,Bool.or_self,show (false == false)=true from rfl,gdtt,rhave h,bnoS,bndD,Bool.false_or]
   by_cases c2:hv s.Parts a=true
   · rw [c2,bH,if_pos (.inr rfl)]
   · have c2f:hv s.Parts a=false:=Bool.not_eq_true _ |>.mp c2
     have hn:bm s.Parts a=none:=by
      unfold hv at c2f
      cases hb:bm s.Parts a with
      | none=>rfl
      | some z=>rw [hb] at c2f; cases c2f
     rw [c2f,bC,if_neg (by rintro (hh | hh); exact c1 hh; cases hh),bndD]
     have hpx:pe (⟨a,[c]⟩:Pt)=a+1:=by show a+(([c]:List UInt8).length:Int)=a+1; simp
     by_cases c3:s.Base<a
     · have hw:Wi (lowS s) (limS s) ⟨a,[c]⟩:=⟨by show lowS s≤a; omega,by rw [hpx]; omega⟩
       have hi:mU s.Parts a [c]=some (jP ⟨a,[c]⟩ s.Parts):=aGY (lo:=lowS s) (hi:=limS s) (by omega) (by omega) (by omega) (by omega) (fun p hp=>(h.wi p hp).1) hw h.cp c3 hn s.Parts [] fuel rfl (dN (by omega)) (fun _ hp=>by cases hp)
       rw [decide_eq_true c3,bH,hi,bnoS]
       obtain ⟨j1,_⟩:=aDF s.Parts (x:=⟨a,[c]⟩) h.cp c3 (by simp)
       unfold rB
       cases hj:jP ⟨a,[c]⟩ s.Parts with
       | nil =>
         have:=(aDF s.Parts (x:=⟨a,[c]⟩) h.cp c3 (by simp)).2 a
         rw [hj,hn,Option.none_or,nU (by rw [hpx]; show a≤a∧_; omega)] at this
         exact absurd this.symm (nN (by rw [hpx]; show a≤a∧_; omega))
       | cons p r =>
         rw [hj] at j1
         have:=j1.1
         simp only
         rw [if_neg (by omega)]
     · have ea:a=s.Base:=by omega
       subst ea
       rw [decide_eq_false c3,bC,w64 (by omega) (by omega),bndD,aAK (by simp; omega),bnoS,bndD]
       unfold rB
       cases hP:s.Parts with
       | nil =>
         rw [show decide ((0:Int)<(([]:List Pt).length:Int))=false from rfl,ft,gdff,bnoS,bndD,bndD,Bool.false_and,bC]
         show _=some ((if s.Base=s.Base then (⟨pe ⟨s.Base,[c]⟩,s.Ready++[c],[]⟩:R12) else _),true)
         rw [if_pos rfl,hpx]
       | cons p r =>
         have hcp:=h.cp
         rw [hP] at hcp
         have hp1:=hcp.1
         have hpp:=qG hcp.2.1
         have hp:p∈s.Parts:=by rw [hP]; simp
         have hw:=(h.wi p hp).1
         have hpl:=hw.len
         have hw1:=hw.1; have hw2:=hw.2
         have e3:pe p=p.At+(p.Data.length:Int):=rfl
         rw [show decide ((0:Int)<((p::r).length:Int))=true from decide_eq_true (by rw [List.length_cons]; omega),beq_self_eq_true,gdtt,show gix (p::r) 0=some p from rfl,bnoS,bndD,bndD,Bool.true_and]
         unfold jP
         rw [if_neg (show ¬pe p<s.Base by omega),hpx]
         by_cases c4:p.At=s.Base+1
         · rw [decide_eq_true c4,bH,bnoS,w64 (by omega) (by omega),bndD,bnoS,aAK (by simp; omega),bnoS,show cut (p::r) 1 ((p::r).length:Int)=some r from yY (p:=[p]) (r:=r) rfl,bnoS,if_neg (by omega)]
           have em:mg p ⟨s.Base,[c]⟩=⟨s.Base,[c]++p.Data⟩:=by
            unfold mg
            rw [if_neg (by show ¬p.At≤s.Base; omega)]
            show (⟨s.Base,([c]:List UInt8).take (p.At-s.Base).toNat++p.Data++([c]:List UInt8).drop (pe p-s.Base).toNat⟩:Pt)=_
            rw [List.take_of_length_le (by simp; omega),List.drop_eq_nil_of_le (by simp; omega),List.append_nil]
           have epe:pe (⟨s.Base,[c]++p.Data⟩:Pt)=pe p:=by
            show s.Base+(([c]++p.Data).length:Int)=_
            rw [List.length_append,List.length_singleton]; omega
           rw [em,aF7 (by rw [epe]; show s.Base≤pe p; omega) (by rw [epe]; exact hcp.2.2)]
           show _=some ((if s.Base=s.Base then (⟨pe ⟨s.Base,[c]++p.Data⟩,s.Ready++([c]++p.Data),r⟩:R12) else _),true)
           rw [if_pos rfl,epe,List.append_assoc,c4.symm]; rfl
         · rw [decide_eq_false c4,bC,if_pos (by omega)]
           show _=some ((if s.Base=s.Base then (⟨pe ⟨s.Base,[c]⟩,s.Ready++[c],p::r⟩:R12) else _),true)
           rw [if_pos rfl,hpx]
theorem bm_take {a:Int} {str q r:List UInt8} {c:UInt8} (hs:str=q++c::r) (n:Int):bm [(⟨a,q++[c]⟩:Pt)] n=(bm [(⟨a,q⟩:Pt)] n).or (bm [(⟨a+(q.length:Int),[c]⟩:Pt)] n):=by
 have e1:pe (⟨a,q++[c]⟩:Pt)=a+(q.length:Int)+1:=by show a+((q++[c]).length:Int)=_; rw [List.length_append,List.length_singleton]; omega
 have e2:pe (⟨a,q⟩:Pt)=a+(q.length:Int):=rfl
 have e3:pe (⟨a+(q.length:Int),[c]⟩:Pt)=a+(q.length:Int)+1:=by show a+(q.length:Int)+(([c]:List UInt8).length:Int)=_; simp
 by_cases h1:a≤n∧n<a+(q.length:Int)
 · rw [nU (p:=⟨a,q++[c]⟩) (by rw [e1]; show a≤n∧_; omega),nU (p:=⟨a,q⟩) (by rw [e2]; exact h1),yL (nN (p:=⟨a,q⟩) (by rw [e2]; exact h1))]
   show (q++[c])[(n-a).toNat]? = q[(n-a).toNat]?
   rw [List.getElem?_append_left (by omega)]
 · rw [jI (p:=⟨a,q⟩) (by rw [e2]; exact h1),show bm [] n=none from rfl,Option.none_or]
   by_cases h2:n=a+(q.length:Int)
   · rw [nU (p:=⟨a,q++[c]⟩) (by rw [e1]; show a≤n∧_; omega),nU (p:=⟨a+(q.length:Int),[c]⟩) (by rw [e3]; show a+(q.length:Int)≤n∧_; omega)]
     show (q++[c])[(n-a).toNat]? = ([c]:List UInt8)[(n-(a+(q.length:Int))).toNat]?
     rw [List.getElem?_append_right (by omega)]
     congr 1; omega
   · rw [jI (p:=⟨a,q++[c]⟩) (by rw [e1]; show ¬(a≤n∧_); omega),jI (p:=⟨a+(q.length:Int),[c]⟩) (by rw [e3]; show ¬(a+(q.length:Int)≤n∧_); omega)]
theorem put_L {s0:R12} (h0:RX s0) {a:Int} {str:List UInt8} (ha:0≤a) (hl:a+(str.length:Int)≤limS s0):∀ (r q:List UInt8) (f:Nat) (s:R12) (k:Int),str=q++r→r.length<f→Ov s0 s (ovM s0 ⟨a,q⟩)→0≤k∧k≤q.length →
 ∃ n,eR a str f k (q.length:Int) s.Base s.Ready s.Parts=some (putR s0 a str,n)
 | _,_,0,_,_,_,hf,_,_=>absurd hf (by omega)
 | [],q,f+1,s,k,hs,_,ho,_=>by
   rw [eR,bndD,jO hs,bC]
   rw [List.append_nil] at hs
   subst hs
   have:=ho.uniq (aCy h0 hl)
   exact ⟨k,by rw [←this]⟩
 | c :: r,q,f+1,s,k,hs,hf,ho,hk=>by
   have hll:limS s=limS s0:=by rw [zR,zR,ho.low]
   have hst:(str.length:Int)≤2000000000000:=by have:=h0.bh; rw [zR] at hl; omega
   have hq:(q.length:Int)<str.length:=by rw [hs]; simp; omega
   have hcut:cut str (q.length:Int) ((q.length:Int)+1)=some [c]:=by
    rw [aDs (by omega) (by omega) (by omega),show ((q.length:Int)+1).toNat=q.length+1 by omega,Int.toNat_natCast,hs]
    congr 1
    rw [List.take_append,List.take_of_length_le (by omega),show q.length+1-q.length=1 by omega,List.drop_append,List.drop_length,Nat.sub_self]
    rfl
   have hw1:IntKind.wrap .i64 (a+(q.length:Int))=a+(q.length:Int):=w64 (by omega) (by rw [zR] at hl; omega)
   have hw2:IntKind.wrap .i64 ((q.length:Int)+1)=((q++[c]).length:Int):=by rw [w64 (by omega) (by omega),List.length_append,List.length_singleton]; rfl
   have hwc:(((q++[c]).length:Nat):Int)=(q.length:Int)+1:=by rw [List.length_append,List.length_singleton]; rfl
   have hone:=one_ok ho.rx (a:=a+(q.length:Int)) (c:=c) (by omega) (by omega)
   have hone:lJ ⟨s.Base,s.Ready,s.Parts⟩ (a+(q.length:Int)) [c]=_:=hone
   rw [eR,bndD,jC hs,bH,bndD,hw1,bndD,hw2,hwc,hcut,bnoS,hone,bnoS]
   have hM:∀ n,ovM s0 ⟨a,q++[c]⟩ n=(ovM s0 ⟨a,q⟩ n).or (bm [(⟨a+(q.length:Int),[c]⟩:Pt)] n):=fun n=>by
    unfold ovM
    rw [bm_take hs,Option.or_assoc]
   have e3:pe (⟨a+(q.length:Int),[c]⟩:Pt)=a+(q.length:Int)+1:=by show a+(q.length:Int)+(([c]:List UInt8).length:Int)=_; simp
   have hat:∀ n,n≠a+(q.length:Int)→bm [(⟨a+(q.length:Int),[c]⟩:Pt)] n=none:=fun n hn=>jI (by rw [e3]; show ¬(a+(q.length:Int)≤n∧_); omega)
   by_cases hc:a+(q.length:Int)<s.Base∨hv s.Parts (a+(q.length:Int))=true
   · rw [if_pos hc,bC,bndD]
     have ho':Ov s0 s (ovM s0 ⟨a,q++[c]⟩):=ho.ext fun n hn=>by
      rw [hM]
      by_cases hne:n=a+(q.length:Int)
      · subst hne
        refine (yL ?_ _).symm
        by_cases hb:a+(q.length:Int)<s.Base
        · obtain ⟨D,d1,d2,d3⟩:=ho.rd
          rw [←d3 _ hn hb,Ne,List.getElem?_eq_none_iff]; omega
        · have hv1:=hc.resolve_left hb
          rw [←ho.pm _ (by omega)]
          unfold hv at hv1
          intro hh; rw [hh] at hv1; cases hv1
      · rw [hat n hne,qR]
     have:=put_L h0 ha hl r (q++[c]) f s k (by rw [hs]; simp) (by simpa using hf) ho' ⟨hk.1,by rw [List.length_append]; omega⟩
     rw [hwc] at this
     exact this
   · rw [if_neg hc,bH,w64 (by omega) (by omega),bndD,bndD]
     have hb:¬ a+(q.length:Int)<s.Base:=fun hh=>hc (.inl hh)
     have ho':Ov s0 (rB s ⟨a+(q.length:Int),[c]⟩) (ovM s0 ⟨a,q++[c]⟩):=(ho.trans (aEt ho.rx (x:=⟨a+(q.length:Int),[c]⟩) (by simp) (by show s.Base≤a+(q.length:Int); omega) (by rw [e3,hll]; omega))).ext fun n hn=>by
      rw [hM]
      by_cases hns:n<s.Base
      · rw [if_pos hns,hat n (by omega),qR]
      · rw [if_neg hns]
        rw [←ho.pm n (by omega)]; rfl
     have:=put_L h0 ha hl r (q++[c]) f _ (k+1) (by rw [hs]; simp) (by simpa using hf) ho' ⟨by omega,by rw [List.length_append,List.length_singleton]; omega⟩
     rw [hwc] at this
     exact this
theorem aBG {s:R12} (h:RX s):∀ (r q:List Pt) (f:Nat) (e:Int),s.Parts=q++r→r.length<f→CP e r→eN s f e (q.length:Int)=some 0
 | _,_,0,_,_,hf,_=>absurd hf (by omega)
 | [],q,f+1,e,hs,_,_=>by
   rw [eN,bndD,jO hs,bC]
 | p::r,q,f+1,e,hs,hf,hc=>by
   have hp:p∈s.Parts:=by rw [hs]; simp
   have hw:=(h.wi p hp).1
   have hl:=hw.len
   have h1:=hw.1; have h2:=hw.2
   have h3:=hc.1
   have a:=h.b0; have b:=h.bh; have c:=h.rl; have d:=h.rm
   have hpl:=h.pl
   have e2:pe p=p.At+(p.Data.length:Int):=rfl
   have hlo:lowS s=s.Base-s.Ready.length:=rfl
   have hli:limS s=min (s.Base-s.Ready.length+4096) 1099511627776:=rfl
   have hrec:=aBG h r (q++[p]) f (pe p) (by rw [hs]; simp) (by simpa using hf) hc.2.2
   unfold eN
   simp only [bndD,jC hs,bH,dP hs,bnoS,decide_eq_false (show ¬p.At≤e by omega),decide_eq_false hc.2.1,Bool.or_self,beq_self_eq_true,gdtt,aDZ h,decide_eq_false (show ¬limS s<p.At by omega),w64 (show -9223372036854775808≤limS s-p.At by omega) (by omega),decide_eq_false (show ¬limS s-p.At<(p.Data.length:Int) by omega),bC,w64 (show -9223372036854775808≤p.At+(p.Data.length:Int) by omega) (by omega),w_at hs (by omega)]
   rw [←e2]
   exact hrec
theorem aBe {s:R12} (h:RX s):gX s=some 0:=by
 have b:=h.b0; have c:=h.bh; have d:=h.rl; have e:=h.rm
 unfold gX
 simp only [bndD,decide_eq_false (show ¬s.Base<0 by omega),decide_eq_false (show ¬1099511627776<s.Base by omega),Bool.or_self,decide_eq_false (show ¬(4096:Int)<(s.Ready.length:Int) by omega),decide_eq_false (show ¬s.Base<(s.Ready.length:Int) by omega),bC]
 exact aBG h s.Parts [] fuel s.Base rfl (dN (by have:=h.pl; omega)) h.cp
theorem rput12 {s:R12} (h:RX s) {a:Int} {str:List UInt8} (h0:0≤a) (h2:a+(str.length:Int)≤limS s):∃ n,lK s a str=some (putR s a str,n):=by
 have hb:=h.bh
 have hl:=zR s
 unfold lK
 rw [aBe h,bnoS,bndD,decide_eq_true rfl,bndD,decide_eq_false (show ¬a<0 by omega),bndD,show (!true||false)=false from rfl,bndD,decide_eq_false (show ¬1099511627776<a by omega),bndD,Bool.or_self,bC]
 have ho:Ov s s (ovM s ⟨a,[]⟩):=(Ov.self h).ext fun n _=>by
  unfold ovM
  rw [show bm [(⟨a,[]⟩:Pt)] n=none from jI (by show ¬(a≤n∧n<a+(([]:List UInt8).length:Int)); simp),qR]
 exact put_L h h0 h2 str [] fuel s 0 rfl (dN (by omega)) ho ⟨by omega,by simp⟩
theorem rread12 {s:R12} (h:RX s) (n:Int):mL s n=some (aD7 s n,s.Ready.take (uN s n)):=by
 have d:=h.rm
 unfold mL aD7 uN
 rw [aBe h,bnoS,bndD,decide_eq_true rfl,bndD,bndD]
 by_cases c:n<1
 · rw [decide_eq_true c,if_pos c]; rfl
 · rw [decide_eq_false c,if_neg c,show (!true||false)=false from rfl,bC,bndD,aBQ (by omega) (by omega),bnoS,aBP (by omega) (by omega),bnoS]
end Go.Fn
open Go Go.IL
namespace Go.Fn
def inI (v:Int):List Int→List Int
 | []=>[v]
 | y::r=>if y<v then y::inI v r else if y=v then y::r else v::y::r
theorem aDJ (v x:Int):∀ l,x∈inI v l↔x=v∨x∈l
 | []=>by simp [inI]
 | y :: r=>by
   unfold inI
   by_cases c:y<v
   · rw [if_pos c,List.mem_cons,aDJ v x r,List.mem_cons]
     constructor
     · rintro (h | h | h)
       · exact .inr (.inl h)
       · exact .inl h
       · exact .inr (.inr h)
     · rintro (h | h | h)
       · exact .inr (.inl h)
       · exact .inl h
       · exact .inr (.inr h)
   · rw [if_neg c]
     by_cases d:y=v
     · rw [if_pos d]
       subst d
       exact ⟨.inr,fun h=>h.elim (fun e=>by rw [e]; simp) id⟩
     · rw [if_neg d,List.mem_cons]
theorem aGZ {v:Int}:∀ {l:List Int},l.Pairwise (· < ·)→(inI v l).Pairwise (· < ·)
 | [],_=>List.pairwise_singleton _ _
 | y :: r,h=>by
   obtain ⟨h1,h2⟩:=List.pairwise_cons.1 h
   unfold inI
   by_cases c:y<v
   · rw [if_pos c]
     refine List.pairwise_cons.2 ⟨fun z hz=>?_,aGZ h2⟩
     rcases (aDJ v z r).1 hz with rfl | hz
     · exact c
     · exact h1 z hz
   · rw [if_neg c]
     by_cases d:y=v
     · rw [if_pos d]; exact h
     · rw [if_neg d]
       refine List.pairwise_cons.2 ⟨fun z hz=>?_,h⟩
       rcases List.mem_cons.1 hz with rfl | hz
       · omega
       · have:=h1 z hz; omega
theorem aFE (v:Int):∀ l,(inI v l).length≤l.length+1
 | []=>Nat.le_refl _
 | y::r=>by
   unfold inI
   have:=aFE v r
   split
   · simp; omega
   · split <;> simp
theorem aFR {all l:List Int} {i v:Int} (hi:0≤i∧i≤1000000) (hv:gix all i=some v) (hl:l.length≤100000) (kk:List Int→Int→Option (List Int)):∀ (r p:List Int) (f:Nat),l=p++r→r.length<f →
 eE all l i kk f (p.length:Int)=kk (p++inI v r) (i+1)
 | _,_,0,_,hf=>absurd hf (by omega)
 | [],p,f+1,hs,_=>by
   rw [List.append_nil] at hs
   subst hs
   have hn:decide ((l.length:Int)<(l.length:Int))=false:=decide_eq_false (by omega)
   rw [eE]
   simp only [bndD,hn,ft,gdff,bnoS,Bool.false_and,bC,hv]
   rw [aBQ (by omega) (Int.le_refl _),bnoS,gZ (by simp; omega) (by simp; omega),bnoS,gZ (by simp; omega) (by simp; omega),bnoS,aBP (by omega) (Int.le_refl _),bnoS,gZ (by simp; omega) (by simp; omega),bnoS,w64 (by omega) (by omega)]
   simp [inI]
 | y :: r,p,f+1,hs,hf=>by
   have hpl:p.length≤100000:=by rw [hs,List.length_append] at hl; omega
   rw [eE]
   simp only [bndD,jC hs,beq_self_eq_true,gdtt,dP hs,bnoS,hv,Bool.true_and]
   unfold inI
   by_cases c:y<v
   · have hrec:=aFR hi hv hl kk r (p++[y]) f (by rw [hs]; simp) (by simpa using hf)
     rw [decide_eq_true c,bH,if_pos c,w_at hs (by omega),hrec]
     simp
   · rw [decide_eq_false c,bC,if_neg c]
     by_cases d:y=v
     · rw [decide_eq_true d,bH,if_pos d,w64 (by omega) (by omega),←hs]
     · have hrl:p.length+(y::r).length≤100000:=by rw [hs,List.length_append] at hl; exact hl
       rw [decide_eq_false d,bC,if_neg d,aBR hs,bnoS,gZ (by simp; omega) (by simp; omega),bnoS,gZ (by simp; omega) (by simp; omega),bnoS,yY hs,bnoS,gZ (by simp at hrl ⊢; omega) (by simp at hrl ⊢; omega),bnoS,w64 (by omega) (by omega)]
       simp
theorem aFS {all:List Int} (hl:all.length≤90000):∀ (r q:List Int) (f:Nat) (acc:List Int),all=q++r→r.length<f→acc.Pairwise (· < ·)→acc.length≤q.length →
 ∃ e,cX all f acc (q.length:Int)=some e∧e.Pairwise (· < ·)∧(∀ x,x∈e↔x∈acc∨x∈r)∧e.length≤90000
 | _,_,0,_,_,hf,_,_=>absurd hf (by omega)
 | [],q,f+1,acc,hs,_,ha,hc=>by
   rw [cX,bndD,jO hs,bC]
   rw [List.append_nil] at hs
   exact ⟨acc,rfl,ha,fun x=>by simp,by rw [hs] at hl; omega⟩
 | v :: r,q,f+1,acc,hs,hf,ha,hc=>by
   have hql:q.length+(v::r).length≤90000:=by rw [hs,List.length_append] at hl; exact hl
   rw [cX,bndD,jC hs,bH]
   have h3:=aFR (all:=all) (l:=acc) (i:=(q.length:Int)) (v:=v) (by omega) (dP hs) (by omega) (cX all f) acc [] fuel rfl (dN (by omega))
   have h3:eE all acc (q.length:Int) (cX all f) fuel 0=_:=h3
   have hq1:(q.length:Int)+1=((q++[v]).length:Int):=by simp
   obtain ⟨e,e1,e2,e3,e4⟩:=aFS hl r (q++[v]) f (inI v acc) (by rw [hs]; simp) (by simpa using hf) (aGZ ha) (by have:=aFE v acc; simp; omega)
   rw [h3,List.nil_append,hq1]
   refine ⟨e,e1,e2,fun x=>?_,e4⟩
   rw [e3,aDJ,List.mem_cons]
   constructor
   · rintro ((h | h) | h)
     · exact .inr (.inl h)
     · exact .inl h
     · exact .inr (.inr h)
   · rintro (h | h | h)
     · exact .inl (.inr h)
     · exact .inl (.inl h)
     · exact .inr h
def endL (l:List Iv):List Int:=l.flatMap fun x=>[x.From,x.To]
theorem vL:∀ l:List Iv,(endL l).length=2*l.length
 | []=>rfl
 | x::r=>by
   show ([x.From,x.To]++endL r).length=_
   rw [List.length_append,vL r]; simp; omega
theorem aFT {b:List Iv} {base:List Int} (hb:b.length≤20000) (hbl:base.length≤40000):∀ (r q:List Iv) (f:Nat),b=q++r→r.length<f →
 eX b f (base++endL q) (q.length:Int)=cX (base++endL b) fuel [] 0
 | _,_,0,_,hf=>absurd hf (by omega)
 | [],q,f+1,hs,_=>by
   rw [eX,bndD,jO hs,bC]
   rw [List.append_nil] at hs
   rw [hs]
 | x::r,q,f+1,hs,hf=>by
   have hq:q.length≤20000:=by rw [hs,List.length_append] at hb; omega
   have hrec:=aFT hb hbl r (q++[x]) f (by rw [hs]; simp) (by simpa using hf)
   have e:endL (q++[x])=endL q++[x.From,x.To]:=by unfold endL; simp
   have hel:=vL q
   rw [e,←List.append_assoc] at hrec
   rw [eX,bndD,jC hs,bH,dP hs,bnoS,bnoS,gZ (by simp; omega) (by simp; omega),bnoS,w_at hs (by omega),bndD]
   exact hrec
theorem aFU {a b:List Iv} (ha:a.length≤20000) (hb:b.length≤20000):∀ (r q:List Iv) (f:Nat),a=q++r→r.length<f →
 eY a b f (endL q) (q.length:Int)=cX (endL a++endL b) fuel [] 0
 | _,_,0,_,hf=>absurd hf (by omega)
 | [],q,f+1,hs,_=>by
   rw [eY,bndD,jO hs,bC]
   rw [List.append_nil] at hs
   have:=aFT hb (base:=endL a) (by rw [vL]; omega) b [] fuel rfl (dN (by omega))
   have e:endL a++endL []=endL a:=by show endL a++[]=_; simp
   rw [e] at this
   rw [←hs]; exact this
 | x::r,q,f+1,hs,hf=>by
   have hq:q.length≤20000:=by rw [hs,List.length_append] at ha; omega
   have hrec:=aFU ha hb r (q++[x]) f (by rw [hs]; simp) (by simpa using hf)
   have e:endL (q++[x])=endL q++[x.From,x.To]:=by unfold endL; simp
   have hel:=vL q
   rw [e] at hrec
   rw [eY,bndD,jC hs,bH,dP hs,bnoS,bnoS,gZ (by simp; omega) (by simp; omega),bnoS,w_at hs (by omega),bndD]
   exact hrec
theorem ends06 {a b:List Iv} (ha:a.length≤20000) (hb:b.length≤20000):∃ e,mM a b=some e∧e.Pairwise (· < ·)∧(∀ x,x∈e↔x∈endL a∨x∈endL b)∧e.length≤90000:=by
 have h0:mM a b=cX (endL a++endL b) fuel [] 0:=aFU ha hb a [] fuel rfl (dN (by omega))
 have hl:(endL a++endL b).length≤90000:=by rw [List.length_append,vL,vL]; omega
 obtain ⟨e,e1,e2,e3,e4⟩:=aFS hl (endL a++endL b) [] fuel [] rfl (dN (by omega)) .nil (Nat.le_refl _)
 refine ⟨e,h0.trans e1,e2,fun x=>?_,e4⟩
 rw [e3,List.mem_append]
 exact ⟨fun h=>h.elim (fun h=>by cases h) id,.inr⟩
end Go.Fn
open Go Go.IL
namespace Go.Fn
def hasI (l:List Iv) (n:Int):Bool:=l.any fun x=>decide (x.From≤n)&&decide (n<x.To)
theorem qB {l:List Iv} {n:Int}:hasI l n=true↔mem n l:=by
 unfold hasI mem
 rw [List.any_eq_true]; simp
theorem aFK {l:List Iv} (hl:l.length≤100000) (n:Int):∀ (r q:List Iv) (f:Nat),l=q++r→r.length<f→fP l n f (q.length:Int)=some (hasI r n)
 | _,_,0,_,hf=>absurd hf (by omega)
 | [],q,f+1,hs,_=>by
   rw [fP,bndD,jO hs,bC]; rfl
 | x :: r,q,f+1,hs,hf=>by
   have hrec:=aFK hl n r (q++[x]) f (by rw [hs]; simp) (by simpa using hf)
   have e:hasI (x::r) n=((decide (x.From≤n)&&decide (n<x.To))||hasI r n):=rfl
   rw [fP,bndD,jC hs,bH,dP hs,bnoS,bndD,e]
   by_cases c:x.From≤n
   · rw [decide_eq_true c,beq_self_eq_true,gdtt,bnoS,bndD,bndD,Bool.true_and]
     by_cases d:n<x.To
     · rw [decide_eq_true d,bH]; rfl
     · rw [decide_eq_false d,bC,w_at hs (by omega),bndD,hrec,Bool.false_or]
   · rw [decide_eq_false c,ft,gdff,bnoS,bndD,bndD,Bool.false_and,bC,w_at hs (by omega),bndD,hrec,Bool.false_and,Bool.false_or]
theorem has06 {l:List Iv} (hl:l.length≤100000) (n:Int):nC l n=some (hasI l n):=aFK hl n l [] fuel rfl (dN (by omega))
def p06 (l:List Iv) (x:Iv):List Iv:=match l.getLast? with
 | none=>[x]
 | some z=>if z.To<x.From then l++[x] else l.dropLast++[⟨z.From,x.To⟩]
theorem aEs (p:List Iv) (z x:Iv):p06 (p++[z]) x=if z.To<x.From then p++[z]++[x] else p++[⟨z.From,x.To⟩]:=by
 unfold p06; rw [List.getLast?_concat,List.dropLast_concat]
theorem put06 {l:List Iv} (hl:l.length≤100000) (x:Iv):lL x l=some (p06 l x):=by
 unfold lL
 rcases List.eq_nil_or_concat l with rfl | ⟨p,z,rfl⟩
 · rfl
 · rw [List.concat_eq_append,aEs]
   rw [List.concat_eq_append] at hl
   have hlen:(((p++[z]).length:Nat):Int)=(p.length:Int)+1:=by rw [List.length_append,List.length_singleton]; rfl
   have hl':p.length≤100000:=by rw [List.length_append] at hl; omega
   have hw:IntKind.wrap .i64 (((p++[z]).length:Int)-1)=(p.length:Int):=by rw [hlen,w64 (by omega) (by omega)]; omega
   have hg:gix (p++[z]) (p.length:Int)=some z:=dP (p:=p) (r:=[]) rfl
   have hg2:(p++[z])[(p.length:Int).toNat]? = some z:=aDL (p:=p) (r:=[]) rfl
   have hz:decide (((p++[z]).length:Int)=0)=false:=decide_eq_false (by rw [hlen]; omega)
   simp only [bndD,hz,hw,beq_self_eq_true,gdtt,hg,bnoS,hg2,Bool.false_or]
   by_cases c:z.To<x.From
   · rw [decide_eq_true c,bH,if_pos c,gZ (by simp; omega) (by simp; omega),bnoS]
   · rw [decide_eq_false c,bC,if_neg c,gZ (by simp; omega) (by simp; omega),bnoS,List.nil_append,hg,bnoS,hg2,bnoS]
     congr 1
     rw [Int.toNat_natCast,List.set_append_right _ _ (Nat.le_refl _)]; simp
def kd (a b:List Iv) (how n:Int):Bool:=((decide (how=0)&&(hasI a n||hasI b n))||((decide (how=1)&&hasI a n) && !hasI b n))||((decide (how=2)&&hasI a n)&&hasI b n)
theorem aCh {l:List Iv} {e:List Int} (he:∀ x∈endL l,x∈e) {x y n:Int} (hxy:∀ z∈e,¬(x<z∧z<y)) (h1:x≤n) (h2:n<y):hasI l n=hasI l x:=by
 rw [Bool.eq_iff_iff,qB,qB]
 constructor
 · rintro ⟨i,hi,a,b⟩
   refine ⟨i,hi,?_,by omega⟩
   have:=hxy i.From (he _ (List.mem_flatMap.2 ⟨i,hi,by simp⟩))
   omega
 · rintro ⟨i,hi,a,b⟩
   refine ⟨i,hi,by omega,?_⟩
   have:=hxy i.To (he _ (List.mem_flatMap.2 ⟨i,hi,by simp⟩))
   omega
theorem aF5 {a b:List Iv} {how:Int} {e:List Int} (ha:∀ x∈endL a,x∈e) (hb:∀ x∈endL b,x∈e) {x y n:Int} (hxy:∀ z∈e,¬(x<z∧z<y)) (h1:x≤n) (h2:n<y):kd a b how n=kd a b how x:=by
 unfold kd
 rw [aCh ha hxy h1 h2,aCh hb hxy h1 h2]
structure KO (a b:List Iv) (how:Int) (out:List Iv) (x:Int):Prop where
 pw:out.Pairwise (fun p q=>p.To<q.From)
 ne:∀ z∈out,z.From<z.To
 le:∀ z∈out,z.To≤x
 me:∀ n,mem n out↔n<x∧kd a b how n=true
theorem ko_put {a b:List Iv} {how:Int} {out:List Iv} {x y:Int} (h:KO a b how out x) (hxy:x<y) (hk:∀ n,x≤n→n<y→kd a b how n=true):KO a b how (p06 out ⟨x,y⟩) y:=by
 rcases List.eq_nil_or_concat out with rfl | ⟨p,z,rfl⟩
 · refine ⟨List.pairwise_singleton _ _,fun w hw=>?_,fun w hw=>?_,fun n=>?_⟩
   · rcases List.mem_cons.1 hw with rfl | hw
     · exact hxy
     · cases hw
   · rcases List.mem_cons.1 hw with rfl | hw
     · exact Int.le_refl _
     · cases hw
   · show mem n [(⟨x,y⟩:Iv)]↔_
     rw [mem_cons]
     constructor
     · rintro (⟨h1,h2⟩ | ⟨_,hh,_⟩)
       · exact ⟨h2,hk n h1 h2⟩
       · cases hh
     · rintro ⟨h1,h2⟩
       by_cases c:x≤n
       · exact .inl ⟨c,h1⟩
       · obtain ⟨w,hw,_⟩:=(h.me n).2 ⟨by omega,h2⟩
         cases hw
 · rw [List.concat_eq_append] at h ⊢
   have hz:=h.le z (by simp)
   have hzn:=h.ne z (by simp)
   have hpw:=List.pairwise_append.1 h.pw
   have hme:∀ n,mem n (p++[z])↔n<x∧kd a b how n=true:=h.me
   rw [aEs]
   by_cases c:z.To<x
   · rw [if_pos c]
     refine ⟨List.pairwise_append.2 ⟨h.pw,List.pairwise_singleton _ _,fun u hu v hv=>?_⟩,fun w hw=>?_,fun w hw=>?_,fun n=>?_⟩
     · rcases List.mem_cons.1 hv with rfl | hv
       · show u.To<x
         rcases List.mem_append.1 hu with hu | hu
         · have:=hpw.2.2 u hu z (by simp); omega
         · rcases List.mem_cons.1 hu with rfl | hu
           · exact c
           · cases hu
       · cases hv
     · rcases List.mem_append.1 hw with hw | hw
       · exact h.ne w hw
       · rcases List.mem_cons.1 hw with rfl | hw
         · exact hxy
         · cases hw
     · rcases List.mem_append.1 hw with hw | hw
       · have:=h.le w hw; omega
       · rcases List.mem_cons.1 hw with rfl | hw
         · exact Int.le_refl _
         · cases hw
     · rw [aDD,hme]
       constructor
       · rintro (⟨h1,h2⟩ | ⟨h1,h2⟩)
         · exact ⟨by omega,h2⟩
         · exact ⟨h2,hk n h1 h2⟩
       · rintro ⟨h1,h2⟩
         by_cases d:n<x
         · exact .inl ⟨d,h2⟩
         · exact .inr ⟨by show x≤n; omega,h1⟩
   · rw [if_neg c]
     have ez:z.To=x:=by show z.To=x; have c:¬ z.To<x:=c; omega
     refine ⟨List.pairwise_append.2 ⟨hpw.1,List.pairwise_singleton _ _,fun u hu v hv=>?_⟩,fun w hw=>?_,fun w hw=>?_,fun n=>?_⟩
     · rcases List.mem_cons.1 hv with rfl | hv
       · exact hpw.2.2 u hu z (by simp)
       · cases hv
     · rcases List.mem_append.1 hw with hw | hw
       · exact h.ne w (by simp [hw])
       · rcases List.mem_cons.1 hw with rfl | hw
         · show z.From<y; omega
         · cases hw
     · rcases List.mem_append.1 hw with hw | hw
       · have:=h.le w (by simp [hw]); omega
       · rcases List.mem_cons.1 hw with rfl | hw
         · exact Int.le_refl _
         · cases hw
     · have h0:=hme n
       rw [aDD] at h0 ⊢
       constructor
       · rintro (h1 | ⟨h1,h2⟩)
         · obtain ⟨k1,k2⟩:=h0.1 (.inl h1)
           exact ⟨by omega,k2⟩
         · have h1:z.From≤n:=h1
           have h2:n<y:=h2
           by_cases d:n<x
           · obtain ⟨k1,k2⟩:=h0.1 (.inr ⟨h1,by omega⟩)
             exact ⟨h2,k2⟩
           · exact ⟨h2,hk n (by omega) h2⟩
       · rintro ⟨h1,h2⟩
         by_cases d:n<x
         · rcases h0.2 ⟨d,h2⟩ with k | ⟨k1,k2⟩
           · exact .inl k
           · exact .inr ⟨k1,by show n<y; exact h1⟩
         · exact .inr ⟨by show z.From≤n; omega,h1⟩
theorem ko_skip {a b:List Iv} {how:Int} {out:List Iv} {x y:Int} (h:KO a b how out x) (hxy:x<y) (hk:∀ n,x≤n→n<y→kd a b how n=false):KO a b how out y :=
 ⟨h.pw,h.ne,fun z hz=>by have:=h.le z hz; omega,fun n=>by
  rw [h.me]
  constructor
  · rintro ⟨h1,h2⟩; exact ⟨by omega,h2⟩
  · rintro ⟨h1,h2⟩
    by_cases d:n<x
    · exact ⟨d,h2⟩
    · rw [hk n (by omega) h1] at h2; cases h2⟩
theorem p06_len (l:List Iv) (x:Iv):(p06 l x).length≤l.length+1:=by
 rcases List.eq_nil_or_concat l with rfl | ⟨p,z,rfl⟩
 · exact Nat.le_refl _
 · rw [List.concat_eq_append,aEs]; split <;> simp
theorem aGX {a b:List Iv} {how:Int} (hal:a.length≤100000) (hbl:b.length≤100000) {e:List Int} (he:e.Pairwise (· < ·)) (hel:e.length≤90000) (ha:∀ x∈endL a,x∈e) (hb:∀ x∈endL b,x∈e):∀ (r q:List Int) (x:Int) (f:Nat) (out:List Iv),e=q++x::r→r.length<f→KO a b how out x→out.length≤q.length →
 ∃ o y,dS a b how e f out ((q.length:Int)+1)=some o∧KO a b how o y∧(∀ z∈e,z≤y)
 | _,_,_,0,_,_,hf,_,_=>absurd hf (by omega)
 | [],q,x,f+1,out,hs,_,h,_=>by
   have hn:decide ((q.length:Int)+1<(e.length:Int))=false:=decide_eq_false (by rw [hs]; simp)
   rw [dS,bndD,hn,bC]
   refine ⟨out,x,rfl,h,fun z hz=>?_⟩
   rw [hs] at hz he
   rcases List.mem_append.1 hz with hz | hz
   · have:=(List.pairwise_append.1 he).2.2 z hz x (by simp); omega
   · rcases List.mem_cons.1 hz with rfl | hz
     · exact Int.le_refl _
     · cases hz
 | y :: r,q,x,f+1,out,hs,hf,h,ho=>by
   have hs2:e=(q++[x])++y::r:=by rw [hs]; simp
   have hq1:(((q++[x]).length:Nat):Int)=(q.length:Int)+1:=by rw [List.length_append,List.length_singleton]; rfl
   have hql:q.length+2≤90000:=by rw [hs] at hel; simp at hel; omega
   have hl:=jC hs2
   have hg:=dP hs2
   have hw:=w_at hs2 (by omega)
   have hgx:=dP hs
   rw [hq1] at hl hg hw
   have hwm:IntKind.wrap .i64 ((q.length:Int)+1-1)=(q.length:Int):=by rw [w64 (by omega) (by omega)]; omega
   have hpw:=he
   rw [hs] at hpw
   have hp2:=List.pairwise_append.1 hpw
   have hp3:=List.pairwise_cons.1 hp2.2.1
   have hxy:x<y:=hp3.1 y (by simp)
   have hgap:∀ z∈e,¬(x<z∧z<y):=fun z hz=>by
    rw [hs] at hz
    rcases List.mem_append.1 hz with hz | hz
    · have:=hp2.2.2 z hz x (by simp); omega
    · rcases List.mem_cons.1 hz with rfl | hz
      · omega
      · rcases List.mem_cons.1 hz with rfl | hz
        · omega
        · have:=(List.pairwise_cons.1 hp3.2).1 z hz; omega
   have hco:∀ n,x≤n→n<y→kd a b how n=kd a b how x:=fun n h1 h2=>aF5 ha hb hgap h1 h2
   rw [dS,bndD,hl,bH]
   simp only [bndD,hwm,hgx,bnoS,has06 hal,has06 hbl,hg]
   have ek:(((decide (how=0)&&(hasI a x||hasI b x))||((decide (how=1)&&hasI a x) && !hasI b x))||((decide (how=2)&&hasI a x)&&hasI b x))=kd a b how x:=rfl
   rw [ek,hw]
   have hfin:=fun out' (hk:KO a b how out' y) (hlen:out'.length≤(q++[x]).length)=>aGX hal hbl he hel ha hb r (q++[x]) y f out' hs2 (by simpa using hf) hk hlen
   rw [show (((q++[x]++[y]).length:Nat):Int)=((q++[x]).length:Int)+1 by rw [List.length_append,List.length_singleton]; rfl]
   cases hk:kd a b how x with
   | true =>
     rw [bH,put06 (by omega),bnoS]
     exact hfin _ (ko_put h hxy fun n h1 h2=>(hco n h1 h2).trans hk) (by have:=p06_len out ⟨x,y⟩; rw [List.length_append,List.length_singleton]; omega)
   | false =>
     rw [bC]
     exact hfin _ (ko_skip h hxy fun n h1 h2=>(hco n h1 h2).trans hk) (by rw [List.length_append]; omega)
theorem aE0 {a b:List Iv} {how:Int} (hal:a.length≤20000) (hbl:b.length≤20000):∃ o,iQ a b how=some o∧o.Pairwise (fun p q=>p.To<q.From)∧(∀ z∈o,z.From<z.To)∧∀ n,mem n o↔kd a b how n=true:=by
 obtain ⟨e,e1,e2,e3,e4⟩:=ends06 hal hbl
 have ha:∀ x∈endL a,x∈e:=fun x hx=>(e3 x).2 (.inl hx)
 have hb:∀ x∈endL b,x∈e:=fun x hx=>(e3 x).2 (.inr hx)
 have hin:∀ n,kd a b how n=true→∃ u v,u∈e∧v∈e∧u≤n∧n<v:=fun n hn=>by
  have:hasI a n=true∨hasI b n=true:=by
   unfold kd at hn
   cases h1:hasI a n
   · cases h2:hasI b n
     · rw [h1,h2] at hn; simp at hn
     · exact .inr rfl
   · exact .inl rfl
  rcases this with h | h
  · obtain ⟨i,hi,h1,h2⟩:=qB.1 h
    exact ⟨i.From,i.To,ha _ (List.mem_flatMap.2 ⟨i,hi,by simp⟩),ha _ (List.mem_flatMap.2 ⟨i,hi,by simp⟩),h1,h2⟩
  · obtain ⟨i,hi,h1,h2⟩:=qB.1 h
    exact ⟨i.From,i.To,hb _ (List.mem_flatMap.2 ⟨i,hi,by simp⟩),hb _ (List.mem_flatMap.2 ⟨i,hi,by simp⟩),h1,h2⟩
 unfold iQ
 rw [e1,bnoS]
 cases hE:e with
 | nil =>
   obtain ⟨f,hf⟩:∃ f,fuel=f+1:=⟨fuel-1,by have:=dN (n:=1) (by decide); omega⟩
   rw [hf,dS,bndD]
   refine ⟨[],rfl,.nil,fun _ h=>(by cases h),fun n=>⟨fun h=>(by obtain ⟨x,hx,_⟩:=h; cases hx),fun hn=>?_⟩⟩
   obtain ⟨u,v,hu,_⟩:=hin n hn
   rw [hE] at hu; cases hu
 | cons x r =>
   have hs:e=[]++x::r:=hE
   have hfst:∀ z∈e,x≤z:=fun z hz=>by
    rw [hE] at hz e2
    rcases List.mem_cons.1 hz with rfl | hz
    · exact Int.le_refl _
    · have:=(List.pairwise_cons.1 e2).1 z hz; omega
   have h0:KO a b how [] x:=by
    refine ⟨.nil,fun _ h=>(by cases h),fun _ h=>(by cases h),fun n=>⟨fun h=>?_,fun h=>?_⟩⟩
    · obtain ⟨w,hw,_⟩:=h
      cases hw
    · obtain ⟨h1,h2⟩:=h
      obtain ⟨u,v,hu,_,hh,_⟩:=hin n h2
      have:=hfst u hu
      omega
   obtain ⟨o,y,o1,o2,o3⟩:=aGX (how:=how) (by omega) (by omega) e2 e4 ha hb r [] x fuel [] hs (dN (by rw [hE] at e4; simp at e4; omega)) h0 (Nat.le_refl _)
   rw [hE] at o1
   refine ⟨o,o1,o2.pw,o2.ne,fun n=>?_⟩
   rw [o2.me]
   refine ⟨fun h=>h.2,fun h=>⟨?_,h⟩⟩
   obtain ⟨u,v,_,hv,_,hh⟩:=hin n h
   have:=o3 v hv; omega
end Go.Fn
open Go Go.IL
namespace Go.Fn
theorem may06 {x:Iv} (h:0≤x.From∧x.From≤4398046511104∧0≤x.To∧x.To≤4398046511104):jF ⟨x.From,x.To⟩=some true:=by
 unfold jF nV
 simp only [bndD,bnoS,decide_eq_true (show 0≤x.From by omega),decide_eq_true (show x.From≤4611686018427387903 by omega),Bool.and_self,beq_self_eq_true,gdtt,decide_eq_true (show 0≤x.To by omega),decide_eq_true (show x.To≤4611686018427387903 by omega)]
theorem VS.rg {l:List Iv} (h:VS l) {x:Iv} (hx:x∈l):0≤x.From∧x.From≤4398046511104∧0≤x.To∧x.To≤4398046511104:=by
 have:=h.lo x hx; have:=h.hi x hx; have:=h.ne x hx
 omega
theorem aBU {l:List Iv} (hl:l.length≤100000) (h:VS l):∀ (r q:List Iv) (x:Iv) (f:Nat),l=q++x::r→r.length<f→dV l f ((q.length:Int)+1)=some 0
 | _,_,_,0,_,hf=>absurd hf (by omega)
 | [],q,x,f+1,hs,_=>by
   rw [dV,bndD,decide_eq_false (show ¬(q.length:Int)+1<(l.length:Int) by rw [hs]; simp),bC]
 | y::r,q,x,f+1,hs,hf=>by
   have hs2:l=(q++[x])++y::r:=by rw [hs]; simp
   have hq1:(((q++[x]).length:Nat):Int)=(q.length:Int)+1:=by rw [List.length_append,List.length_singleton]; rfl
   have hl2:=jC hs2
   have hg:=dP hs2
   have hw:=w_at hs2 (by omega)
   rw [hq1] at hl2 hg hw
   have hql:q.length≤100000:=by rw [hs] at hl; simp at hl; omega
   have hwm:IntKind.wrap .i64 ((q.length:Int)+1-1)=(q.length:Int):=by rw [w64 (by omega) (by omega)]; omega
   have hlt:x.To<y.From:=by
    have:=h.pw
    rw [hs] at this
    exact (List.pairwise_cons.1 (List.pairwise_append.1 this).2.1).1 y (by simp)
   have hrec:=aBU hl h r (q++[x]) y f hs2 (by simpa using hf)
   rw [hq1] at hrec
   rw [dV,bndD,hl2,bH,hg,bnoS,bndD,hwm,dP hs,bnoS,bndD,decide_eq_false (show ¬y.From≤x.To by omega),bC,hw,bndD]
   rw [show (((q++[x]++[y]).length:Nat):Int)=(q.length:Int)+1+1 by rw [List.length_append,List.length_append,List.length_singleton,List.length_singleton]; rfl]
   exact hrec
theorem aBV {l:List Iv} (hl:l.length≤100000) (h:VS l):∀ (r q:List Iv) (f:Nat),l=q++r→r.length<f→eO l f (q.length:Int)=some 0
 | _,_,0,_,hf=>absurd hf (by omega)
 | [],q,f+1,hs,_=>by
   rw [eO,bndD,jO hs,bC]
   cases hL:l with
   | nil =>
     obtain ⟨g,hg⟩:∃ g,fuel=g+1:=⟨fuel-1,by have:=dN (n:=1) (by decide); omega⟩
     rw [hg,dV,bndD]; rfl
   | cons x t =>
     have:=aBU hl h t [] x fuel hL (dN (by rw [hL] at hl; simp at hl; omega))
     rw [hL] at this
     exact this
 | x::r,q,f+1,hs,hf=>by
   have hx:=h.ne x (by rw [hs]; simp)
   rw [eO,bndD,jC hs,bH,dP hs,bnoS,bnoS,bndD,decide_eq_false (show ¬x.To≤x.From by omega),bC,w_at hs (by omega),bndD]
   exact aBV hl h r (q++[x]) f (by rw [hs]; simp) (by simpa using hf)
theorem aBW {l:List Iv} (hl:l.length≤100000) (h:VS l):∀ (r q:List Iv) (f:Nat),l=q++r→r.length<f→eP l f (q.length:Int)=some 0
 | _,_,0,_,hf=>absurd hf (by omega)
 | [],q,f+1,hs,_=>by
   rw [eP,bndD,jO hs,bC]
   exact aBV hl h l [] fuel rfl (dN (by omega))
 | x::r,q,f+1,hs,hf=>by
   rw [eP,bndD,jC hs,bH,dP hs,bnoS,may06 (h.rg (by rw [hs]; simp)),bnoS,Bool.not_true,bC,w_at hs (by omega),bndD]
   exact aBW hl h r (q++[x]) f (by rw [hs]; simp) (by simpa using hf)
theorem aA0 {l:List Iv} (hl:l.length≤100000) (h:VS l):gA l=some 0:=aBW hl h l [] fuel rfl (dN (by omega))
def oneL (x:Iv):List Iv:=if x.To≤x.From then [] else [x]
theorem one06 (x:Iv):lM ⟨x.From,x.To⟩=some (oneL x):=by
 unfold lM oneL
 rw [bndD]
 by_cases c:x.To≤x.From
 · rw [decide_eq_true c,bH,if_pos c]
 · rw [decide_eq_false c,bC,if_neg c]
theorem aBl (x:Iv) (n:Int):hasI (oneL x) n=true↔x.From≤n∧n<x.To:=by
 rw [qB]
 unfold oneL
 by_cases c:x.To≤x.From
 · rw [if_pos c]
   exact ⟨fun h=>(by obtain ⟨w,hw,_⟩:=h; cases hw),fun h=>(by omega)⟩
 · rw [if_neg c,mem_cons]
   exact ⟨fun h=>h.resolve_right (fun k=>(by obtain ⟨w,hw,_⟩:=k; cases hw)),.inl⟩
theorem aDf (x:Iv):(oneL x).length≤1:=by unfold oneL; split <;> simp
theorem kd0 (a b:List Iv) (n:Int):kd a b 0 n=true↔hasI a n=true∨hasI b n=true:=by unfold kd; simp
theorem kd1 (a b:List Iv) (n:Int):kd a b 1 n=true↔hasI a n=true∧¬ hasI b n=true:=by unfold kd; simp
theorem kd2 (a b:List Iv) (n:Int):kd a b 2 n=true↔hasI a n=true∧hasI b n=true:=by unfold kd; simp
theorem cut06 {s:List Iv} {x:Iv} (hl:s.length≤9000) (h:VS s) (hx:0≤x.From∧x.From≤4398046511104∧0≤x.To∧x.To≤4398046511104):gK s x=some (if x.To≤x.From then s else cutS s x):=by
 obtain ⟨o,o1,o2,o3,o4⟩:=aE0 (a:=s) (b:=oneL x) (how:=1) (by omega) (by have:=aDf x; omega)
 have e:o=if x.To≤x.From then s else cutS s x:=by
  by_cases c:x.To≤x.From
  · rw [if_pos c]
    refine aBo o2 h.pw o3 h.ne fun n=>?_
    rw [o4,kd1,aBl,qB]
    exact ⟨fun h=>h.1,fun h=>⟨h,fun hh=>by omega⟩⟩
  · rw [if_neg c]
    have hv:=aDO h (x:=x) (by omega)
    refine aBo o2 hv.pw o3 hv.ne fun n=>?_
    rw [o4,kd1,aBl,qB,aB0 (by omega)]
 unfold gK
 rw [aA0 (by omega) h,bnoS,bndD,decide_eq_true rfl,show ((!true) == false)=true from rfl,gdtt,may06 hx,bnoS,bndD,show (!true || !true)=false from rfl,bC,one06,bnoS,o1,bnoS,e]
theorem add06 {s o':List Iv} {x:Iv} (hl:s.length≤9000) (h:VS s) (hx:0≤x.From∧x.From≤4398046511104∧0≤x.To∧x.To≤4398046511104) (hp:o'.Pairwise (fun p q=>p.To<q.From)) (hn:∀ z∈o',z.From<z.To) (hm:∀ n,mem n o'↔mem n s∨(x.From≤n∧n<x.To)):lN s x=some o':=by
 obtain ⟨o,o1,o2,o3,o4⟩:=aE0 (a:=s) (b:=oneL x) (how:=0) (by omega) (by have:=aDf x; omega)
 have e:o=o':=aBo o2 hp o3 hn fun n=>by rw [o4,kd0,aBl,qB,hm]
 unfold lN
 rw [aA0 (by omega) h,bnoS,bndD,decide_eq_true rfl,show ((!true) == false)=true from rfl,gdtt,may06 hx,bnoS,bndD,show (!true || !true)=false from rfl,bC,one06,bnoS,o1,bnoS,e]
theorem meet06 {s:List Iv} {x:Iv} (hl:s.length≤9000) (h:VS s) (hx:0≤x.From∧x.From<x.To∧x.To≤4398046511104) (hd:∀ n,x.From≤n→n<x.To→¬ mem n s):mN [⟨x.From,x.To⟩] s=some []:=by
 obtain ⟨o,o1,o2,o3,o4⟩:=aE0 (a:=[⟨x.From,x.To⟩]) (b:=s) (how:=2) (by simp) (by omega)
 have e:o=[]:=by
  cases o with
  | nil=>rfl
  | cons z r =>
    have hz:=o3 z (by simp)
    obtain ⟨k1,k2⟩:=(kd2 _ _ _).1 ((o4 z.From).1 ⟨z,by simp,by omega,hz⟩)
    obtain ⟨w,hw,h1,h2⟩:=qB.1 k1
    rcases List.mem_cons.1 hw with rfl | hw
    · exact absurd (qB.1 k2) (hd _ h1 h2)
    · cases hw
 have h1:∀ z∈[(⟨x.From,x.To⟩:Iv)],z=⟨x.From,x.To⟩:=fun z hz=>by
  rcases List.mem_cons.1 hz with e | hz
  · exact e
  · cases hz
 have hv:VS [(⟨x.From,x.To⟩:Iv)]:=⟨List.pairwise_singleton _ _,fun z hz=>(by rw [h1 z hz]; exact hx.2.1),fun z hz=>(by rw [h1 z hz]; exact hx.1),fun z hz=>(by rw [h1 z hz]; exact hx.2.2)⟩
 unfold mN
 rw [aA0 (by simp) hv,bnoS,bndD,decide_eq_true rfl,show ((!true) == false)=true from rfl,gdtt,aA0 (by omega) h,bnoS,bndD,decide_eq_true rfl,bndD,show (!true || !true)=false from rfl,bC,o1,bnoS,e]
end Go.Fn
open Go Go.IL
namespace Go.Fn
theorem aAd {s:S23} (h:G s):dE s=some (endS s):=by
 obtain ⟨n1,n2,n3,n4⟩:=h.num
 have e:endS s=s.Base+(s.Data.length:Int):=rfl
 unfold dE
 rw [←e,w64 (by omega) (by omega),bndD]
theorem rmeets {s:S23} (h:G s) {p:Pc} (hp:p∈s.Pieces):lC p s.Lost=some false:=by
 obtain ⟨⟨a1,a2,a3⟩,a4,a5⟩:=h.pb p hp
 obtain ⟨n1,n2,n3,n4⟩:=h.num
 have hl:=h.ll
 unfold lC
 rw [bndD]
 by_cases c:p.From=p.To
 · rw [decide_eq_true c,bH]
 · rw [decide_eq_false c,bC,meet06 (x:=⟨p.From,p.To⟩) (by omega) h.lv (by show 0≤p.From∧p.From<p.To∧p.To≤_; omega) (h.pd p hp),bnoS]; rfl
theorem aEe {s:S23} (hl:s.Pieces.length≤100000):∀ (r q:List Pc) (f:Nat),s.Pieces=q++r→r.length<f→eC s f (fins q:Int) (q.length:Int)=some (fins s.Pieces:Int)
 | _,_,0,_,hf=>absurd hf (by omega)
 | [],q,f+1,hs,_=>by
   rw [eC,bndD,jO hs,bC]
   rw [List.append_nil] at hs
   rw [hs]
 | x :: r,q,f+1,hs,hf=>by
   have hrec:=aEe hl r (q++[x]) f (by rw [hs]; simp) (by simpa using hf)
   have hfl:fins q≤q.length:=List.length_filter_le _ _
   have hq:q.length≤100000:=by rw [hs,List.length_append] at hl; omega
   rw [tU] at hrec
   rw [eC,bndD,jC hs,bH,dP hs,bnoS]
   cases hF:x.Fin with
   | true =>
     have e:fins [x]=1:=by simp [fins,hF]
     rw [e] at hrec
     rw [bH,w64 (by omega) (by omega),bndD,w_at hs (by omega),bndD]
     exact hrec
   | false =>
     have e:fins [x]=0:=by simp [fins,hF]
     rw [e] at hrec
     rw [bC,w_at hs (by omega),bndD]
     exact hrec
theorem aCF {s:S23} (h:G s) (w:Int):∀ (r q:List Pc) (f:Nat),s.Pieces=q++r→r.length<f→eA s w f (q.length:Int)=some (decide ((fins s.Pieces:Int)=w))
 | _,_,0,_,hf=>absurd hf (by omega)
 | [],q,f+1,hs,_=>by
   have hpl:=h.pl
   have hf0:oB s=some (fins s.Pieces:Int):=aEe (by omega) s.Pieces [] fuel rfl (dN (by omega))
   rw [eA,bndD,jO hs,bC,hf0,bnoS,bndD]
 | x :: r,q,f+1,hs,hf=>by
   have hx:x∈s.Pieces:=by rw [hs]; simp
   have hpl:=h.pl
   have hrec:=aCF h w r (q++[x]) f (by rw [hs]; simp) (by simpa using hf)
   rw [eA,bndD,jC hs,bH,dP hs,bnoS]
   cases hF:x.Fin with
   | true =>
     rw [beq_self_eq_true,gdtt,bnoS,gdtt,aAd h,bnoS,bndD,decide_eq_true (h.fe x hx hF),bndD,show (true && !true)=false from rfl,bC,w_at hs (by omega),bndD,hrec]
   | false =>
     rw [ft,gdff,bnoS,gdff,bnoS,bndD,bndD,Bool.false_and,bC,w_at hs (by omega),bndD,hrec]
theorem rstates {s:S23} (h:G s):jW s=some true:=by
 have hpl:=h.pl
 have hc:=h.fc
 have hL:=fun w=>aCF h w s.Pieces [] fuel rfl (dN (by omega))
 have hL:∀ w,iD s w=some (decide ((fins s.Pieces:Int)=w)):=hL
 unfold jW
 cases hS:s.Sent
 · obtain ⟨h1,h2⟩:=h.ns hS
   rw [hS] at hc
   simp only [Bool.false_eq_true,false_and,if_false] at hc
   simp only [h1,h2,ft,Bool.false_and,gdff,bnoS,bndD,Bool.or_self,bC,hL,hc,show (false == true)=false from rfl]
   rfl
 · obtain ⟨h1,h2,h3⟩:=h.se hS
   rw [hS] at hc
   simp only [h1,Bool.not_true,beq_self_eq_true,Bool.and_self,gdtt,aAd h,bnoS,bndD,decide_eq_true h2,Bool.or_self,Bool.and_false,hL]
   cases hA:s.Again <;> cases hD:s.Done <;> rw [hA,hD] at hc h3 <;> simp at hc h3 <;> simp [hc]
theorem aCG {s:S23} (h:G s):∀ (r q:List Pc) (f:Nat) (at_:Int),s.Pieces=q++r→r.length<f→(∀ p∈r,at_≤p.From)→dU s f at_ (q.length:Int)=some 0
 | _,_,0,_,_,hf,_=>absurd hf (by omega)
 | [],q,f+1,at_,hs,_,_=>by
   rw [dU,bndD,jO hs,bC,rstates h,bnoS,Bool.not_true,bC]
 | x::r,q,f+1,at_,hs,hf,ha=>by
   have hx:x∈s.Pieces:=by rw [hs]; simp
   have hpl:=h.pl
   obtain ⟨⟨a1,a2,a3⟩,a4,a5⟩:=h.pb x hx
   have hax:=ha x (by simp)
   have hfin:(decide (x.From=x.To) && !x.Fin)=false:=by
    by_cases c:x.From=x.To
    · rw [decide_eq_true c,h.pf x hx c]; rfl
    · rw [decide_eq_false c]; rfl
   have hrec:=aCG h r (q++[x]) f x.To (by rw [hs]; simp) (by simpa using hf) (fun p hp=>by
    have:=h.pw
    rw [hs] at this
    exact (List.pairwise_cons.1 (List.pairwise_append.1 this).2.1).1 p hp)
   unfold dU
   simp only [bndD,jC hs,bH,dP hs,bnoS,decide_eq_false (show ¬x.From<at_ by omega),decide_eq_false (show ¬x.To<x.From by omega),decide_eq_false (show ¬s.Next<x.To by omega),hfin,decide_eq_false (show ¬x.Path<0 by omega),decide_eq_false (show ¬4≤x.Path by omega),Bool.or_self,beq_self_eq_true,gdtt,rmeets h hx,bC,w_at hs (show s.Pieces.length≤1000000 by omega)]
   exact hrec
theorem rS {s:S23} (h:G s):eL s=some 0:=by
 obtain ⟨n1,n2,n3,n4⟩:=h.num
 have hd:=h.dl
 have hl:=h.ll
 have e:endS s=s.Base+(s.Data.length:Int):=rfl
 have hend:=aCG h s.Pieces [] fuel s.Base rfl (dN (by have:=h.pl; omega)) (fun q hq=>(h.pb q hq).1.1)
 have hend:dU s fuel s.Base 0=some 0:=hend
 unfold eL
 simp only [bndD,decide_eq_false (show ¬s.Base<0 by omega),decide_eq_false (show ¬1099511623680<s.Base by omega),Bool.or_self,decide_eq_false (show ¬s.Next<s.Base by omega),w64 (show -9223372036854775808≤s.Next-s.Base by omega) (by omega),decide_eq_false (show ¬(s.Data.length:Int)<s.Next-s.Base by omega),decide_eq_false (show ¬(4096:Int)<(s.Data.length:Int) by omega),bC,aA0 (show s.Lost.length≤100000 by omega) h.lv,bnoS,decide_true,Bool.not_true]
 cases hs:s.Lost with
 | nil =>
   simp only [List.length_nil,show decide ((0:Int)<((0:Nat):Int))=false from rfl,ft,Bool.and_false,Bool.false_and,gdff,bnoS,Bool.or_self,bC]
   exact hend
 | cons x r =>
   obtain ⟨p,y,hy⟩:∃ p y,x::r=p++[y]:=by
    rcases List.eq_nil_or_concat (x::r) with h | ⟨p,y,h⟩
    · cases h
    · exact ⟨p,y,by rw [h,List.concat_eq_append]⟩
   have hlen:((x::r).length:Int)=(p.length:Int)+1:=by rw [hy]; simp
   have hpl:p.length≤5000:=by rw [hs,hy] at hl; simp at hl; omega
   have hw:IntKind.wrap .i64 (((x::r).length:Int)-1)=(p.length:Int):=by rw [hlen,w64 (by omega) (by omega)]; omega
   have hg:gix (x::r) (p.length:Int)=some y:=dP (r:=[]) hy
   have h0:gix (x::r) 0=some x:=rfl
   have hx:=h.lb x (by rw [hs]; simp)
   have hyb:=h.lb y (by rw [hs,hy]; simp)
   simp only [decide_eq_true (show (0:Int)<((x::r).length:Int) by omega),beq_self_eq_true,Bool.and_self,gdtt,h0,bnoS,decide_eq_false (show ¬x.From<s.Base by omega),hw,hg,decide_eq_false (show ¬s.Next<y.To by omega),Bool.or_self,Bool.and_false,bC]
   exact hend
theorem rroom23 {s:S23} (h:G s):mI s=some (sO s):=by
 have hd:=h.dl
 unfold mI sO
 cases hc:s.Closed with
 | true=>rw [bH,if_pos rfl]
 | false=>rw [bC,if_neg (by decide),w64 (by omega) (by omega),bndD]
theorem aFo {s:S23} (h:G s) (str:List UInt8) (hs:str.length≤100000):lD s str=some (zY s str,(writeN s str:Int)):=by
 obtain ⟨n1,n2,n3,n4⟩:=h.num
 obtain ⟨r1,r2⟩:=vC h
 have hd:=h.dl
 unfold lD zY writeN
 rw [rS h,bnoS,bndD,decide_eq_true rfl,Bool.not_true,bC,rroom23 h,bnoS,bndD,aAd h,bnoS,bndD,Int.min_comm (str.length:Int) (sO s),w64 (by omega) (by omega),bndD]
 by_cases c:1099511623680<endS s+min (sO s) (str.length:Int)
 · rw [decide_eq_true c,bH,if_neg (by omega),List.take_zero,List.append_nil]; rfl
 · rw [decide_eq_false c,bC,if_pos (by omega),aBQ (by omega) (by omega),bnoS,aAK (by rw [List.length_take]; omega),bnoS]
   rw [show ((min (sO s) (str.length:Int)).toNat:Int)=min (sO s) (str.length:Int) by omega]
theorem aFt {s:S23} (h:G s):lE s=some (aBT s):=by
 unfold lE aBT
 rw [rS h,bnoS,bndD,decide_eq_true rfl,bH]
theorem aEf (s:S23):jE s=some (dueS s):=by
 unfold jE dueS
 simp only [bndD]
 cases s.Closed <;> cases s.Done <;> cases s.Sent <;> cases s.Again <;> rfl
end Go.Fn
open Go Go.IL
namespace Go.Fn
theorem aEl {s:S23} (h:G s) {n:Int} {fin:Bool} (hn:tG s n fin):∀ (r q:List Pc) (f:Nat),s.Pieces=q++r→r.length<f→dK s fin (max n s.Base) f ((q.map (cmap (max n s.Base) fin)).filter (fun p=>!vU p)) (q.length:Int)=some (aBC s n fin)
 | _,_,0,_,hf=>absurd hf (by omega)
 | [],q,f+1,hs,_=>by
   obtain ⟨n1,n2,n3,n4⟩:=h.num
   obtain ⟨c1,c2,c3⟩:=hn
   have hll:=h.ll
   have hd:=h.dl
   have e:endS s=s.Base+(s.Data.length:Int):=rfl
   have hcut:gK s.Lost ⟨0,max n s.Base⟩=some (aA7 s.Lost (max n s.Base)):=by
    rw [cut06 (x:=⟨0,max n s.Base⟩) (by omega) h.lv (by show (0:Int)≤0∧(0:Int)≤_∧0≤max n s.Base∧max n s.Base≤_; omega)]
    rfl
   rw [dK,bndD,jO hs,bC,w64 (by omega) (by omega),bndD,aBP (by omega) (by omega),bnoS,hcut,bnoS]
   rw [List.append_nil] at hs
   unfold aBC
   rw [hs]
   cases fin <;> rfl
 | x :: r,q,f+1,hs,hf=>by
   have hx:x∈s.Pieces:=by rw [hs]; simp
   have hpl:=h.pl
   obtain ⟨⟨a1,a2,a3⟩,a4,a5⟩:=h.pb x hx
   have hrec:=aEl h hn r (q++[x]) f (by rw [hs]; simp) (by simpa using hf)
   have hq:q.length≤4097:=by rw [hs,List.length_append] at hpl; omega
   have hfl:((q.map (cmap (max n s.Base) fin)).filter (fun p=>!vU p)).length≤q.length:=by
    refine Nat.le_trans (List.length_filter_le _ _) ?_
    rw [List.length_map]; exact Nat.le_refl _
   rw [List.map_append,List.filter_append] at hrec
   have hJ:∀ v:Bool,v=(x.Fin && !fin)→gV ((q.map (cmap (max n s.Base) fin)).filter (fun p=>!vU p)) (q.length:Int) (dK s fin (max n s.Base) f) x (max x.From (max n s.Base)) (max x.To (max n s.Base)) v=some (aBC s n fin):=fun v hv=>by
    have ec:cmap (max n s.Base) fin x=⟨max x.From (max n s.Base),max x.To (max n s.Base),x.Path,v⟩:=by rw [hv]; rfl
    unfold gV
    rw [bndD,bndD,w_at hs (by omega)]
    have hg:(!vU (cmap (max n s.Base) fin x))=(decide (max x.From (max n s.Base)<max x.To (max n s.Base))||v):=by
     rw [ec]
     show (!(decide (max x.From (max n s.Base)=max x.To (max n s.Base)) && !v))=_
     by_cases c:max x.From (max n s.Base)<max x.To (max n s.Base)
     · rw [decide_eq_true c,decide_eq_false (by omega)]; rfl
     · rw [decide_eq_false c,decide_eq_true (by omega)]; cases v <;> rfl
    cases hb:(decide (max x.From (max n s.Base)<max x.To (max n s.Base))||v) with
    | true =>
      rw [hb] at hg
      rw [bH,gZ (Nat.le_trans (Nat.add_le_add_right hfl 1) (by omega)) (Nat.le_trans (Nat.mul_le_mul_right 32 (Nat.add_le_add_right hfl 1)) (by omega)),bnoS,bndD]
      rw [List.map_cons,List.map_nil,List.filter_cons_of_pos (p:=fun p=>!vU p) hg,List.filter_nil,ec] at hrec
      exact hrec
    | false =>
      rw [hb] at hg
      rw [bC,bndD]
      rw [List.map_cons,List.map_nil,List.filter_cons_of_neg (p:=fun p=>!vU p) (by rw [hg]; exact Bool.false_ne_true),List.filter_nil,List.append_nil] at hrec
      exact hrec
   rw [dK,bndD,jC hs,bH,dP hs,bnoS,bndD,bndD]
   cases fin with
   | true=>rw [bH]; exact hJ false (by simp)
   | false=>rw [bC]; exact hJ x.Fin (by simp)
theorem rcame23 {s:S23} (h:G s) (n:Int) (fin:Bool):mK s n fin=some (if tG s n fin then aBC s n fin else s):=by
 obtain ⟨n1,n2,n3,n4⟩:=h.num
 have hL:=fun hn=>aEl h (n:=n) (fin:=fin) hn s.Pieces [] fuel rfl (dN (by have:=h.pl; omega))
 have hL:tG s n fin→dK s fin (max n s.Base) fuel [] 0=some (aBC s n fin):=hL
 unfold mK
 rw [rS h,bnoS,bndD,decide_eq_true rfl,bndD,bndD,bndD,bndD]
 by_cases c1:n<0
 · rw [decide_eq_true c1,show (!true||true)=true from rfl,Bool.true_or]
   simp only [show (true == false)=false from rfl,Bool.false_and,gdff,bnoS,bndD,Bool.true_or,bH]
   rw [if_neg (fun hh=>by have:=hh.1; omega)]
 · rw [decide_eq_false c1,show (!true||false)=false from rfl,Bool.false_or]
   by_cases c2:s.Next<n
   · rw [decide_eq_true c2]
     simp only [show (true == false)=false from rfl,Bool.false_and,gdff,bnoS,bndD,Bool.true_or,bH]
     rw [if_neg (fun hh=>by have:=hh.2.1; omega)]
   · rw [decide_eq_false c2]
     have hmax:max s.Base n=max n s.Base:=Int.max_comm _ _
     cases fin with
     | false =>
       simp only [show (false == false)=true from rfl,show (false == true)=false from rfl,Bool.and_false,Bool.false_and,gdff,bnoS,bndD,Bool.or_self,bC,hmax]
       have hok:tG s n false:=⟨by omega,by omega,fun hh=>by cases hh⟩
       rw [if_pos hok]; exact hL hok
     | true =>
       cases hS:s.Sent with
       | false =>
         simp only [show (false == false)=true from rfl,show (true == true)=true from rfl,Bool.not_false,show (true == false)=false from rfl,Bool.and_false,gdff,bnoS,bndD,Bool.true_or,Bool.and_self,Bool.or_true,bH]
         rw [if_neg (fun hh=>by have:=(hh.2.2 rfl).2; rw [hS] at this; cases this)]
       | true =>
         simp only [show (false == false)=true from rfl,show (true == true)=true from rfl,Bool.not_true,Bool.and_self,gdtt,aAd h,bnoS,bndD,Bool.false_or,Bool.true_and]
         by_cases c3:n=endS s
         · have hok:tG s n true:=⟨by omega,by omega,fun _=>⟨c3,hS⟩⟩
           rw [decide_eq_true c3,Bool.not_true,bC,hmax,if_pos hok]; exact hL hok
         · rw [decide_eq_false c3,Bool.not_false,bH,if_neg (fun hh=>c3 (hh.2.2 rfl).1)]
theorem aEg {s:S23} (h:G s) (k:Int) {L0:List Iv} (h0:DL s s.Pieces k L0):∀ (r q:List Pc) (f:Nat) (L:List Iv),s.Pieces=q++r→r.length<f→DL s q k L→eD s k f (q.filter fun y=>!decide (y.Path=k)) (q.length:Int) L (s.Again||anyD q k)=some (aEO s k L0)
 | _,_,0,_,_,hf,_=>absurd hf (by omega)
 | [],q,f+1,L,hs,_,hd=>by
   rw [eD,bndD,jO hs,bC]
   rw [List.append_nil] at hs
   unfold aEO
   rw [hs] at h0
   have e:L=L0:=aBo hd.lv.pw h0.lv.pw hd.lv.ne h0.lv.ne fun n=>by rw [hd.lm,h0.lm]
   rw [hs,e]
 | x :: r, q,f+1,L,hs,hf,hd=>by
   have hx:x∈s.Pieces:=by rw [hs]; simp
   have hpl:=h.pl
   obtain ⟨⟨a1,a2,a3⟩,a4,a5⟩:=h.pb x hx
   obtain ⟨n1,n2,n3,n4⟩:=h.num
   have hq:q.length≤4097:=by rw [hs,List.length_append] at hpl; omega
   have hfl:=List.length_filter_le (fun y:Pc=>!decide (y.Path=k)) q
   have hLl:=hd.len h
   have hrec:=fun L' hd'=>aEg h k h0 r (q++[x]) f L' (by rw [hs]; simp) (by simpa using hf) hd'
   have ea:anyD (q++[x]) k=(anyD q k||(decide (x.Path=k)&&x.Fin)):=by unfold anyD; simp
   rw [ea,List.filter_append] at hrec
   rw [eD,bndD,jC hs,bH,dP hs,bnoS,bndD]
   by_cases c:x.Path=k
   · obtain ⟨t,t1,t2,t3,t4,t5⟩:=aGk (s:=L) (x:=⟨x.From,x.To⟩) (by omega) hd.lv (by show 0≤x.From; omega) (by show x.To≤_; omega) (by show x.From≤x.To; omega)
     have hA:lN L ⟨x.From,x.To⟩=some t:=add06 (by omega) hd.lv (by show 0≤x.From∧x.From≤_∧0≤x.To∧x.To≤_; omega) t2.pw t2.ne t3
     have hd':DL s (q++[x]) k t:=by
      have hm:∀ n,mem n t↔mem n s.Lost∨∃ y∈q++[x],y.Path=k∧y.From≤n∧n<y.To:=fun n=>by
       rw [t3,hd.lm]
       constructor
       · rintro ((h1 | ⟨y,h1,h2⟩) | h1)
         · exact .inl h1
         · exact .inr ⟨y,by simp [h1],h2⟩
         · exact .inr ⟨x,by simp,c,h1⟩
       · rintro (h1 | ⟨y,h1,h2,h3⟩)
         · exact .inl (.inl h1)
         · rcases List.mem_append.1 h1 with h1 | h1
           · exact .inl (.inr ⟨y,h1,h2,h3⟩)
           · rcases List.mem_cons.1 h1 with rfl | h1
             · exact .inr h3
             · cases h1
      refine ⟨t2,aCq t2 fun n hn=>?_,hm,fun hh=>?_⟩
      · rcases (hm n).1 hn with ⟨y,hy,h1,h2⟩ | ⟨y,hy,h1,h2,h3⟩
        · have:=h.lb y hy; omega
        · have:=(h.pb y (by
           rcases List.mem_append.1 hy with hy | hy
           · rw [hs]; simp [hy]
           · rcases List.mem_cons.1 hy with rfl | hy
             · exact hx
             · cases hy)).1
          omega
      · rw [t4 (hh x (by simp) c)]
        exact hd.le fun y hy=>hh y (by simp [hy])
     have:=hrec t hd'
     rw [decide_eq_true c,List.filter_cons_of_neg (by simp [c]),List.filter_nil,List.append_nil,Bool.true_and,←Bool.or_assoc] at this
     rw [decide_eq_true c,Bool.not_true,bC,hA,bnoS,bndD,w_at hs (by omega),bndD]
     exact this
   · have hd':DL s (q++[x]) k L:=by
      refine ⟨hd.lv,hd.lb,fun n=>?_,fun hh=>hd.le fun y hy=>hh y (by simp [hy])⟩
      rw [hd.lm]
      constructor
      · rintro (h1 | ⟨y,h1,h2⟩)
        · exact .inl h1
        · exact .inr ⟨y,by simp [h1],h2⟩
      · rintro (h1 | ⟨y,h1,h2,h3⟩)
        · exact .inl h1
        · rcases List.mem_append.1 h1 with h1 | h1
          · exact .inr ⟨y,h1,h2,h3⟩
          · rcases List.mem_cons.1 h1 with rfl | h1
            · exact absurd h2 c
            · cases h1
     have:=hrec L hd'
     rw [decide_eq_false c,List.filter_cons_of_pos (by simp [c]),List.filter_nil,Bool.false_and,Bool.or_false] at this
     rw [decide_eq_false c,Bool.not_false,bH,gZ (Nat.le_trans (Nat.add_le_add_right hfl 1) (by omega)) (Nat.le_trans (Nat.mul_le_mul_right 32 (Nat.add_le_add_right hfl 1)) (by omega)),bnoS,w_at hs (by omega),bndD]
     exact this
theorem rdead23 {s:S23} (h:G s) (k:Int) {L:List Iv} (hL:DL s s.Pieces k L):mJ s k=some (aEO s k L):=by
 have hpl:=h.pl
 have h0:DL s [] k s.Lost:=⟨h.lv,h.lb,fun n=>⟨.inl,fun hh=>hh.elim id fun ⟨y,hy,_⟩=>(by cases hy)⟩,fun _=>rfl⟩
 have:=aEg h k hL s.Pieces [] fuel s.Lost rfl (dN (by omega)) h0
 have e:(s.Again||anyD [] k)=s.Again:=by unfold anyD; simp
 rw [e] at this
 unfold mJ
 rw [rS h,bnoS,bndD,decide_eq_true rfl,Bool.not_true,bC]
 exact this
end Go.Fn
