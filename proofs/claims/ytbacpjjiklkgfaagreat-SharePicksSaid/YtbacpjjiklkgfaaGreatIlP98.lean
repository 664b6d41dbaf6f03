/-
  A part of the proof: rules and plain facts. No condition.
-/
import Derived.Test.YtbacpjjiklkgfaaGreatIlA20D
import Derived.KernelRfl
import Derived.Test.YtbacpjjiklkgfaaGreatIlAr
set_option linter.all false
open Bool renaming and_eq_true → Av
open Int renaming mul_le_mul → DU
open Go Go.IL
namespace Go.Fn
theorem aEm:mK=some true:=by kernel_rfl
def inB(a b c:Int):Bool:=decide (b≤a)&&decide (a≤c)
theorem xG(a b c:Int):oQ a b c=some (inB a b c):=rfl
theorem xI(a b c:Int):jR a b c=some (inB a b c):=rfl
theorem yB{a b c:Int}:inB a b c=true↔b≤a∧a≤c:=by unfold inB; rw [Av,decide_eq_true_eq,decide_eq_true_eq]
theorem aFF{x w k m:Int}(h0:0≤x)(h1:x≤k)(h2:0≤w)(h3:w≤m)(hk:0≤k):0≤x*w∧x*w≤k*m :=
 ⟨Int.mul_nonneg h0 h2,DU h1 h3 h2 hk⟩
end Go.Fn
open Bool renaming eq_false_or_eq_true → Ez,false_and → Bu,not_false → AL,not_true → AD,true_and → BF
open Go.IntKind renaming wrap → Af
open Int renaming toNat_natCast → As
open List renaming any_eq_false → BJ,any_eq_true → Bv,append_assoc → AA,append_nil → Ax,drop_eq_getElem_cons → Dr,filter_append → BO,filter_cons_of_neg → Be,filter_cons_of_pos → BC,filter_eq_nil_iff → Cs,filter_eq_self → BP,getElem?_append_right → Bx,getElem?_eq_getElem → AY,getElem?_eq_none → Ch,getElem?_eq_some_iff → Aj,getElem_drop → EA,getElem_mem → EJ,length_append → AO,length_cons → AR,length_drop → BV,length_nil → Cj,length_take → Bm,mem_append → AM,mem_iff_getElem → Dq,mem_of_getElem? → Eb,mem_singleton → BE,not_mem_nil → Bc,pairwise_iff_getElem → CS,set_append_right → Dh,take_append_drop → AX,take_length → Cx
open Nat renaming add_zero → CP,eq_zero_or_pos → FA,le_refl → AP,lt_or_ge → Ck,sub_self → FK,zero_le → CZ
open Option renaming map_eq_some_iff → Cz,map_none → Ei,map_some → DH
open _root_ renaming Option → Ag,beq_self_eq_true → AQ,decide_eq_false → Ad,decide_eq_true → Ae,if_pos → Ao
open Go Go.IL
namespace Go.Fn
theorem dL{α:Type}{l p r:List α}{x:α}(h:l=p++x::r):gix l (p.length:Int)=some x:=by
 subst h; rw [fM,Bx (AP _)]; simp
theorem lJ{α:Type}{l p r:List α}{x:α}(h:l=p++x::r):decide ((p.length:Int)<(l.length:Int))=true:=by
 subst h; simp; omega
theorem oO{α:Type}{l p:List α}(h:l=p++[]):decide ((p.length:Int)<(l.length:Int))=false:=by
 subst h; simp
theorem pQ{α:Type}{l:List α}:decide ((l.length:Int)<(l.length:Int))=false:=by simp
theorem w_at{α:Type}{l p r:List α}{x:α}(h:l=p++x::r)(hl:l.length≤1000000):Af .i64 ((p.length:Int)+1)=((p++[x]).length:Int):=by
 subst h; simp only [AO,AR,Cj] at hl ⊢; rw [w64 (by omega) (by omega)]; omega
theorem eO{α:Type}{l p r:List α}{x:α}(h:l=p++x::r):l=(p++[x])++r:=by rw [h]; simp
theorem tf:(true == false)=false:=rfl
theorem ft:(false == true)=false:=rfl
theorem aAw{α:Type}{l p r:List α}{x y:α}(h:l=(p++[x])++y::r)(hl:l.length≤1000000):gix l (Af .i64 (((p++[x]).length:Int)-1))=some x:=by
 have hp:p.length≤1000000:=by rw [h] at hl; simp at hl; omega
 rw [show ((p++[x]).length:Int)-1=(p.length:Int) by simp,w64 (by omega) (by omega)];exact dL (r:=y::r) (by rw [h]; simp)
theorem aFb{α:Type}{l p r:List α}(h:l=p++r):cut l 0 (p.length:Int)=some p:=by
 subst h; unfold cut; rw [Ao (by simp; omega)]; simp
theorem aFa{α:Type}{l p r:List α}(h:l=p++r):cut l (p.length:Int) (l.length:Int)=some r:=by
 subst h; unfold cut; rw [Ao (by simp; omega),As,As,Cx,List.drop_left]
theorem aAu{α:Type}{L:Nat→Int→Option Int}{l:List α}{q:α→Bool}(h1:∀ p x r f,l=p++x::r→L (f+1) (p.length:Int)=bif q x then some (p.length:Int) else L f ((p++[x]).length:Int))(h0:∀ f,L (f+1) (l.length:Int)=some (-1)) :
 ∀ (r p:List α) (f:Nat),l=p++r→r.length<f→(∀ y∈p,q y=false) →
   (L f (p.length:Int)=some (-1)∧∀ y∈l,q y=false)∨∃ a x t,l=a++x::t∧(∀ y∈a,q y=false)∧q x=true∧L f (p.length:Int)=some (a.length:Int)
 | [],p,f+1,h,_,ha=>by
   left;rw [Ax] at h;subst h;exact ⟨h0 f,ha⟩
 | y :: r,p,f+1,h,hf,ha=>by
   rw [h1 p y r f h]
   rcases Ez (q y) with hb | hb
   · right; exact ⟨p,y,r,h,ha,hb,by rw [hb]; rfl⟩
   · rw [hb,bJ];exact aAu h1 h0 r (p++[y]) f (eO h) (by simpa using hf) (fun z hz=>by
      rcases AM.1 hz with hz | hz
      · exact ha z hz
      · rw [BE.1 hz]; exact hb)
theorem aFQ{α:Type}{L:Nat→Int→Option Int}{l:List α}{q:α→Bool}(hl:l.length≤1000000)(h1:∀ p x r f,l=p++x::r→L (f+1) (p.length:Int)=bif q x then some (p.length:Int) else L f ((p++[x]).length:Int))(h0:∀ f,L (f+1) (l.length:Int)=some (-1)) :
 ∃ k:Int,L fuel 0=some k∧decide (0≤k)=l.any q:=by
 rcases aAu h1 h0 l [] fuel rfl (dK (by omega)) (fun _ h=>(Bc h).elim) with ⟨h2,h3⟩ | ⟨a,x,t,h2,h3,h4,h5⟩
 · refine ⟨-1,h2,?_⟩
   symm
   have:l.any q=false:=by rw [BJ]; intro y hy; rw [h3 y hy]; decide
   rw [this]; rfl
 · refine ⟨a.length,h5,?_⟩;have:l.any q=true:=Bv.2 ⟨x,by rw [h2]; simp,h4⟩;rw [this]; exact Ae (by omega)
theorem aDG{α:Type}{L:Nat→List α→Int→Int→Ag (List α)}{q:α→Bool}(h1:∀ (f:Nat) (l:List α) (i j:Nat) (x:α),l.length≤100000→i≤j→j<l.length→l[j]? = some x→L (f+1) l (i:Int) (j:Int)=bif !q x then L f (l.set i x) ((i+1:Nat):Int) ((j+1:Nat):Int) else L f l (i:Int) ((j+1:Nat):Int))(h0:∀ (f:Nat) (l:List α) (i:Nat),i≤l.length→L (f+1) l (i:Int) (l.length:Int)=some (l.take i)) :
 ∀ (r k m:List α) (f:Nat),k.length+m.length+r.length≤100000→r.length<f →
   L f (k++m++r) (k.length:Int) ((k.length+m.length:Nat):Int)=some (k++r.filter fun y=>!q y)
 | [],k,m,f+1,hl,_=>by
   have:=h0 f (k++m) k.length (by simp);rw [Ax,show ((k.length+m.length:Nat):Int)=((k++m).length:Int) by simp,this]; simp
 | y :: r,k,m,f+1,hl,hf=>by
   simp only [AR] at hl hf;have hy:(k++m++y::r)[k.length+m.length]? = some y:=by
    rw [Bx (by simp)]; simp
   have hlen:(k++m++y::r).length=k.length+m.length+(r.length+1):=by simp; omega
   rw [h1 f (k++m++y::r) k.length (k.length+m.length) y (by omega) (by omega) (by omega) hy]
   rcases Ez (q y) with hb | hb
   · rw [hb,AD,bJ,Be (by simp [hb])];have:=aDG h1 h0 r k (m++[y]) f (by simp; omega) (by omega);rw [show k++m++y::r=k++(m++[y])++r by simp,←this]; congr 1; simp; omega
   · rw [hb,AL,bO,BC (by simp [hb])];obtain ⟨m2,h3,h2⟩:∃ m2:List α,m2.length=m.length∧(k++m++y::r).set k.length y=k++[y]++m2++r:=by
      rw [AA k m,Dh _ _ (AP _),FK];cases m with
      | nil=>exact ⟨[],rfl,by simp⟩
      | cons a m=>exact ⟨m++[y],by simp,by simp⟩
     rw [h2];have:=aDG h1 h0 r (k++[y]) m2 f (by simp; omega) (by omega);rw [show k++y::List.filter (fun y=>!q y) r=k++[y]++List.filter (fun y=>!q y) r by simp,←this]
     congr 1 <;> simp <;> omega
theorem aJA{α:Type}{I:Nat→Int→Option Int}{L:Nat→List α→Int→Int→Ag (List α)}{l:List α}{q:α→Bool}(hl:l.length≤100000)(i1:∀ p x r f,l=p++x::r→I (f+1) (p.length:Int)=bif q x then some (p.length:Int) else I f ((p++[x]).length:Int))(i0:∀ f,I (f+1) (l.length:Int)=some (-1))(h1:∀ (f:Nat) (l:List α) (i j:Nat) (x:α),l.length≤100000→i≤j→j<l.length→l[j]? = some x→L (f+1) l (i:Int) (j:Int)=bif !q x then L f (l.set i x) ((i+1:Nat):Int) ((j+1:Nat):Int) else L f l (i:Int) ((j+1:Nat):Int))(h0:∀ (f:Nat) (l:List α) (i:Nat),i≤l.length→L (f+1) l (i:Int) (l.length:Int)=some (l.take i)) :
 (bno (I fuel 0) fun x1=>bnd (decide (x1=(-1))) fun x2=>bif x2 then some l else bnd (Af .i64 (x1+1)) fun x4=>L fuel l x1 x4)=some (l.filter fun y=>!q y):=by
 rcases aAu i1 i0 l [] fuel rfl (dK (by omega)) (fun _ h=>(Bc h).elim) with ⟨e1,e2⟩ | ⟨a,x,t,e1,e2,e3,e4⟩
 · have e1:I fuel 0=some (-1):=e1;rw [e1,bnoS];simp only [bndD,decide_true,bO];rw [BP.2 (fun y hy=>by rw [e2 y hy]; rfl)]
 · have e4:I fuel 0=some (a.length:Int):=e4;have hql:a.length+(t.length+1)≤100000:=by rw [e1] at hl; simpa using hl
   rw [e4,bnoS];simp only [bndD,Ad (show ¬(a.length:Int) = -1 by omega),bJ];rw [w64 (by omega) (by omega)];have:=aDG h1 h0 t a [x] fuel (by simp; omega) (dK (by omega));rw [e1,BO,Be (by simp [e3]),BP.2 (fun y hy=>by rw [e2 y hy]; rfl),←this]
   congr 1; simp
theorem aD3{α:Type}[DecidableEq α]{L:Nat→Int→Ag Bool}{l m:List α}(hm:l.length=m.length)(h1:∀ p x r s y t f,l=p++x::r→m=s++y::t→p.length=s.length→L (f+1) (p.length:Int)=bif !decide (x=y) then some false else L f ((p++[x]).length:Int)){z:Bool}(h0:∀ f,L (f+1) (l.length:Int)=some z) :
 ∀ (r t p s:List α) (f:Nat),l=p++r→m=s++t→p.length=s.length→r.length<f→L f (p.length:Int)=some (decide (r=t)&&z)
 | [],[],p,s,f+1,h,k,e,_=>by
   rw [Ax] at h;subst h;rw [h0]; simp
 | [],y::t,p,s,f+1,h,k,e,_=>by rw [h,k] at hm; simp at hm; omega
 | x::r,[],p,s,f+1,h,k,e,_=>by rw [h,k] at hm; simp at hm; omega
 | x :: r,y::t,p,s,f+1,h,k,e,hf=>by
   rw [h1 p x r s y t f h k e]
   by_cases hx:x=y
   · subst hx;rw [Ae rfl,AD,bJ];have:=aD3 hm h1 h0 r t (p++[x]) (s++[x]) f (eO h) (eO k) (by simp [e]) (by simpa using hf);rw [this]; simp
   · rw [Ad hx,AL,bO]; simp [hx]
theorem aBq{α:Type}[DecidableEq α]{L:Nat→Int→Ag Bool}{l m:List α}(hl:l.length≤1000000)(h1:∀ p x r s y t f,l=p++x::r→m=s++y::t→p.length=s.length→L (f+1) (p.length:Int)=bif !decide (x=y) then some false else L f ((p++[x]).length:Int)){z:Bool}(h0:l.length=m.length→∀ f,L (f+1) (l.length:Int)=some z) :
 (bnd (!decide ((l.length:Int)=(m.length:Int))) fun x1=>bif x1 then some false else L fuel 0)=some (decide (l=m)&&z):=by
 by_cases hm:l.length=m.length
 · simp only [bndD,Ae (show (l.length:Int)=(m.length:Int) by omega),AD,bJ];exact aD3 hm h1 (h0 hm) l m [] [] fuel rfl rfl rfl (dK (by omega))
 · simp only [bndD,Ad (show ¬(l.length:Int)=(m.length:Int) by omega),AL,bO];rw [Ad (fun h=>hm (by rw [h]))]; rfl
theorem bsf_gen{α:Type}{L:Nat→Int→Int→Option (Int×Bool)}{l:List α}{key:α→Int}{x:Int}(hl:l.length≤1000000)(h1:∀ (f lo hi m:Nat) (y:α),lo<hi→hi≤l.length→m=(lo+hi) / 2→l[m]? = some y→L (f+1) (lo:Int) (hi:Int)=bif decide (key y<x) then L f ((m+1:Nat):Int) (hi:Int) else L f (lo:Int) (m:Int))(h0:∀ (f lo:Nat),lo≤l.length→L (f+1) (lo:Int) (lo:Int)=some ((lo:Int),decide ((l[lo]?).map key=some x))) :
 ∀ (f lo hi:Nat),hi-lo<f→lo≤hi→hi≤l.length→∃ p:Nat,p≤l.length∧L f lo hi=some ((p:Int),decide ((l[p]?).map key=some x)) ∧
 (l.Pairwise (fun a b=>key a<key b)→(∀ y∈l.take lo,key y<x)→(∀ y∈l.drop hi,x≤key y)→(∀ y∈l.take p,key y<x)∧(∀ y∈l.drop p,x≤key y)):=by
 intro f
 induction f with
 | zero=>intro lo hi h; omega
 | succ f ih =>
   intro lo hi hf h2 h3
   by_cases hc:lo<hi
   · have hm:(lo+hi) / 2<l.length:=by omega
     rw [h1 f lo hi _ l[(lo+hi) / 2] hc h3 rfl (AY hm)];generalize hmm:(lo+hi) / 2=m at hm ⊢;have hml:lo≤m:=by omega
     have hmh:m<hi:=by omega
     by_cases hx:key l[m]<x
     · rw [Ae hx,bO];obtain ⟨p,i1,i2,i3⟩:=ih (m+1) hi (by omega) (by omega) h3;refine ⟨p,i1,i2,fun hp ha hb=>i3 hp (fun y hy=>?_) hb⟩;obtain ⟨j,hj,rfl⟩:=Dq.1 hy;rw [Bm] at hj;rw [List.getElem_take]
       rcases Ck j m with hjm | hjm
       · exact Int.lt_trans (CS.1 hp j m (by omega) (by omega) hjm) hx
       · have:j=m:=by omega
         subst this; exact hx
     · rw [Ad hx,bJ];obtain ⟨p,i1,i2,i3⟩:=ih lo m (by omega) (by omega) (by omega);refine ⟨p,i1,i2,fun hp ha hb=>i3 hp ha (fun y hy=>?_)⟩;obtain ⟨j,hj,rfl⟩:=Dq.1 hy;rw [BV] at hj;rw [EA]
       rcases FA j with rfl | hj0
       · simp only [CP]; omega
       · have:=CS.1 hp m (m+j) (by omega) (by omega) (by omega);omega
   · have:lo=hi:=by omega
     subst this;exact ⟨lo,h3,h0 f lo h3,fun _ ha hb=>⟨ha,hb⟩⟩
theorem aGb{α:Type}{l a b:List α}{key:α→Int}{x:Int}(h:l=a++b)(ha:∀ y∈a,key y<x)(hb:∀ y∈b,x≤key y):a=l.filter (fun y=>decide (key y<x))∧b=l.filter (fun y=>decide (x≤key y)):=by
 subst h;rw [BO,BO,BP.2 (fun y hy=>Ae (ha y hy)),Cs.2 (fun y hy=>by have:=hb y hy; simp; omega),Cs.2 (fun y hy=>by have:=ha y hy; simp; omega),BP.2 (fun y hy=>Ae (hb y hy))]
 simp
theorem bsf_all{α:Type}{L:Nat→Int→Int→Option (Int×Bool)}{l:List α}{key:α→Int}{x:Int}(hl:l.length≤1000000)(h1:∀ (f lo hi m:Nat) (y:α),lo<hi→hi≤l.length→m=(lo+hi) / 2→l[m]? = some y→L (f+1) (lo:Int) (hi:Int)=bif decide (key y<x) then L f ((m+1:Nat):Int) (hi:Int) else L f (lo:Int) (m:Int))(h0:∀ (f lo:Nat),lo≤l.length→L (f+1) (lo:Int) (lo:Int)=some ((lo:Int),decide ((l[lo]?).map key=some x)))(hp:l.Pairwise (fun a b=>key a<key b)) :
 ∃ a b:List α,l=a++b∧a=l.filter (fun y=>decide (key y<x))∧b=l.filter (fun y=>decide (x≤key y)) ∧
   ((∃ y c,b=y::c∧key y=x∧L fuel 0 (l.length:Int)=some ((a.length:Int),true))∨((∀ y∈l,key y≠x)∧L fuel 0 (l.length:Int)=some ((a.length:Int),false))):=by
 obtain ⟨p,e1,e2,e3⟩:=bsf_gen hl h1 h0 fuel 0 l.length (dK (by omega)) (CZ _) (AP _);obtain ⟨e4,e5⟩:=e3 hp (by simp) (by simp);obtain ⟨e6,e7⟩:=aGb (AX p l).symm e4 e5;have hpl:(l.take p).length=p:=by rw [Bm]; omega
 have e2:L fuel 0 (l.length:Int)=_:=e2;refine ⟨l.take p,l.drop p,(AX p l).symm,e6,e7,?_⟩;rw [hpl,e2]
 by_cases hx:(l[p]?).map key=some x
 · left;obtain ⟨y,hy,hk⟩:=Cz.1 hx;have hlt:p<l.length:=(Aj.1 hy).1;have hye:l[p]=y:=(Aj.1 hy).2;exact ⟨y,l.drop (p+1),by rw [←hye]; exact Dr hlt,hk,by rw [Ae hx]⟩
 · right;refine ⟨fun y hy hk=>?_,by rw [Ad hx]⟩;rw [←AX p l] at hy
   rcases AM.1 hy with hy | hy
   · have:=e4 y hy; omega
   · obtain ⟨j,hj,hjx⟩:=Dq.1 hy;rw [BV] at hj;rw [EA] at hjx
     rcases FA j with rfl | hj0
     · apply hx; rw [AY (by omega)]; simp only [CP] at hjx; rw [DH,hjx,hk]
     · have h8:=CS.1 hp p (p+j) (by omega) (by omega) (by omega);have h9:=e5 l[p] (Dq.2 ⟨0,by rw [BV]; omega,by rw [EA]; simp⟩);rw [hjx,hk] at h8; omega
theorem sQ{α:Type}{P:α→Option Bool}{q:α→Bool}(hP:∀ x,P x=some (q x)){I:Nat→Int→Ag Int}{l:List α}(hI:∀ f v,I (f+1) v=bnd (decide (v<(l.length:Int))) fun x14=>bif x14 then (bno (gix l v) fun x16=>bno (P x16) fun x17=>bif x17 then some v else (bnd (Af .i64 (v+1)) fun x19=>I f x19)) else some (-1))(hl:l.length≤1000000):(bno (I fuel 0) fun x1=>bnd (decide (0≤x1)) fun x2=>some x2)=some (l.any q):=by
 obtain ⟨k,h1,h2⟩:=aFQ (L:=I) (q:=q) hl (fun p x r f h=>by
  rw [hI]; simp only [bndD,lJ h,bO,dL h,bnoS,hP,w_at h hl]) (fun f=>by rw [hI]; simp only [bndD,pQ,bJ])
 rw [h1,bnoS,bndD,h2]
theorem xF{α:Type}{P:α→Option Bool}{q:α→Bool}(hP:∀ x,P x=some (q x)){I:Nat→Int→Ag Int}{L:Nat→List α→Int→Int→Ag (List α)}{l:List α}(hI:∀ f v,I (f+1) v=bnd (decide (v<(l.length:Int))) fun x14=>bif x14 then (bno (gix l v) fun x16=>bno (P x16) fun x17=>bif x17 then some v else (bnd (Af .i64 (v+1)) fun x19=>I f x19)) else some (-1))(hL:∀ f a b c,L (f+1) a b c=bnd (decide (c<(a.length:Int))) fun x32=>bif x32 then (bno (gix a c) fun x34=>bno (a[(c:Int).toNat]?) fun x35=>bno (P x35) fun x36=>bif (!x36) then (bno (gix a b) fun x38=>bno (a[(b:Int).toNat]?) fun x39 =>
   bnd (a.set ((b:Int).toNat) x35) fun x40=>bnd (Af .i64 (b+1)) fun x41=>bnd (Af .i64 (c+1)) fun x42=>L f x40 x41 x42) else (bnd (Af .i64 (c+1)) fun x43=>L f a b x43)) else (bno (cut a 0 b) fun x44=>bno (cut x44 0 b) fun x45=>some x45))(hl:l.length≤100000):(bno (I fuel 0) fun x1=>bnd (decide (x1=(-1))) fun x2=>bif x2 then some l else bnd (Af .i64 (x1+1)) fun x4=>L fuel l x1 x4)=some (l.filter fun y=>!q y):=by
 refine aJA hl (fun p x r f h=>by
  rw [hI]; simp only [bndD,lJ h,bO,dL h,bnoS,hP,w_at h (show l.length≤1000000 by omega)]) (fun f=>by rw [hI]; simp only [bndD,pQ,bJ]) (fun f a i j x ha hij hj hx=>?_) (fun f a i hi=>?_)
 · rw [hL];have hi:i<a.length:=by omega
   simp only [bndD,Ae (show (j:Int)<(a.length:Int) by omega),bO,fM,hx,bnoS,As,hP,AY hi,w64 (show -9223372036854775808≤(j:Int)+1 by omega) (by omega),w64 (show -9223372036854775808≤(i:Int)+1 by omega) (by omega)];rfl
 · rw [hL];have e:(a.take i).length=i:=by rw [Bm]; omega
   simp only [bndD,pQ,bJ];have h1:=aFb (l:=a) (AX i a).symm;have h2:=aFb (l:=a.take i) (p:=a.take i) (r:=[]) (by simp);rw [e] at h1 h2;rw [h1,bnoS,h2,bnoS]
theorem aB9{α:Type}{dflt:α}{C:α→Option Int}{c:α→Int}{key:α→Int}{x:Int}{L:Nat→Int→Int→Ag (Int×Bool)}{l:List α}(hC:∀ y∈l,C y=some (c y))(hc:∀ y∈l,(c y<0↔key y<x)∧(c y=0↔key y=x))(hL:∀ f a b,L (f+1) a b=bnd (decide (a<b)) fun x25=>bif x25 then (bnd (Af .i64 (a+b)) fun x27=>bnd (Af .u64 x27) fun x28=>bno (shrI .u64 x28 1) fun x29=>bnd (Af .i64 x29) fun x30=>bno (gix l x30) fun x31=>bno (C x31) fun x32 =>
   bnd (decide (x32<0)) fun x33=>bif x33 then (bnd (Af .i64 (x30+1)) fun x35=>L f x35 b) else (L f a x30)) else (bnd (decide (a<(l.length:Int))) fun x36=>bno (gd (x36 == true) (gix l a) (dflt:α)) fun x37=>bno (gd (x36 == true) (C x37) (default:Int)) fun x38 =>
   bnd (decide (x38=0)) fun x39=>bnd (x36&&x39) fun x40=>some (a,x40)))(hl:l.length≤1000000)(hp:l.Pairwise (fun a b=>key a<key b)) :
 ∃ a b:List α,l=a++b∧a=l.filter (fun y=>decide (key y<x))∧b=l.filter (fun y=>decide (x≤key y)) ∧
   ((∃ y c,b=y::c∧key y=x∧L fuel 0 (l.length:Int)=some ((a.length:Int),true))∨((∀ y∈l,key y≠x)∧L fuel 0 (l.length:Int)=some ((a.length:Int),false))):=by
 refine bsf_all hl (fun f lo hi m y h1 h2 h3 h4=>?_) (fun f lo h1=>?_) hp
 · rw [hL];have hy:y∈l:=Eb h4;have e1:shrI .u64 ((lo:Int)+(hi:Int)) 1=some ((m:Nat):Int):=by
    rw [shr_at (k:=.u64) (b:=1) 1 rfl (by decide),h3]; congr 1
   simp only [bndD,Ae (show (lo:Int)<(hi:Int) by omega),bO,w64 (show -9223372036854775808≤(lo:Int)+(hi:Int) by omega) (by omega),wU64 (show 0≤(lo:Int)+(hi:Int) by omega) (by omega),e1,bnoS,
    w64 (show -9223372036854775808≤((m:Nat):Int) by omega) (by omega),fM,h4,hC y hy,w64 (show -9223372036854775808≤(m:Int)+1 by omega) (by omega)]
   by_cases hx:key y<x
   · rw [Ae hx,Ae ((hc y hy).1.2 hx)]; rfl
   · rw [Ad hx,Ad (fun h=>hx ((hc y hy).1.1 h))]; rfl
 · rw [hL];simp only [bndD,Ad (show ¬(lo:Int)<(lo:Int) by omega),bJ]
   by_cases hl':lo<l.length
   · have hy:l[lo]∈l:=EJ hl';simp only [Ae (show (lo:Int)<(l.length:Int) by omega),AQ,gdtt,fM,AY hl',bnoS,hC _ hy,BF,DH,Option.some.injEq]
     by_cases hx:key l[lo]=x
     · rw [Ae hx,Ae ((hc _ hy).2.2 hx)]
     · rw [Ad hx,Ad (fun h=>hx ((hc _ hy).2.1 h))]
   · rw [Ch (by omega)];simp only [Ad (show ¬(lo:Int)<(l.length:Int) by omega),ft,gdff,bnoS,Bu,Ei];rfl
end Go.Fn
open List renaming find?_append → CX,find?_eq_none → Cc
open Go Go.IL
namespace Go.Fn
abbrev Nd:=aW
abbrev Fs:=aD7
abbrev Fo:=aIF
def I64(n:Int):Prop:=-9223372036854775808≤n∧n≤9223372036854775807
inductive Fd (N:List Nd) (id:Int):Int×Bool→Prop
 | yes (A:List Nd) (y:Nd) (C:List Nd) (h:N=A++y::C) (e:y.ID=id) (ha:∀ a∈A,a.ID<id) (hc:∀ c∈C,id<c.ID):Fd N id ((A.length:Int),true)
 | no (p:Nat) (hp:p≤N.length) (h:∀ n∈N,n.ID≠id) (h2:0≤id→id≤1048576→(∀ a∈N.take p,a.ID<id)∧∀ c∈N.drop p,id<c.ID):Fd N id ((p:Int),false)
def tD(N:List Nd)(id:Int):Ag Int:=(N.find? fun n=>decide (n.ID=id)).map (·.aa)
theorem par_yes{N A C:List Nd}{y:Nd}{id:Int}(h:N=A++y::C)(e:y.ID=id)(ha:∀ a∈A,a.ID<id):tD N id=some y.aa:=by
 unfold tD;rw [h,CX];have h1:A.find? (fun n=>decide (n.ID=id))=none:=Cc.2 (fun a hm=>by have:=ha a hm; simp; omega);rw [h1];simp [e]
theorem aFA{N:List Nd}{id:Int}(h:∀ n∈N,n.ID≠id):tD N id=none:=by
 unfold tD;have h1:N.find? (fun n=>decide (n.ID=id))=none:=Cc.2 (fun a hm=>by have:=h a hm; simpa using this);rw [h1]; rfl
def fL(N:List Nd):Nat→Int→List Int
 | 0,_=>[]
 | k+1,id=>match tD N id with
   | some p=>if p=0 then [] else p::fL N k p
   | none=>[]
structure Ok34 (N:List Nd):Prop where
 ln:N.length≤1000
 ra:∀ n∈N,1≤n.ID∧n.ID≤1048576
 so:N.Pairwise (fun a b=>a.ID<b.ID)
 pa:∀ n∈N,I64 n.aa
end Go.Fn
open Bool renaming eq_iff_iff → DI
open List renaming Nodup → FF,append_of_mem → BR,filter_sublist → DA,find?_some → ET,length_erase_of_mem → EB,length_map → An,length_pos_of_mem → DN,mem_cons → Au,mem_erase_of_ne → Fe,mem_filter → AN,mem_map → Ak,mem_of_find?_eq_some → Dt,nodup_cons → Bl,pairwise_append → Bk,pairwise_cons → AI,pairwise_map → Bi
open _root_ renaming if_neg → Al
open Go Go.IL
namespace Go.Fn
theorem cmem{α:Type}{P:α→Option Bool}{q:α→Bool}{I:Nat→Int→Ag Int}{l:List α}(hP:∀ x∈l,P x=some (q x))(hI:∀ f v,I (f+1) v=bnd (decide (v<(l.length:Int))) fun x14=>bif x14 then (bno (gix l v) fun x16=>bno (P x16) fun x17=>bif x17 then some v else (bnd (Af .i64 (v+1)) fun x19=>I f x19)) else some (-1))(hl:l.length≤1000000):(bno (I fuel 0) fun x1=>bnd (decide (0≤x1)) fun x2=>some x2)=some (l.any q):=by
 obtain ⟨k,h1,h2⟩:=aFQ (L:=I) (q:=q) hl (fun p x r f h=>by
  rw [hI]; simp only [bndD,lJ h,bO,dL h,bnoS,hP x (by rw [h]; simp),w_at h hl]) (fun f=>by rw [hI]; simp only [bndD,pQ,bJ])
 rw [h1,bnoS,bndD,h2]
theorem cint{l:List Int}{x:Int}(hl:l.length≤1000000):dJ l x=some (decide (x∈l)):=by
 unfold dJ lW;have:=cmem (P:=fun y=>some (decide (x=y))) (q:=fun y=>decide (x=y)) (I:=eJ l x) (l:=l) (fun _ _=>rfl) (fun f v=>rfl) hl;rw [this]
 congr 1
 rw [DI,Bv]
 simp
theorem sD:∀ {l m:List Int},l.Nodup→(∀ x∈l,x∈m)→l.length≤m.length
 | [],m,_,_=>CZ _
 | x::l,m,hn,hs=>by
   obtain ⟨h1,h2⟩:=Bl.1 hn;have hx:=hs x (by simp);have:=sD (l:=l) (m:=m.erase x) h2 (fun y hy=>by
    have hne:y≠x:=fun e=>h1 (e ▸ hy)
    exact (Fe hne).2 (hs y (by simp [hy])))
   rw [EB hx] at this;have hp:0<m.length:=DN hx;simp only [AR]; omega
theorem zH{N:List Nd}(h:N.Pairwise (fun a b=>a.ID<b.ID)):(N.map (·.ID)).Nodup:=by
 unfold FF;rw [Bi];exact h.imp (fun h=>by omega)
structure FV (K:Int) (st:Fs):Prop where
 rm:st.aj=24
 kp:st.ak=K∧0≤K∧K≤24
 ln:st.ai.length≤24
 el:(st.al.length:Int)≤K
 so:st.ai.Pairwise (fun a b=>a.ID<b.ID)
 ra:∀ n∈st.ai,(1≤n.ID∧n.ID≤1048576)∧1≤n.ae∧n.ae≤256
 pa:∀ n∈st.ai,n.aa=0∨∃ m∈st.ai,m.ID=n.aa
 rk:∃ r:Int→Nat,∀ n∈st.ai,n.aa≠0→r n.aa<r n.ID
 en:∀ n∈st.ai,(n.af=true↔n.ID∈st.al)
 nd:st.al.Nodup
 es:∀ e∈st.al,∃ n∈st.ai,n.ID=e
theorem FV.ok{K:Int}{st:Fs}(h:FV K st):Ok34 st.ai :=
 ⟨by have:=h.ln; omega,fun n hn=>(h.ra n hn).1,h.so,fun n hn=>by
  rcases h.pa n hn with e | ⟨m,hm,e⟩
  · rw [e]; exact ⟨by decide,by decide⟩
  · have:=(h.ra m hm).1; exact ⟨by omega,by omega⟩⟩
theorem sT{N:List Nd}(h:N.Pairwise (fun a b=>a.ID<b.ID)){a b:Nd}(ha:a∈N)(hb:b∈N)(e:a.ID=b.ID):a=b:=by
 obtain ⟨A,C,rfl⟩:=BR ha;have hp:=Bk.1 h;have hp2:=AI.1 hp.2.1
 rcases AM.1 hb with hb | hb
 · have:=hp.2.2 b hb a (by simp); omega
 · rcases Au.1 hb with hb | hb
   · exact hb.symm
   · have:=hp2.1 b hb; omega
theorem aCq{N:List Nd}{id p:Int}(h:tD N id=some p):∃ n∈N,n.ID=id∧n.aa=p:=by
 unfold tD at h;cases hf:N.find? (fun n=>decide (n.ID=id)) with
 | none=>rw [hf] at h; cases h
 | some n =>
   rw [hf] at h;have h1:=ET hf;exact ⟨n,Dt hf,by simpa using h1,by simpa using h⟩
theorem yM{N:List Nd}(h:N.Pairwise (fun a b=>a.ID<b.ID)){n:Nd}(hn:n∈N):tD N n.ID=some n.aa:=by
 obtain ⟨A,C,rfl⟩:=BR hn;have hp:=Bk.1 h;exact par_yes rfl rfl (fun a ha=>hp.2.2 a ha n (by simp))
theorem aBM{N:List Nd}{r:Int→Nat}(h:∀ n∈N,n.aa≠0→r n.aa<r n.ID):∀ (k:Nat) (id x:Int),x∈fL N k id→r x<r id
 | 0,_,_,hx=>(Bc hx).elim
 | k + 1,id,x,hx=>by
   unfold fL at hx;cases hp:tD N id with
   | none=>rw [hp] at hx; exact (Bc hx).elim
   | some p =>
     rw [hp] at hx;obtain ⟨n,hn,e1,e2⟩:=aCq hp
     by_cases hz:p=0
     · simp only [hz,if_true] at hx; exact (Bc hx).elim
     · simp only [Al hz] at hx;have h1:=h n hn (by rw [e2]; exact hz);rw [e1,e2] at h1
       rcases Au.1 hx with rfl | hx
       · exact h1
       · have:=aBM h k p x hx; omega
theorem aAp(N:List Nd):∀ (k:Nat) (id:Int),(fL N k id).length≤k
 | 0,_=>AP _
 | k + 1,id=>by
   unfold fL;cases tD N id with
   | none=>exact CZ _
   | some p =>
     have:=aAp N k p;simp only;split
     · exact CZ _
     · rw [AR]; omega
theorem aGH{K:Int}{st:Fs}(h:FV K st):(st.ai.filter (·.af)).length=st.al.length:=by
 have h1:((st.ai.filter (·.af)).map (·.ID)).Nodup:=zH (List.Pairwise.sublist DA h.so);have h2:=sD h1 (m:=st.al) (fun x hx=>by
  obtain ⟨n,hn,rfl⟩:=Ak.1 hx;obtain ⟨hn,hc⟩:=AN.1 hn;exact (h.en n hn).1 hc)
 have h3:=sD h.nd (m:=(st.ai.filter (·.af)).map (·.ID)) (fun x hx=>by
  obtain ⟨n,hn,e⟩:=h.es x hx;exact Ak.2 ⟨n,AN.2 ⟨hn,(h.en n hn).2 (by rw [e]; exact hx)⟩,e⟩)
 rw [An] at h2 h3;omega
end Go.Fn
open Int renaming ediv_le_of_le_mul → EU,le_refl → Dj,mul_le_mul_of_nonneg_left → FT
open List renaming length_filter_le → Bs
open _root_ renaming absurd → Ay
open Go Go.IL
namespace Go.Fn
theorem sP{α:Type}{l p r:List α}{x:α}(h:l=p++x::r):l[((p.length:Nat):Int).toNat]? = some x:=by
 rw [As,h,Bx (AP _)]; simp
theorem uE{α:Type}{p r:List α}{x y:α}:(p++x::r).set ((p.length:Nat):Int).toNat y=p++y::r:=by
 rw [As,Dh _ _ (AP _)]; simp
def sumS:List Nd→Int→Int
 | [],_=>0
 | n::r,id=>(if n.aa=id then n.ae else 0)+sumS r id
theorem aA6:∀ (a b:List Nd) (id:Int),sumS (a++b) id=sumS a id+sumS b id
 | [],b,id=>by show sumS b id=0+sumS b id; omega
 | n::a,b,id=>by
   have:=aA6 a b id
   show _+sumS (a++b) id=_+sumS a id+sumS b id
   omega
theorem aJU:∀ {N:List Nd},(∀ n∈N,1≤n.ae∧n.ae≤256)→∀ id,0≤sumS N id∧sumS N id≤256*N.length
 | [],_,_=>⟨Dj _,Dj _⟩
 | n::r,h,id=>by
   have h1:=aJU (N:=r) (fun x hx=>h x (by simp [hx])) id;have h2:=h n (by simp);have e:sumS (n::r) id=(if n.aa=id then n.ae else 0)+sumS r id:=rfl;rw [e,AR];split <;> omega
theorem aDR:∀ {N:List Nd} {n:Nd},(∀ x∈N,1≤x.ae∧x.ae≤256)→n∈N→n.ae≤sumS N n.aa
 | m :: r,n,h,hn=>by
   have h1:=aJU (N:=r) (fun x hx=>h x (by simp [hx])) n.aa;have e:sumS (m::r) n.aa=(if m.aa=n.aa then m.ae else 0)+sumS r n.aa:=rfl;rw [e]
   rcases Au.1 hn with rfl | hn
   · rw [Ao rfl]; omega
   · have h2:=aDR (N:=r) (fun x hx=>h x (by simp [hx])) hn;have h3:=h m (by simp);split <;> omega
def offN(y:Nd)(S:Int)(n:Nd):Nd:=if n.aa=y.ID then ⟨n.ID,y.aa,max (y.ae*n.ae / S) 1,n.af⟩ else n
theorem wB(y:Nd)(S:Int)(n:Nd):(offN y S n).ID=n.ID:=by unfold offN; split <;> rfl
theorem aEN(y:Nd)(S:Int)(n:Nd):(offN y S n).af=n.af:=by unfold offN; split <;> rfl
def offS(A:List Nd)(y:Nd)(C:List Nd):List Nd:=(A++C).map (offN y (sumS (A++C) y.ID))
theorem aJm{K:Int}{st:Fs}(h:FV K st){A C:List Nd}{y:Nd}(hN:st.ai=A++y::C):FV K ⟨st.aj,st.ak,offS A y C,st.al.filter fun e=>!decide (e=y.ID)⟩:=by
 obtain ⟨r,hr⟩:=h.rk;have hso:=h.so;rw [hN] at hso;have hp:=Bk.1 hso;have hp2:=AI.1 hp.2.1;have hmem:∀ n,n∈A++C→n∈st.ai∧n.ID≠y.ID:=fun n hn=>by
  rcases AM.1 hn with hn | hn
  · exact ⟨by rw [hN]; simp [hn],by have:=hp.2.2 n hn y (by simp); omega⟩
  · exact ⟨by rw [hN]; simp [hn],by have:=hp2.1 n hn; omega⟩
 have hback:∀ n∈st.ai,n.ID≠y.ID→n∈A++C:=fun n hn hne=>by
  rw [hN] at hn
  rcases AM.1 hn with hn | hn
  · exact AM.2 (.inl hn)
  · rcases Au.1 hn with rfl | hn
    · exact Ay rfl hne
    · exact AM.2 (.inr hn)
 have hy:y∈st.ai:=by rw [hN]; simp
 have hw:∀ n∈A++C,1≤n.ae∧n.ae≤256:=fun n hn=>(h.ra n (hmem n hn).1).2
 have hln:=h.ln;have himg:∀ m∈offS A y C,∃ n∈A++C,m=offN y (sumS (A++C) y.ID) n:=fun m hm=>by
  obtain ⟨n,hn,e⟩:=Ak.1 hm;exact ⟨n,hn,e.symm⟩
 have hin:∀ n∈A++C,∃ m∈offS A y C,m.ID=n.ID:=fun n hn=>⟨_,Ak.2 ⟨n,hn,rfl⟩,wB _ _ _⟩
 have hyp:y.aa≠y.ID:=fun e=>by
  have hyr:=(h.ra y hy).1;have:=hr y hy (by omega);rw [e] at this; omega
 refine ⟨h.rm,h.kp,?_,?_,?_,fun m hm=>?_,fun m hm=>?_,⟨r,fun m hm hz=>?_⟩,fun m hm=>?_,?_,fun e he=>?_⟩
 · show (offS A y C).length≤24
   unfold offS; rw [An,AO];rw [hN] at hln; simp at hln; omega
 · show ((st.al.filter _).length:Int)≤K
   have:=Bs (fun e=>!decide (e=y.ID)) st.al;have:=h.el; omega
 · show (offS A y C).Pairwise _
   unfold offS;rw [Bi];have:(A++C).Pairwise (fun a b=>a.ID<b.ID):=Bk.2 ⟨hp.1,hp2.2,fun a ha b hb=>hp.2.2 a ha b (by simp [hb])⟩;exact this.imp (fun hab=>by rw [wB,wB]; exact hab)
 · obtain ⟨n,hn,rfl⟩:=himg m hm;have hnr:=h.ra n (hmem n hn).1;unfold offN;split
   · rename_i hpar;refine ⟨hnr.1,?_⟩;have hge:=aDR hw hn;rw [hpar] at hge;have hyw:=(h.ra y hy).2;have hd:y.ae*n.ae / sumS (A++C) y.ID≤y.ae:=by
      apply EU (by omega);exact FT hge (by omega)
     show 1≤max (y.ae*n.ae / sumS (A++C) y.ID) 1∧max (y.ae*n.ae / sumS (A++C) y.ID) 1≤256
     omega
   · exact hnr
 · obtain ⟨n,hn,rfl⟩:=himg m hm;obtain ⟨hn1,hn2⟩:=hmem n hn;have key:∀ p:Int,p≠y.ID→(p=0∨∃ m∈st.ai,m.ID=p)→(p=0∨∃ m∈offS A y C,m.ID=p):=fun p hpy hh=>by
    rcases hh with hh | ⟨q,hq,e⟩
    · exact .inl hh
    · obtain ⟨z,hz,ez⟩:=hin q (hback q hq (by rw [e]; exact hpy));exact .inr ⟨z,hz,ez.trans e⟩
   unfold offN;split
   · exact key y.aa hyp (h.pa y hy)
   · rename_i hpar;exact key n.aa hpar (h.pa n hn1)
 · obtain ⟨n,hn,rfl⟩:=himg m hm;obtain ⟨hn1,hn2⟩:=hmem n hn;rw [wB];unfold offN at hz ⊢;split
   · rename_i hpar;rw [Ao hpar] at hz;have hz:y.aa≠0:=hz;have h1:=hr y hy hz;have hyr:=(h.ra y hy).1;have h2:=hr n hn1 (by rw [hpar]; omega);rw [hpar] at h2
     show r y.aa<r n.ID
     omega
   · rename_i hpar;rw [Al hpar] at hz;exact hr n hn1 hz
 · obtain ⟨n,hn,rfl⟩:=himg m hm;obtain ⟨hn1,hn2⟩:=hmem n hn;rw [aEN,wB];have:=h.en n hn1
   show _↔n.ID∈st.al.filter _
   rw [AN,this];simp [hn2]
 · exact h.nd.filter _
 · obtain ⟨he1,he2⟩:=AN.1 he;have he2:e≠y.ID:=by simpa using he2
   obtain ⟨n,hn,en⟩:=h.es e he1;obtain ⟨z,hz,ez⟩:=hin n (hback n hn (by rw [en]; exact he2));exact ⟨z,hz,ez.trans en⟩
end Go.Fn
open Bool renaming and_false → Ct,false_or → Cd,not_eq_true' → DR,or_eq_false_iff → Ff,or_eq_true → BB
open Iff renaming rfl → Dy
open Go Go.IL
namespace Go.Fn
abbrev Mb:=aL
abbrev Gr:=aH
def iQ(l:List Mb):List Mb:=l.map fun m=>⟨m.ID,m.ae,0⟩
theorem aEj{l:List Mb}(h:l.length≤1000000):dP l=some l:=by
 have h1:app 24 ([]:List Mb) l=some l:=by rw [kI (by simp; omega) (by simp; omega)]; rfl
 unfold dP;rw [h1,bnoS];exact aCV fun hl=>by rw [hl]
theorem clone_p{l:List Mb}(h:l.length≤1000000):eS l=some l:=aEj h
def fitG(l:List Gr):Prop:=l.length≤1000∧∀ g∈l,g.ab.length≤1000
theorem own_L{l:List Gr}(h:fitG l):∀ (r p:List Gr) (f:Nat),l=p++r→r.length<f→gJ l f p (p.length:Int)=some l
 | _,_,0,_,hf=>Ay hf (by omega)
 | [],p,f+1,hl,hf=>by
   rw [gJ,bndD,oO hl,bJ,hl,Ax]
 | x::r,p,f+1,hl,hf=>by
   have hx:=h.2 x (by rw [hl]; simp);have h1:=h.1;have hpl:p.length≤1000:=by rw [hl] at h1; simp at h1; omega
   rw [gJ,bndD,lJ hl,bO,dL hl,bnoS,clone_p (by omega),bnoS,kI (by simp; omega) (by simp; omega),bnoS,bndD,w_at hl (by omega)];exact own_L h r (p++[x]) f (eO hl) (by simp at hf ⊢; omega)
theorem aJc{l:List Gr}(h:fitG l):qZ l=some l:=own_L h l [] fuel rfl (dK (by have:=h.1; omega))
theorem aJd(l:List Gr):∀ (f:Nat) (a:List Gr) (b:Int),jM l f a b=gJ l f a b
 | 0,_,_=>rfl
 | f+1,a,b=>by
   rw [jM,gJ];simp only [aJd l f]
theorem aIe{l:List Gr}(h:fitG l):oA l=some l:=by
 unfold oA;rw [aJd]; exact aJc h
def uM(m:Mb):Bool:=inB m.ID 1 1048576&&inB m.ae 1 256&&inB m.ag 0 1099511627776
theorem aIY(m:Mb):nJ m=some (uM m):=by
 unfold nJ uM;simp only [xG,bnoS,bndD];cases inB m.ID 1 1048576 <;> cases inB m.ae 1 256 <;> rfl
def sS(g:Gr):Bool:=!inB g.aa 0 1048576||g.ab.any fun m=>!uM m
def rP:List Mb→Bool
 | a::b::l=>decide (a.ID<b.ID)&&rP (b::l)
 | _=>true
theorem aJH(m:Mb):oB m=some (!uM m):=by
 unfold oB;rw [aIY,bnoS]
theorem aJG{l:List Mb}(h:l.length≤1000000):dC l=some (l.any fun m=>!uM m):=by
 unfold dC dU;exact sQ (P:=oB) aJH (I:=cQ l) (fun f v=>rfl) h
theorem aH2{g:Gr}(h:g.ab.length≤1000000):pU g=some (sS g):=by
 unfold pU sS;rw [xG,bnoS];cases inB g.aa 0 1048576
 · rfl
 · simp only [AD,AQ,gdtt,aJG h,bnoS,bndD]
theorem aGK{l:List Gr}(h:fitG l):dE l=some (l.any sS):=by
 unfold dE eB;exact cmem (P:=pU) (fun g hg=>aH2 (by have:=h.2 g hg; omega)) (I:=cU l) (fun f v=>rfl) (by have:=h.1; omega)
theorem aGL{l:List Gr}(h:l.length≤1000000):dF l=some (l.any fun g=>decide (24<(g.ab.length:Int))):=by
 unfold dF eC;exact sQ (P:=tA) (fun g=>rfl) (I:=cV l) (fun f v=>rfl) h
theorem aGo{g:Gr}(h:g.ab.length≤1000000):∀ (r p:List Mb) (x:Mb) (f:Nat),g.ab=(p++[x])++r→r.length<f→jF g f ((p++[x]).length:Int)=some (rP (x::r))
 | _,_,_,0,_,hf=>Ay hf (by omega)
 | [],p,x,f+1,hl,hf=>by rw [jF,bndD,oO hl,bJ]; rfl
 | y::r,p,x,f+1,hl,hf=>by
   rw [jF,bndD,lJ hl,bO,bndD,aAw hl h,bnoS,dL hl,bnoS,bndD,bndD,w_at hl h,aGo h r (p++[x]) y f (eO hl) (by simp at hf ⊢; omega)]
   show _=some (decide (x.ID<y.ID)&&rP (y::r))
   by_cases hc:y.ID≤x.ID
   · rw [Ae hc,bO,Ad (by omega)]; rfl
   · rw [Ad hc,bJ,Ae (by omega)]; rfl
theorem aEt{g:Gr}(h:g.ab.length≤1000000):rA g=some (rP g.ab):=by
 unfold rA;cases hm:g.ab with
 | nil =>
   have h1:fuel=(fuel-1)+1:=rfl
   show jF g fuel 1=_
   rw [show (fuel:Nat)=(2 ^ 64-1)+1 from rfl,jF,bndD,hm];rfl
 | cons x r=>exact aGo h r [] x fuel hm (dK (by rw [hm] at h; simp at h; omega))
def ordF:Option Gr→List Gr→Bool
 | _,[]=>true
 | none,g::r=>rP g.ab&&ordF (some g) r
 | some x,g::r=>decide (x.aa<g.aa)&&rP g.ab&&ordF (some g) r
theorem aJe{l:List Gr}(h:fitG l):∀ (r p:List Gr) (x:Gr) (f:Nat),l=(p++[x])++r→r.length<f→jQ l f ((p++[x]).length:Int)=some (bif ordF (some x) r then 0 else 10)
 | _,_,_,0,_,hf=>Ay hf (by omega)
 | [],p,x,f+1,hl,hf=>by rw [jQ,bndD,oO hl,bJ]; rfl
 | y :: r,p,x,f+1,hl,hf=>by
   have hln:=h.1;have hy:=h.2 y (by rw [hl]; simp);rw [jQ,bndD,lJ hl,bO,dL hl,bnoS,bndD,bndD,Ae (show (0:Int)<((p++[x]).length:Int) by simp),AQ,gdtt,aAw hl (by omega),bnoS,bndD,bndD,aEt (by omega)];have ih:=aJe h r (p++[x]) y f (eO hl) (by simp at hf ⊢; omega)
   show _=some (bif (decide (x.aa<y.aa)&&rP y.ab&&ordF (some y) r) then 0 else 10)
   by_cases hc:y.aa≤x.aa
   · rw [Ae hc,Ad (show ¬x.aa<y.aa by omega)]; rfl
   · rw [Ad hc,Ae (show x.aa<y.aa by omega)];simp only [Ct,AQ,gdtt,bnoS,bndD,Cd,w_at hl (show l.length≤1000000 by omega),ih];cases rP y.ab <;> rfl
theorem ord_ok{l:List Gr}(h:fitG l):jQ l fuel 0=some (bif ordF none l then 0 else 10):=by
 have hln:=h.1;cases l with
 | nil=>rw [show (fuel:Nat)=(2 ^ 64-1)+1 from rfl,jQ]; rfl
 | cons y r =>
   have hy:=h.2 y (by simp);have hl:y::r=[]++y::r:=rfl;have ih:=aJe h r [] y (2 ^ 64-1) rfl (by simp at hln; omega);rw [show (fuel:Nat)=(2 ^ 64-1)+1 from rfl,jQ,bndD,show decide ((0:Int)<((y::r).length:Int))=true from Ae (by simp),bO,show gix (y::r) 0=some y from rfl,bnoS,bndD,bndD];rw [show decide ((0:Int)<0)=false from rfl,ft,gdff,bnoS,bndD,bndD,Bu,AQ,gdtt,aEt (by omega),bnoS,bndD,Cd,bndD,show Af .i64 ((0:Int)+1)=(([]++[y]).length:Int) from rfl,ih]
   show _=some (bif (rP y.ab&&ordF (some y) r) then 0 else 10)
   cases rP y.ab <;> rfl
def uD(l:List Gr):Int :=
 bif decide (25<(l.length:Int))||l.any (fun g=>decide (24<(g.ab.length:Int))) then 5 else bif l.any sS then 8 else bif ordF none l then 0 else 10
theorem aBu{l:List Gr}(h:fitG l):nS l=some (uD l):=by
 unfold nS uD qB;rw [bndD,aGL (by have:=h.1; omega),bnoS,aGK h,bnoS,ord_ok h];cases decide (25<(l.length:Int)) <;> cases (l.any fun g=>decide (24<(g.ab.length:Int))) <;> cases l.any sS <;> rfl
structure pH (l:List Gr):Prop where
 ln:l.length≤25
 ml:∀ g∈l,g.ab.length≤24
 pa:∀ g∈l,0≤g.aa∧g.aa≤1048576
 mr:∀ g∈l,∀ m∈g.ab,(1≤m.ID∧m.ID≤1048576)∧(1≤m.ae∧m.ae≤256)∧(0≤m.ag∧m.ag≤1099511627776)
 mo:∀ g∈l,g.ab.Pairwise (fun a b=>a.ID<b.ID)
 so:l.Pairwise (fun a b=>a.aa<b.aa)
theorem aBE:∀ {l:List Mb},rP l=true↔l.Pairwise (fun a b=>a.ID<b.ID)
 | []=>by simp [rP]
 | [x]=>by simp [rP]
 | x :: y::l=>by
   unfold rP;rw [Av,decide_eq_true_eq,aBE,AI (a:=x)];constructor
   · rintro ⟨h1,h2⟩;refine ⟨fun z hz=>?_,h2⟩
     rcases Au.1 hz with rfl | hz
     · exact h1
     · have:=(AI.1 h2).1 z hz; omega
   · rintro ⟨h1,h2⟩; exact ⟨h1 y (by simp),h2⟩
theorem aFD:∀ {l:List Gr} {x:Gr},ordF (some x) l=true↔(∀ g∈l,g.ab.Pairwise (fun a b=>a.ID<b.ID))∧(x::l).Pairwise (fun a b=>a.aa<b.aa)
 | [],x=>by simp [ordF]
 | y :: l,x=>by
   unfold ordF;rw [Av,Av,decide_eq_true_eq,aBE,aFD,AI (a:=x)];constructor
   · rintro ⟨⟨h1,h2⟩,h3,h4⟩;refine ⟨fun g hg=>?_,fun z hz=>?_,h4⟩
     · rcases Au.1 hg with rfl | hg
       · exact h2
       · exact h3 g hg
     · rcases Au.1 hz with rfl | hz
       · exact h1
       · have:=(AI.1 h4).1 z hz; omega
   · rintro ⟨h1,h2,h3⟩;exact ⟨⟨h2 y (by simp),h1 y (by simp)⟩,fun g hg=>h1 g (by simp [hg]),h3⟩
theorem aCu{l:List Gr}:ordF none l=true↔(∀ g∈l,g.ab.Pairwise (fun a b=>a.ID<b.ID))∧l.Pairwise (fun a b=>a.aa<b.aa):=by
 cases l with
 | nil=>simp [ordF]
 | cons x l =>
   unfold ordF;rw [Av,aBE,aFD];constructor
   · rintro ⟨h1,h2,h3⟩;refine ⟨fun g hg=>?_,h3⟩
     rcases Au.1 hg with rfl | hg
     · exact h1
     · exact h2 g hg
   · rintro ⟨h1,h2⟩; exact ⟨h1 x (by simp),fun g hg=>h1 g (by simp [hg]),h2⟩
theorem aA3{g:Gr}:sS g=false↔(0≤g.aa∧g.aa≤1048576)∧∀ m∈g.ab,(1≤m.ID∧m.ID≤1048576)∧(1≤m.ae∧m.ae≤256)∧(0≤m.ag∧m.ag≤1099511627776):=by
 unfold sS;rw [Ff,Bool.not_eq_false',yB,BJ];refine and_congr Dy (forall_congr' fun m=>imp_congr Dy ?_);unfold uM;rw [DR,Bool.not_eq_false,Av,Av,yB,yB,yB,and_assoc]
theorem pT{l:List Gr}:uD l=0↔pH l:=by
 unfold uD;cases h1:(decide (25<(l.length:Int))||l.any (fun g=>decide (24<(g.ab.length:Int)))) with
 | true =>
   refine ⟨fun h=>(by cases h),fun h=>?_⟩;exfalso;rw [BB,decide_eq_true_eq,Bv] at h1
   rcases h1 with h1 | ⟨g,hg,h1⟩
   · have:=h.ln; omega
   · have:=h.ml g hg; rw [decide_eq_true_eq] at h1; omega
 | false =>
   rw [Ff,decide_eq_false_iff_not,BJ] at h1;cases h2:l.any sS with
   | true =>
     refine ⟨fun h=>(by cases h),fun h=>?_⟩;exfalso;obtain ⟨g,hg,h3⟩:=Bv.1 h2;rw [aA3.2 ⟨h.pa g hg,h.mr g hg⟩] at h3; cases h3
   | false =>
     rw [BJ] at h2;have hw:∀ g∈l,sS g=false:=fun g hg=>by simpa using h2 g hg
     cases h3:ordF none l with
     | true =>
       refine ⟨fun _=>⟨by omega,fun g hg=>?_,fun g hg=>(aA3.1 (hw g hg)).1,fun g hg=>(aA3.1 (hw g hg)).2,(aCu.1 h3).1,(aCu.1 h3).2⟩,fun _=>rfl⟩;have:=h1.2 g hg; rw [decide_eq_true_eq] at this; omega
     | false =>
       refine ⟨fun h=>(by cases h),fun h=>?_⟩;rw [aCu.2 ⟨h.mo,h.so⟩] at h3; cases h3
theorem pH.fit{l:List Gr}(h:pH l):fitG l:=⟨by have:=h.ln; omega,fun g hg=>by have:=h.ml g hg; omega⟩
end Go.Fn
open Bool renaming and_true → Cn
open Go Go.IL
namespace Go.Fn
theorem aFY{l:List Gr}(h:pH l){p:Int}(hp:0≤p∧p≤1048576) :
 ∃ a b:List Gr,l=a++b∧a=l.filter (fun y=>decide (y.aa<p))∧b=l.filter (fun y=>decide (p≤y.aa)) ∧
   ((∃ y c,b=y::c∧y.aa=p∧jS l p=some ((a.length:Int),true))∨((∀ y∈l,y.aa≠p)∧jS l p=some ((a.length:Int),false))):=by
 have hC:∀ y∈l,kJ y p=some (y.aa-p):=fun y hy=>by
  have:=h.pa y hy;unfold kJ;rw [bndD,w64 (by omega) (by omega)]
 obtain ⟨a,b,h1,h2,h3,h4⟩:=aB9 (dflt:=(default:Gr)) (C:=fun y=>kJ y p) (c:=fun y=>y.aa-p) (key:=fun y=>y.aa) (x:=p) (L:=bV l p) (l:=l)
  hC (fun y _=>⟨⟨fun h=>by omega,fun h=>by omega⟩,⟨fun h=>by omega,fun h=>by omega⟩⟩) (fun f a b=>rfl) (by have:=h.ln; omega) h.so
 refine ⟨a,b,h1,h2,h3,?_⟩;unfold jS dM
 rcases h4 with ⟨y,c,e1,e2,e3⟩ | ⟨e1,e2⟩
 · exact .inl ⟨y,c,e1,e2,by rw [e3]; rfl⟩
 · exact .inr ⟨e1,by rw [e2]; rfl⟩
theorem bareL{l0:List Mb}(hl:l0.length≤1000000):∀ (r p:List Mb) (f:Nat),l0=p++r→r.length<f→fU l0 f (iQ p++r) (p.length:Int)=some (iQ l0)
 | _,_,0,_,hf=>Ay hf (by omega)
 | [],p,f+1,h,hf=>by
   rw [fU,bndD,oO h,bJ,Ax,h,Ax]
 | x::r,p,f+1,h,hf=>by
   have hb:iQ p++x::r=iQ p++x::r:=rfl;have hlb:(iQ p).length=p.length:=by simp [iQ]
   have e1:gix (iQ p++x::r) (p.length:Int)=some x:=by rw [←hlb]; exact dL rfl
   have e2:(iQ p++x::r)[((p.length:Nat):Int).toNat]? = some x:=by rw [←hlb]; exact sP rfl
   have e3:(iQ p++x::r).set ((p.length:Nat):Int).toNat (⟨x.ID,x.ae,0⟩:Mb)=iQ (p++[x])++r:=by
    rw [←hlb,uE]; simp [iQ]
   rw [fU,bndD,lJ h,bO,e1,bnoS,e2,bnoS,bndD,e3,bndD,w_at h hl];exact bareL hl r (p++[x]) f (eO h) (by simp at hf ⊢; omega)
theorem bare_ok{g:Gr}(h:g.ab.length≤1000000):oW g=some (iQ g.ab):=by
 unfold oW;rw [aEj h,bnoS];exact bareL h g.ab [] fuel rfl (dK (by omega))
theorem aH7(l:List Mb):∀ (f:Nat) (a:List Mb) (b:Int),iV l f a b=fU l f a b
 | 0,_,_=>rfl
 | f+1,a,b=>by
   rw [iV,fU];simp only [aH7 l f]
theorem aH6{g:Gr}(h:g.ab.length≤1000000):nK g=some (iQ g.ab):=by
 unfold nK;rw [aEj h,bnoS,aH7];exact bareL h g.ab [] fuel rfl (dK (by omega))
theorem mb_eq(a b:Mb):(decide (a.ID=b.ID)&&(decide (a.ae=b.ae)&&(decide (a.ag=b.ag)&&true)))=decide (a=b):=by
 obtain ⟨a1,a2,a3⟩:=a;obtain ⟨b1,b2,b3⟩:=b;rw [DI];simp [Av]
theorem aHw{l m:List Mb}(hl:l.length≤1000000):dV l m=some (decide (l=m)):=by
 unfold dV;rw [aBq (L:=cS l m) (z:=true) hl ?_ ?_,Cn]
 · intro p x r s y t f h1 h2 h3;rw [cS];simp only [bndD,lJ h1,bO,dL h1,bnoS];rw [show gix m (p.length:Int)=some y by rw [h3]; exact dL h2,bnoS,mb_eq,w_at h1 hl]
 · intro h1 f;rw [cS,bndD,pQ,bJ]
def nC(l:List Gr)(g:Gr):List Gr :=
 (l.filter fun y=>decide (y.aa<g.aa))++(match (l.filter fun y=>decide (g.aa≤y.aa)) with
   | []=>[g]
   | y::c=>if y.aa=g.aa then (if iQ y.ab=g.ab then y::c else g::c) else g::y::c)
theorem aIo{l:List Gr}(h:pH l){g:Gr}(hp:0≤g.aa∧g.aa≤1048576):lR g l=some (nC l g):=by
 obtain ⟨a,b,h1,h2,h3,h4⟩:=aFY h hp;have hln:=h.ln;unfold lR nC;rw [←h2,←h3]
 rcases h4 with ⟨y,c,e1,e2,e3⟩ | ⟨e1,e2⟩
 · have hl:l=a++y::c:=by rw [h1,e1]
   have hy:y∈l:=by rw [hl]; simp
   rw [e3,bnoS,e1];simp only [AD,bJ,e2,if_true];rw [dL hl,bnoS,sP hl,bnoS,bare_ok (by have:=h.ml y hy; omega),bnoS,aHw (by have:=h.ml y hy; simp [iQ]; omega),bnoS]
   by_cases hb:iQ y.ab=g.ab
   · rw [Ae hb,Ao hb];simp only [AD,bJ]; rw [←hl]
   · rw [Ad hb,Al hb];simp only [AL,bO,bndD];rw [bnoS,bnoS,hl,uE]
 · rw [e2,bnoS];simp only [AL,bO];have hal:a.length≤l.length:=by rw [h1]; simp
   unfold iT;rw [insS_ok (by omega) (by omega) (by simp; omega) (by simp; omega),bnoS,As];have t1:l.take a.length=a:=by rw [h1]; simp
   have t2:l.drop a.length=b:=by rw [h1]; simp
   rw [t1,t2,AA];cases hb:b with
   | nil=>rfl
   | cons y c =>
     have hy:y∈l:=by rw [h1,hb]; simp
     simp only [Al (e1 y hy)];rfl
def uI:Mb→List Mb→Mb
 | b,[]=>b
 | b,m::l=>if m.ag*b.ae<b.ag*m.ae then uI m l else uI b l
def okM(m:Mb):Prop:=(1≤m.ID∧m.ID≤1048576)∧(1≤m.ae∧m.ae≤256)∧(0≤m.ag∧m.ag≤1099511627776)
theorem aA0:∀ (l:List Mb) (b:Mb),uI b l=b∨uI b l∈l
 | [],_=>.inl rfl
 | m :: l,b=>by
   unfold uI;split
   · rcases aA0 l m with h | h
     · rw [h]; exact .inr (by simp)
     · exact .inr (by simp [h])
   · rcases aA0 l b with h | h
     · exact .inl h
     · exact .inr (by simp [h])
theorem aEe{l0:List Mb}(hl:l0.length≤1000000)(ho:∀ m∈l0,okM m):∀ (r p:List Mb) (b:Mb) (f:Nat),okM b→l0=p++r→r.length<f→fZ l0 f (p.length:Int) b.ID b.ae b.ag=some (uI b r).ID
 | _,_,_,0,_,_,hf=>Ay hf (by omega)
 | [],p,b,f+1,hb,h,hf=>by rw [fZ,bndD,oO h,bJ]; rfl
 | x :: r,p,b,f+1,hb,h,hf=>by
   have hx:=ho x (by rw [h]; simp);have e1:=aFF (x:=x.ag) (w:=b.ae) (k:=1099511627776) (m:=256) (by have:=hx.2.2; omega) (by have:=hx.2.2; omega) (by have:=hb.2.1; omega) (by have:=hb.2.1; omega) (by omega);have e2:=aFF (x:=b.ag) (w:=x.ae) (k:=1099511627776) (m:=256) (by have:=hb.2.2; omega) (by have:=hb.2.2; omega) (by have:=hx.2.1; omega) (by have:=hx.2.1; omega) (by omega);rw [fZ,bndD,lJ h,bO,dL h,bnoS,bndD,bndD,bndD,w64 (by omega) (by omega),w64 (by omega) (by omega),w_at h hl];unfold uI
   by_cases hc:x.ag*b.ae<b.ag*x.ae
   · rw [Ae hc,bO,Ao hc,bndD];exact aEe hl ho r (p++[x]) x f hx (eO h) (by simp at hf ⊢; omega)
   · rw [Ad hc,bJ,Al hc,bndD];exact aEe hl ho r (p++[x]) b f hb (eO h) (by simp at hf ⊢; omega)
theorem aHp{g:Gr}{b:Mb}{l:List Mb}(hg:g.ab=b::l)(hl:l.length≤1000)(ho:∀ m∈g.ab,okM m):mI g=some (uI b l).ID:=by
 rw [hg] at ho;have hc:cut (b::l) 1 ((b::l).length:Int)=some l:=by
  rw [cut_to (by omega) (by simp; omega)]; rfl
 unfold mI;rw [hg,show gix (b::l) 0=some b from rfl,bnoS,hc,bnoS];exact aEe (by omega) (fun m hm=>ho m (by simp [hm])) l [] b fuel (ho b (by simp)) rfl (dK (by omega))
theorem wM{V:Type}(k:Int)(v:V)(j:Int):∀ (l:List (Int×V)),mget (mput l k v) j=if k=j then some v else mget l j
 | []=>by
   show mget [(k,v)] j=_
   rw [mget]; rfl
 | (i,w)::r=>by
   rw [mput]
   by_cases h:i=k
   · rw [Ao h,mget,mget]
     by_cases h2:k=j
     · rw [Ao h2,Ao h2]
     · rw [Al h2,Al h2,Al (by omega)]
   · rw [Al h,mget,mget]
     by_cases h2:i=j
     · rw [Ao h2,Ao h2,Al (by omega)]
     · rw [Al h2,Al h2,wM k v j r]
theorem mput_ne{V:Type}(k:Int)(v:V):∀ (l:List (Int×V)),(mput l k v).length≠0
 | []=>by show ([(k,v)]:List (Int×V)).length≠0; simp
 | (i,w)::r=>by
   rw [mput];split <;> simp
theorem del20{l:List Gr}(hl:l.length≤100000)(a1:List (Int×aW))(a2 a3:List (Int×Bool))(a4 a5:Int)(a6:List aK)(a7 a8:Int)(a9:List aJ)(a10:Int)(a11:List Int) :
 cY l a1 a2 a3 a4 a5 a6 a7 a8 a9 a10 a11=some (l.filter fun g=>!(!decide (g.aa=0) && !(mget a1 g.aa).isSome)):=by
 unfold cY eA;exact xF (P:=fun g=>pE g a1 a2 a3 a4 a5 a6 a7 a8 a9 a10 a11) (q:=fun g=>!decide (g.aa=0) && !(mget a1 g.aa).isSome) (fun g=>by
  unfold pE; simp only [bndD]) (I:=cK l a1 a2 a3 a4 a5 a6 a7 a8 a9 a10 a11) (L:=cH a1 a2 a3 a4 a5 a6 a7 a8 a9 a10 a11) (fun f v=>by
   rw [cK];simp only [bndD];cases decide (v<(l.length:Int))
   · rfl
   · simp only [bO];cases hg:gix l v with
     | none=>rfl
     | some x=>rw [bnoS,(xC hg).2]) (fun f a b c=>rfl) hl
end Go.Fn
open List renaming mem_cons_of_mem → Bg,mem_cons_self → Cb,nodup_nil → Dc
open Go Go.IL
namespace Go.Fn
inductive Anc (N:List Nd) (x:Int):Int→Prop
 | here:Anc N x x
 | up (n:Nd) (hn:n∈N) (hx:n.ID≠x) (hp:n.aa≠0) (h:Anc N x n.aa):Anc N x n.ID
inductive Blw (N:List Nd) (x d:Int):Int→Prop
 | child (n:Nd) (hn:n∈N) (hx:n.ID≠x) (hp:n.aa=d):Blw N x d n.ID
 | up (n:Nd) (hn:n∈N) (hx:n.ID≠x) (hp:n.aa≠0) (h:Blw N x d n.aa):Blw N x d n.ID
def Rk(N:List Nd)(x:Int)(r:Int→Nat):Prop:=∀ n∈N,n.ID≠x→n.aa≠0→r n.aa<r n.ID
theorem aFe{N:List Nd}{x:Int}{r:Int→Nat}(h:Rk N x r){z:Int}(ha:Anc N x z):z=x∨r x<r z:=by
 induction ha with
 | here=>exact .inl rfl
 | up n hn hx hp _ ih =>
   have:=h n hn hx hp
   rcases ih with e | e
   · rw [e] at this; exact .inr this
   · exact .inr (by omega)
theorem aFf{N:List Nd}{x z:Int}(ha:Anc N x z):z=x∨∃ n∈N,n.ID=z:=by
 cases ha with
 | here=>exact .inl rfl
 | up n hn _ _ _=>exact .inr ⟨n,hn,rfl⟩
theorem aJI{N:List Nd}{x d:Int}{r:Int→Nat}(h:Rk N x r)(hd:d≠0){z:Int}(ha:Blw N x d z):r d<r z:=by
 induction ha with
 | child n hn hx hp=>have:=h n hn hx (by rw [hp]; exact hd); rw [hp] at this; exact this
 | up n hn hx hp _ ih=>have:=h n hn hx hp; omega
theorem aEn{N:List Nd}(hs:N.Pairwise (fun a b=>a.ID<b.ID)){x:Int}{n:Nd}(hn:n∈N)(hx:n.ID≠x)(ha:Anc N x n.ID):Anc N x n.aa:=by
 generalize hz:n.ID=z at ha;cases ha with
 | here=>exact Ay hz hx
 | up m hm hmx hmp h =>
   have:m=n:=sT hs hm hn hz.symm;subst this; exact h
theorem blw_par{N:List Nd}(hs:N.Pairwise (fun a b=>a.ID<b.ID)){x d:Int}{n:Nd}(hn:n∈N)(ha:Blw N x d n.ID):n.aa=d∨Blw N x d n.aa:=by
 generalize hz:n.ID=z at ha;cases ha with
 | child m hm hmx hmp =>
   have:m=n:=sT hs hm hn hz.symm;subst this; exact .inl hmp
 | up m hm hmx hmp h =>
   have:m=n:=sT hs hm hn hz.symm;subst this; exact .inr h
def pO(x d w:Int)(only:Bool)(n:Nd):Nd:=if n.ID=x then ⟨n.ID,d,w,n.af⟩ else if only=true∧n.aa=d then ⟨n.ID,x,n.ae,n.af⟩ else n
theorem aFR(x d w:Int)(o:Bool)(n:Nd):(pO x d w o n).ID=n.ID:=by unfold pO; split; rfl; split <;> rfl
theorem aDv(x d w:Int)(o:Bool)(n:Nd):(pO x d w o n).af=n.af:=by unfold pO; split; rfl; split <;> rfl
theorem aHd{N:List Nd}(hs:N.Pairwise (fun a b=>a.ID<b.ID)){x d w:Int}{o:Bool}{r:Int→Nat}(h:Rk N x r)(hx0:x≠0)(hz:∀ n∈N,n.ID≠0)(hd:d≠0→¬ Anc N x d):∃ r':Int→Nat,∀ m∈N.map (pO x d w o),m.aa≠0→r' m.aa<r' m.ID:=by
 classical
 refine ⟨fun z=>if Anc N x z then r z+(r x+r d+1) else if Blw N x d z then r z+2*(r x+r d+1) else r z,fun m hm hp=>?_⟩;obtain ⟨n,hn,rfl⟩:=Ak.1 hm;rw [aFR];have hxa:Anc N x x:=.here;have hnb:d≠0→¬ Blw N x d d:=fun h0 hb=>by have:=aJI h h0 hb; omega
 by_cases hx:n.ID=x
 · -- the node itself
   have e:(pO x d w o n).aa=d:=by unfold pO; rw [Ao hx]
   rw [e] at hp ⊢;rw [hx];simp only [Al (hd hp),Al (hnb hp),Ao hxa];omega
 · by_cases ho:o=true∧n.aa=d
   · have e:(pO x d w o n).aa=x:=by unfold pO; rw [Al hx,Ao ho]
     rw [e];have hb:Blw N x d n.ID:=.child n hn hx ho.2;have hna:¬ Anc N x n.ID:=fun ha=>by
      have h1:=aEn hs hn hx ha;rw [ho.2] at h1
      by_cases h0:d=0
      · rw [h0] at h1
        rcases aFf h1 with e | ⟨q,hq,e⟩
        · exact hx0 e.symm
        · exact hz q hq e
      · exact hd h0 h1
     simp only [Ao hxa,Al hna,Ao hb];omega
   · have e:pO x d w o n=n:=by unfold pO; rw [Al hx,Al ho]
     rw [e] at hp ⊢;have hr:=h n hn hx hp
     by_cases ha:Anc N x n.ID
     · have h1:=aEn hs hn hx ha;simp only [Ao ha,Ao h1];omega
     · have h1:¬ Anc N x n.aa:=fun h1=>ha (.up n hn hx hp h1)
       by_cases hb:Blw N x d n.ID
       · rcases blw_par hs hn hb with h2 | h2
         · have hd0:d≠0:=by rw [←h2]; exact hp
           have h3:¬ Blw N x d n.aa:=by rw [h2]; exact hnb hd0
           simp only [Al ha,Al h1,Ao hb,Al h3];omega
         · simp only [Al ha,Al h1,Ao hb,Ao h2];omega
       · have h2:¬ Blw N x d n.aa:=fun h2=>hb (.up n hn hx hp h2)
         simp only [Al ha,Al h1,Al hb,Al h2];omega
theorem aE9{N:List Nd}(hs:N.Pairwise (fun a b=>a.ID<b.ID)){x:Int}:∀ (k:Nat) (z:Int),z≠x→x∈fL N k z→x≠0→Anc N x z
 | 0,_,_,hx,_=>(Bc hx).elim
 | k + 1,z,hzx,hx,h0=>by
   unfold fL at hx;cases hp:tD N z with
   | none=>rw [hp] at hx; exact (Bc hx).elim
   | some p =>
     rw [hp] at hx;obtain ⟨n,hn,e1,e2⟩:=aCq hp
     by_cases hq:p=0
     · simp only [hq,if_true] at hx; exact (Bc hx).elim
     · simp only [Al hq] at hx;subst e1 e2
       by_cases hpx:n.aa=x
       · exact .up n hn hzx hq (by rw [hpx]; exact .here)
       · rcases Au.1 hx with e | hx
         · exact Ay e.symm hpx
         · exact .up n hn hzx hq (aE9 hs k n.aa hpx hx h0)
theorem aDb{N:List Nd}:∀ (k:Nat) (z x:Int),x∈fL N k z→x∈fL N (k+1) z
 | 0,_,_,hx=>(Bc hx).elim
 | k + 1,z,x,hx=>by
   unfold fL at hx ⊢;cases hp:tD N z with
   | none=>rw [hp] at hx; exact (Bc hx).elim
   | some p =>
     rw [hp] at hx
     by_cases hq:p=0
     · simp only [hq,if_true] at hx; exact (Bc hx).elim
     · simp only [Al hq] at hx ⊢
       rcases Au.1 hx with e | hx
       · rw [e]; exact Cb
       · exact Bg _ (aDb k p x hx)
theorem aBL{N:List Nd}:∀ (k:Nat) (z:Int),(fL N k z).length<k→fL N (k+1) z=fL N k z
 | 0,_,h=>Ay h (by omega)
 | k + 1,z,h=>by
   rw [fL] at h;rw [fL,fL];cases hp:tD N z with
   | none=>rfl
   | some p =>
     rw [hp] at h
     by_cases hq:p=0
     · simp only [hq,if_true]
     · simp only [Al hq,AR] at h ⊢;rw [aBL k p (by omega)]
theorem aJJ{N:List Nd}(hs:N.Pairwise (fun a b=>a.ID<b.ID)){x z:Int}(h:Anc N x z):z=x∨∃ k,x∈fL N k z:=by
 induction h with
 | here=>exact .inl rfl
 | up n hn hx hp _ ih =>
   right
   rcases ih with e | ⟨k,hk⟩
   · refine ⟨1,?_⟩;rw [fL,yM hs hn];simp only [Al hp];rw [e]; exact Cb
   · refine ⟨k+1,?_⟩;rw [fL,yM hs hn];simp only [Al hp];exact Bg _ hk
theorem qU{N:List Nd}(hs:N.Pairwise (fun a b=>a.ID<b.ID)){r:Int→Nat}(hr:∀ n∈N,n.aa≠0→r n.aa<r n.ID)(hpa:∀ n∈N,n.aa=0∨∃ m∈N,m.ID=n.aa):∀ (k:Nat) (z:Int),(∃ n∈N,n.ID=z)→(z::fL N k z).Nodup∧∀ y∈z::fL N k z,y∈N.map (·.ID)
 | 0,z,⟨n,hn,e⟩=>⟨by simp [fL],fun y hy=>by
   rcases Au.1 hy with rfl | hy
   · exact Ak.2 ⟨n,hn,e⟩
   · exact (Bc hy).elim⟩
 | k + 1,z,⟨n,hn,e⟩=>by
   subst e;have hz:n.ID∈N.map (·.ID):=Ak.2 ⟨n,hn,rfl⟩;have hnot:¬ n.ID∈fL N (k+1) n.ID:=fun hm=>by have:=aBM hr (k+1) _ _ hm; omega
   refine ⟨Bl.2 ⟨hnot,?_⟩,fun y hy=>?_⟩
   · rw [fL,yM hs hn]
     by_cases hq:n.aa=0
     · simp only [Ao hq]; exact Dc
     · simp only [Al hq]
       rcases hpa n hn with e | ⟨m,hm,e⟩
       · exact Ay e hq
       · exact (qU hs hr hpa k n.aa ⟨m,hm,e⟩).1
   · rcases Au.1 hy with rfl | hy
     · exact hz
     · rw [fL,yM hs hn] at hy
       by_cases hq:n.aa=0
       · simp only [Ao hq] at hy; exact (Bc hy).elim
       · simp only [Al hq] at hy
         rcases hpa n hn with e | ⟨m,hm,e⟩
         · exact Ay e hq
         · exact (qU hs hr hpa k n.aa ⟨m,hm,e⟩).2 y hy
theorem yL{N:List Nd}(hs:N.Pairwise (fun a b=>a.ID<b.ID)){r:Int→Nat}(hr:∀ n∈N,n.aa≠0→r n.aa<r n.ID)(hpa:∀ n∈N,n.aa=0∨∃ m∈N,m.ID=n.aa){z:Int}(hz:∃ n∈N,n.ID=z):∀ (j:Nat),fL N (N.length+j) z=fL N N.length z
 | 0=>rfl
 | j+1=>by
   have h1:=yL hs hr hpa hz j;obtain ⟨h2,h3⟩:=qU hs hr hpa N.length z hz;have h4:=sD h2 h3;rw [AR,An] at h4;have:=aBL (N:=N) (N.length+j) z (by rw [h1]; omega);rw [show N.length+(j+1)=N.length+j+1 by omega,this,h1]
theorem aDc{N:List Nd}(k:Nat)(z x:Int)(h:x∈fL N k z):∀ j,x∈fL N (k+j) z
 | 0=>h
 | j+1=>aDb _ _ _ (aDc k z x h j)
theorem not_anc{N:List Nd}(hs:N.Pairwise (fun a b=>a.ID<b.ID)){r:Int→Nat}(hr:∀ n∈N,n.aa≠0→r n.aa<r n.ID)(hpa:∀ n∈N,n.aa=0∨∃ m∈N,m.ID=n.aa){x z:Int}(hz:∃ n∈N,n.ID=z)(hzx:z≠x)(h:¬ x∈fL N N.length z):¬ Anc N x z:=fun ha=>by
 rcases aJJ hs ha with e | ⟨k,hk⟩
 · exact hzx e
 · have h1:=aDc k z x hk N.length;rw [show k+N.length=N.length+k by omega,yL hs hr hpa hz k] at h1;exact h h1
end Go.Fn
open Go Go.IL
namespace Go.Fn
theorem aBx{A C:List Nd}{y:Nd}(hs:(A++y::C).Pairwise (fun a b=>a.ID<b.ID)):(∀ a∈A,a.ID≠y.ID)∧∀ c∈C,c.ID≠y.ID:=by
 have hp:=Bk.1 hs;have hp2:=AI.1 hp.2.1;exact ⟨fun a ha=>by have:=hp.2.2 a ha y (by simp); omega,fun c hc=>by have:=hp2.1 c hc; omega⟩
def mvN(d p:Int)(n:Nd):Nd:=if n.ID=d then ⟨n.ID,p,n.ae,n.af⟩ else n
theorem oK(d p:Int)(n:Nd):(mvN d p n).ID=n.ID:=by unfold mvN; split <;> rfl
structure HP (N:List Nd) (x:Int) (r:Int→Nat):Prop where
 ok:Ok34 N
 xm:∃ n∈N,n.ID=x
 ra:∀ n∈N,1≤n.ae∧n.ae≤256
 pa:∀ n∈N,n.ID≠x→n.aa=0∨∃ m∈N,m.ID=n.aa
 rk:Rk N x r
 xs:((∀ n∈N,n.aa≠0→r n.aa<r n.ID)∧∀ n∈N,n.aa=0∨∃ m∈N,m.ID=n.aa)∨∀ n∈N,n.ID≠x→n.aa≠x
structure Hung (N:List Nd) (g:Nd→Nd):Prop where
 id:∀ n,(g n).ID=n.ID
 cl:∀ n,(g n).af=n.af
 ra:∀ n∈N,1≤(g n).ae∧(g n).ae≤256
 pa:∀ n∈N,(g n).aa=0∨∃ m∈N,m.ID=(g n).aa
 rk:∃ r:Int→Nat,∀ m∈N.map g,m.aa≠0→r m.aa<r m.ID
theorem aDB{N:List Nd}{x d w:Int}{o:Bool}{r:Int→Nat}(h:HP N x r)(hw:1≤w∧w≤256)(hd:d≠0→(∃ m∈N,m.ID=d)∧¬ Anc N x d):Hung N (pO x d w o):=by
 obtain ⟨y,hy,hyx⟩:=h.xm;have hyr:=h.ok.ra y hy;refine ⟨aFR x d w o,aDv x d w o,fun n hn=>?_,fun n hn=>?_,aHd h.ok.so h.rk (by omega) (fun n hn=>by have:=h.ok.ra n hn; omega) (fun h0=>(hd h0).2)⟩
 · have:=h.ra n hn;unfold pO;split
   · exact hw
   · split <;> exact this
 · unfold pO;split
   · by_cases h0:d=0
     · exact .inl h0
     · exact .inr (hd h0).1
   · rename_i hx;split
     · exact .inr ⟨y,hy,hyx⟩
     · exact h.pa n hn hx
end Go.Fn
open Go Go.IL
namespace Go.Fn
theorem hp_move{N:List Nd}{x:Int}{r:Int→Nat}(h:HP N x r){y k:Nd}(hy:y∈N)(hyx:y.ID=x)(hk:k∈N)(hkx:k.ID≠x)(ha:Anc N x k.ID)(hfull:(∀ n∈N,n.aa≠0→r n.aa<r n.ID)∧∀ n∈N,n.aa=0∨∃ m∈N,m.ID=n.aa):HP (N.map (mvN k.ID y.aa)) x r∧¬ Anc (N.map (mvN k.ID y.aa)) x k.ID:=by
 obtain ⟨hf1,hf2⟩:=hfull;have hso:(N.map (mvN k.ID y.aa)).Pairwise (fun a b=>a.ID<b.ID):=by
  rw [Bi];exact h.ok.so.imp (fun hab=>by rw [oK,oK]; exact hab)
 have himg:∀ m∈N.map (mvN k.ID y.aa),∃ n∈N,m=mvN k.ID y.aa n:=fun m hm=>by
  obtain ⟨n,hn,e⟩:=Ak.1 hm;exact ⟨n,hn,e.symm⟩
 have hin:∀ p:Int,(p=0∨∃ m∈N,m.ID=p)→(p=0∨∃ m∈N.map (mvN k.ID y.aa),m.ID=p):=fun p hp=>hp.imp id (fun ⟨m,hm,e⟩=>⟨_,Ak.2 ⟨m,hm,rfl⟩,(oK _ _ _).trans e⟩)
 have hxk:r x<r k.ID:=by
  rcases aFe h.rk ha with e | e
  · exact Ay e hkx
  · exact e
 have hpar:∀ n∈N,(mvN k.ID y.aa n).aa≠0→r (mvN k.ID y.aa n).aa<r n.ID:=fun n hn hz=>by
  unfold mvN at hz ⊢;split
  · rename_i e;rw [Ao e] at hz;have hz:y.aa≠0:=hz;have:=hf1 y hy hz;rw [hyx] at this
    show r y.aa<r n.ID
    rw [e]; omega
  · rename_i e;rw [Al e] at hz;exact hf1 n hn hz
 have hpas:∀ n∈N,(mvN k.ID y.aa n).aa=0∨∃ m∈N.map (mvN k.ID y.aa),m.ID=(mvN k.ID y.aa n).aa:=fun n hn=>by
  apply hin;unfold mvN;split
  · exact hf2 y hy
  · exact hf2 n hn
 have hrk:Rk (N.map (mvN k.ID y.aa)) x r:=fun m hm hx hz=>by
  obtain ⟨n,hn,rfl⟩:=himg m hm;rw [oK];exact hpar n hn hz
 refine ⟨⟨⟨by rw [An]; exact h.ok.ln,fun m hm=>?_,hso,fun m hm=>?_⟩,?_,fun m hm=>?_,fun m hm _=>?_,hrk,.inl ⟨fun m hm hz=>?_,fun m hm=>?_⟩⟩,fun hb=>?_⟩
 · obtain ⟨n,hn,rfl⟩:=himg m hm;rw [oK]; exact h.ok.ra n hn
 · obtain ⟨n,hn,rfl⟩:=himg m hm;unfold mvN;split
   · exact h.ok.pa y hy
   · exact h.ok.pa n hn
 · exact ⟨_,Ak.2 ⟨y,hy,rfl⟩,(oK _ _ _).trans hyx⟩
 · obtain ⟨n,hn,rfl⟩:=himg m hm;have:=h.ra n hn;unfold mvN;split <;> exact this
 · obtain ⟨n,hn,rfl⟩:=himg m hm;exact hpas n hn
 · obtain ⟨n,hn,rfl⟩:=himg m hm;rw [oK];exact hpar n hn hz
 · obtain ⟨n,hn,rfl⟩:=himg m hm;exact hpas n hn
 · have hkm:mvN k.ID y.aa k∈N.map (mvN k.ID y.aa):=Ak.2 ⟨k,hk,rfl⟩;have e1:(mvN k.ID y.aa k).aa=y.aa:=by unfold mvN; rw [Ao rfl]
   have h1:=aEn hso hkm (by rw [oK]; exact hkx) (by rw [oK]; exact hb);rw [e1] at h1;have hyr:=h.ok.ra y hy
   by_cases hz:y.aa=0
   · rcases aFf h1 with e | ⟨m,hm,e⟩
     · omega
     · obtain ⟨n,hn,rfl⟩:=himg m hm;rw [oK] at e;have:=h.ok.ra n hn; omega
   · have h2:=hf1 y hy hz;rw [hyx] at h2
     rcases aFe hrk h1 with e | e
     · rw [e] at h2; omega
     · omega
end Go.Fn
open Go Go.IL
namespace Go.Fn
structure BS (K:Int) (N:List Nd) (E:List Int):Prop where
 kp:0≤K∧K≤24
 ln:N.length≤24
 el:(E.length:Int)≤K
 so:N.Pairwise (fun a b=>a.ID<b.ID)
 ra:∀ n∈N,1≤n.ID∧n.ID≤1048576
 en:∀ n∈N,(n.af=true↔n.ID∈E)
 nd:E.Nodup
 es:∀ e∈E,∃ n∈N,n.ID=e
theorem FV.bs{K:Int}{st:Fs}(h:FV K st):BS K st.ai st.al:=⟨h.kp.2,h.ln,h.el,h.so,fun n hn=>(h.ra n hn).1,h.en,h.nd,h.es⟩
theorem fv_hung{K:Int}{N:List Nd}{E:List Int}{g:Nd→Nd}(b:BS K N E)(h:Hung N g):FV K ⟨24,K,N.map g,E⟩:=by
 have himg:∀ m∈N.map g,∃ n∈N,m=g n:=fun m hm=>by
  obtain ⟨n,hn,e⟩:=Ak.1 hm;exact ⟨n,hn,e.symm⟩
 have hin:∀ p:Int,(∃ m∈N,m.ID=p)→∃ m∈N.map g,m.ID=p:=fun p ⟨m,hm,e⟩=>⟨_,Ak.2 ⟨m,hm,rfl⟩,(h.id m).trans e⟩
 refine ⟨rfl,⟨rfl,b.kp⟩,by show (N.map g).length≤24; rw [An]; exact b.ln,b.el,?_,fun m hm=>?_,fun m hm=>?_,h.rk,fun m hm=>?_,b.nd,fun e he=>hin e (b.es e he)⟩
 · show (N.map g).Pairwise _
   rw [Bi];exact b.so.imp (fun hab=>by rw [h.id,h.id]; exact hab)
 · obtain ⟨n,hn,rfl⟩:=himg m hm;rw [h.id];exact ⟨b.ra n hn,h.ra n hn⟩
 · obtain ⟨n,hn,rfl⟩:=himg m hm;exact (h.pa n hn).imp id (hin _)
 · obtain ⟨n,hn,rfl⟩:=himg m hm;rw [h.id,h.cl];exact b.en n hn
end Go.Fn
open Go Go.IL
namespace Go.Fn
end Go.Fn
open Bool renaming or_self → Et
open List renaming countP_append → DJ,countP_cons → Dw,countP_le_length → Dl,countP_singleton → DX,getElem?_cons_succ → Da,nodup_append → Cu
open _root_ renaming cond_false → FH
open Go Go.IL
namespace Go.Fn
abbrev AC:=aK
abbrev AS:=bQ
inductive qG (C:List AC):Int→List Nat→Prop
 | nil:qG C (-1) []
 | cons {a:Nat} {c:AC} {sp:List Nat} (h:C[a]? = some c) (hl:c.ah=false) (t:qG C c.ap sp):qG C (a:Int) (a::sp)
structure aAn (A:AS) (sp:List Nat):Prop where
 len:A.Cells.length≤64
 odd:∀ c∈A.Cells,(c.ah=true→c.ap=0)∧(c.ah=false→c.au=0)
 ch:qG A.Cells A.Free sp
 nd:sp.Nodup
 used:A.Used=(A.Cells.countP (fun c=>c.ah):Nat)
 all:A.Cells.countP (fun c=>c.ah)+sp.length=A.Cells.length
 cov:∀ (i:Nat) (c:AC),A.Cells[i]? = some c→c.ah=false→i∈sp
theorem qG.place{C:List AC}:∀ {a:Int} {sp:List Nat},qG C a sp → -1≤a∧a<(C.length:Int)∨a = -1
 | _,_,.nil=>.inr rfl
 | _,_,.cons h _ _=>.inl (by have:=(Aj.1 h).1; omega)
theorem qG.ok{C:List AC}{a:Int}{sp:List Nat}(h:qG C a sp) : -1≤a∧(a<(C.length:Int))∨a = -1:=h.place
theorem qG.lt{C:List AC}{a:Int}{sp:List Nat}(h:qG C a sp)(i:Nat)(hi:i∈sp):∃ c,C[i]? = some c∧c.ah=false∧∃ r,qG C c.ap r:=by
 induction h with
 | nil=>cases hi
 | @cons a c sp h hl t ih =>
   rcases Au.1 hi with rfl | hi
   · exact ⟨c,h,hl,sp,t⟩
   · exact ih hi
theorem aGx{A:AS}{n:Int}(h : -1≤n)(h2:n<(A.Cells.length:Int)):lH A n=some true:=by
 unfold lH;rw [bndD,bndD,bndD,Ae h,Ae h2]; rfl
theorem aE2{A:AS}{n:Int}{sp:List Nat}(h:qG A.Cells n sp):lH A n=some true:=by
 cases h with
 | nil=>exact aGx (by decide) (by omega)
 | cons h _ _=>have:=(Aj.1 h).1; exact aGx (by omega) (by omega)
theorem aGX{A:AS}{sp:List Nat}(h:aAn A sp){i:Nat}{c:AC}(hc:A.Cells[i]? = some c):nQ A c=some false:=by
 unfold nQ;cases hl:c.ah with
 | true =>
   rw [show ((!true) == true)=false from rfl,gdff,bnoS,bndD]; rfl
 | false =>
   obtain ⟨c',h1,_,r,h2⟩:=h.ch.lt i (h.cov i c hc hl);rw [hc] at h1;injection h1 with h1
   subst h1;rw [show ((!false) == true)=true from rfl,gdtt,aE2 h2,bnoS,bndD]; rfl
theorem aG2{A:AS}{sp:List Nat}(h:aAn A sp)(r:List AC):∀ (p:List AC) (f:Nat),A.Cells=p++r→r.length<f→cG A.Cells A f (p.length:Int)=some (-1):=by
 have hlen:=h.len
 induction r with
 | nil =>
   intro p f h1 hf;obtain ⟨f,rfl⟩:∃ g,f=g+1:=⟨f-1,by simp at hf; omega⟩;rw [Ax] at h1;rw [cG,bndD,h1,pQ,bJ]
 | cons c r ih =>
   intro p f h1 hf;obtain ⟨f,rfl⟩:∃ g,f=g+1:=⟨f-1,by simp at hf; omega⟩;have hc:A.Cells[p.length]? = some c:=by rw [h1,Bx (AP _)]; simp
   rw [cG,bndD,lJ h1,bO,dL h1,bnoS,aGX h hc,bnoS,bJ,bndD,w_at h1 (by omega)];exact ih (p++[c]) f (eO h1) (by simpa using hf)
theorem odd_no{A:AS}{sp:List Nat}(h:aAn A sp){c:AC}(hc:c∈A.Cells):wH c=some false:=by
 obtain ⟨h1,h2⟩:=h.odd c hc;unfold wH;cases hl:c.ah with
 | true=>rw [bO,bndD,h1 hl]; rfl
 | false=>rw [bJ,bndD,h2 hl]; rfl
theorem noodd_L{A:AS}{sp:List Nat}(h:aAn A sp)(r:List AC):∀ (p:List AC) (f:Nat),A.Cells=p++r→r.length<f→cM A.Cells f (p.length:Int)=some (-1):=by
 have hlen:=h.len
 induction r with
 | nil =>
   intro p f h1 hf;obtain ⟨f,rfl⟩:∃ g,f=g+1:=⟨f-1,by simp at hf; omega⟩;rw [Ax] at h1;rw [cM,bndD,h1,pQ,bJ]
 | cons c r ih =>
   intro p f h1 hf;obtain ⟨f,rfl⟩:∃ g,f=g+1:=⟨f-1,by simp at hf; omega⟩;rw [cM,bndD,lJ h1,bO,dL h1,bnoS,odd_no h (by rw [h1]; simp),bnoS,bJ,bndD,w_at h1 (by omega)];exact ih (p++[c]) f (eO h1) (by simpa using hf)
theorem aIz{l:List Int}(hl:l.length≤1000000){v:Int}(r:List Int):∀ (p:List Int) (f:Nat),l=p++r→v ∉ r→r.length<f→eJ l v f (p.length:Int)=some (-1):=by
 induction r with
 | nil =>
   intro p f h1 _ hf;obtain ⟨f,rfl⟩:∃ g,f=g+1:=⟨f-1,by simp at hf; omega⟩;rw [Ax] at h1;rw [eJ,bndD,h1,pQ,bJ]
 | cons c r ih =>
   intro p f h1 hv hf;obtain ⟨f,rfl⟩:∃ g,f=g+1:=⟨f-1,by simp at hf; omega⟩;rw [eJ,bndD,lJ h1,bO,dL h1,bnoS,bndD,Ad (fun e=>hv (by simp [e])),bJ,bndD,w_at h1 hl];exact ih (p++[c]) f (eO h1) (fun hm=>hv (by simp [hm])) (by simpa using hf)
theorem aEh{l:List Int}(hl:l.length≤1000000){v:Int}(hv:v ∉ l):dJ l v=some false:=by
 unfold dJ lW;have h:=aIz hl l [] fuel rfl hv (dK (by omega));have h:eJ l v fuel 0=some (-1):=h;rw [h,bnoS,bndD]; rfl
def toI(l:List Nat):List Int:=l.map fun (n:Nat)=>(n:Int)
theorem toI_mem{l:List Nat}{n:Nat}:(n:Int)∈toI l↔n∈l:=by
 unfold toI;rw [Ak];exact ⟨fun ⟨m,h1,h2⟩=>by rw [←Int.ofNat.inj h2]; exact h1,fun h=>⟨n,h,rfl⟩⟩
theorem chain_L{A:AS}(hlen:A.Cells.length≤64){a:Int}{sp:List Nat}(h:qG A.Cells a sp):∀ (done:List Nat) (f:Nat),(done++sp).Nodup→done.length+sp.length≤64→sp.length<f→iN A f (toI done) a=some (toI (done++sp),true):=by
 induction h with
 | nil =>
   intro done f _ _ hf;obtain ⟨f,rfl⟩:∃ g,f=g+1:=⟨f-1,by simp at hf; omega⟩;rw [iN,bndD,Ae rfl,bO,Ax]
 | @cons a c sp h hl t ih =>
   intro done f hn hd hf;obtain ⟨f,rfl⟩:∃ g,f=g+1:=⟨f-1,by simp at hf; omega⟩;have hnm:(a:Int) ∉ toI done:=fun hm=>by
    have h1:=toI_mem.1 hm;have:=(Cu.1 hn).2.2 a h1 a (by simp);exact this rfl
   have hdl:(toI done).length=done.length:=by unfold toI; simp
   simp at hd;rw [iN,bndD,Ad (by omega),bJ,fM,h,bnoS,hl,AQ,gdtt,aEh (by omega) hnm,bnoS,bndD,Et,bJ,kI (by simp; omega) (by simp; omega),bnoS,bnoS];have:=ih (done++[a]) f (by simpa using hn) (by simp; omega) (by simp at hf; omega);rw [show toI (done++[a])=toI done++[(a:Int)] by unfold toI; simp] at this;rw [this,AA]; rfl
theorem count_L{A:AS}{sp:List Nat}(h:aAn A sp)(r:List AC):∀ (p:List AC) (f:Nat),A.Cells=p++r→r.length<f→lM A f (p.countP (fun c=>c.ah):Nat) (p.length:Int)=some 0:=by
 have hlen:=h.len
 induction r with
 | nil =>
   intro p f h1 hf;obtain ⟨f,rfl⟩:∃ g,f=g+1:=⟨f-1,by simp at hf; omega⟩;rw [Ax] at h1;have hspl:sp.length≤64:=by have:=h.all; omega
   have hch:pW A=some (toI sp,true):=chain_L hlen h.ch [] fuel (by simpa using h.nd) (by simpa using hspl) (dK (by omega));have hul:=h.used;have hal:=h.all;have htl:(toI sp).length=sp.length:=by unfold toI; simp
   have hw:Af .i64 (((A.Cells.countP (fun c=>c.ah):Nat):Int)+(((toI sp,true):List Int×Bool).1.length:Int))=((A.Cells.countP (fun c=>c.ah):Nat):Int)+((toI sp).length:Int):=w64 (show _≤((A.Cells.countP (fun c=>c.ah):Nat):Int)+((toI sp).length:Int) by omega) (show ((A.Cells.countP (fun c=>c.ah):Nat):Int)+((toI sp).length:Int)≤_ by omega);rw [←h1];rw [lM,bndD,pQ,bJ,hch,bnoS,bndD,Ae (show ((A.Cells.countP (fun c=>c.ah):Nat):Int)=A.Used from hul.symm),bndD,bndD,hw,bndD,bndD,Ae (show ((A.Cells.countP (fun c=>c.ah):Nat):Int)+((toI sp).length:Int)=(A.Cells.length:Int) by omega)];rfl
 | cons c r ih =>
   intro p f h1 hf;obtain ⟨f,rfl⟩:∃ g,f=g+1:=⟨f-1,by simp at hf; omega⟩;have hpc:p.countP (fun c=>c.ah)≤p.length:=Dl;have hpl:p.length≤64:=by rw [h1] at hlen; simp at hlen; omega
   have:=ih (p++[c]) f (eO h1) (by simpa using hf);rw [DJ,DX] at this;rw [lM,bndD,lJ h1,bO,dL h1,bnoS,bndD,bndD,bndD,w_at h1 (by omega),w64 (by omega) (by omega)];cases hl:c.ah with
   | true =>
     rw [hl] at this;rw [bO];exact this
   | false =>
     rw [hl] at this;rw [bJ];exact this
theorem aAz{A:AS}{sp:List Nat}(h:aAn A sp):qR A=some 0:=by
 have hlen:=h.len;have h1:=aG2 h A.Cells [] fuel rfl (dK (by omega));have h2:=noodd_L h A.Cells [] fuel rfl (dK (by omega));have h1:eQ A.Cells A=some (-1):=h1;have h2:fH A.Cells=some (-1):=h2;unfold qR;rw [bndD,Ad (by omega),bJ,aE2 h.ch,bnoS,AD,bJ];unfold eD;rw [h1,bnoS,bndD,show decide ((0:Int) ≤ -1)=false from rfl,bnoS];unfold qF eR;rw [bJ,h2,bnoS,bndD,show decide ((0:Int) ≤ -1)=false from rfl,bnoS,bJ];exact count_L h A.Cells [] fuel rfl (dK (by omega))
def qP:List AC→Nat→List Nat
 | [],_=>[]
 | c::r,i=>bif c.ah then i::qP r (i+1) else qP r (i+1)
theorem live_L{A:AS}(hlen:A.Cells.length≤64)(r:List AC):∀ (p:List AC) (acc:List Int) (f:Nat),A.Cells=p++r→r.length<f→acc.length≤p.length→mG A f acc (p.length:Int)=some (acc++toI (qP r p.length)):=by
 induction r with
 | nil =>
   intro p acc f h1 hf _;obtain ⟨f,rfl⟩:∃ g,f=g+1:=⟨f-1,by simp at hf; omega⟩;rw [Ax] at h1;rw [mG,bndD,h1,pQ,bJ]; simp [qP,toI]
 | cons c r ih =>
   intro p acc f h1 hf ha;obtain ⟨f,rfl⟩:∃ g,f=g+1:=⟨f-1,by simp at hf; omega⟩;have hpl:p.length≤64:=by rw [h1] at hlen; simp at hlen; omega
   rw [mG,bndD,lJ h1,bO,dL h1,bnoS,bndD,w_at h1 (by omega)]
   show _=some (acc++toI (bif c.ah then p.length::qP r (p.length+1) else qP r (p.length+1)))
   cases hl:c.ah with
   | true =>
     rw [bO,cond_true,kI (by simp; omega) (by simp; omega),bnoS];rw [bndD,ih (p++[c]) _ f (eO h1) (by simpa using hf) (by simp; omega),AA,AO]; rfl
   | false =>
     rw [bJ,FH,ih (p++[c]) _ f (eO h1) (by simpa using hf) (by simp; omega),AO]; rfl
theorem aHD{A:AS}{sp:List Nat}(h:aAn A sp):tH A=some (toI (qP A.Cells 0)):=by
 unfold tH;rw [aAz h,bnoS,bndD,Ae rfl,AD,bJ];have:=live_L h.len A.Cells [] [] fuel rfl (dK (by have:=h.len; omega)) (AP _);exact this
theorem aBa:∀ {l:List AC} {i p:Nat},p∈qP l i↔i≤p∧∃ c,l[p-i]? = some c∧c.ah=true
 | [],i,p=>by simp [qP]
 | c :: r,i,p=>by
   have ih:=aBa (l:=r) (i:=i+1) (p:=p);have hstep:(i≤p∧∃ d,(c::r)[p-i]? = some d∧d.ah=true)↔(p=i∧c.ah=true)∨(i+1≤p∧∃ d,r[p-(i+1)]? = some d∧d.ah=true):=by
    constructor
    · rintro ⟨h1,d,h2,h3⟩
      by_cases hp:p=i
      · left;rw [hp,FK] at h2;injection h2 with h2
        exact ⟨hp,by rw [h2]; exact h3⟩
      · right;rw [show p-i=(p-(i+1))+1 by omega,Da] at h2;exact ⟨by omega,d,h2,h3⟩
    · rintro (⟨h1,h2⟩ | ⟨h1,d,h2,h3⟩)
      · exact ⟨by omega,c,by rw [h1,FK]; rfl,h2⟩
      · exact ⟨by omega,d,by rw [show p-i=(p-(i+1))+1 by omega,Da]; exact h2,h3⟩
   rw [hstep,←ih]
   show p∈(bif c.ah then i::qP r (i+1) else qP r (i+1))↔_
   cases hl:c.ah with
   | true=>rw [cond_true]; simp
   | false=>rw [FH]; simp
theorem xY:∀ (l:List AC) (i:Nat),(qP l i).Nodup
 | [],_=>by simp [qP]
 | c :: r,i=>by
   have ih:=xY r (i+1)
   show (bif c.ah then i::qP r (i+1) else qP r (i+1)).Nodup
   cases c.ah with
   | true =>
     rw [cond_true,Bl];exact ⟨fun hm=>by have:=(aBa.1 hm).1; omega,ih⟩
   | false=>rw [FH]; exact ih
theorem zA:∀ (l:List AC) (i:Nat),(qP l i).length=l.countP (fun c=>c.ah)
 | [],_=>rfl
 | c::r,i=>by
   have ih:=zA r (i+1);rw [Dw]
   show (bif c.ah then i::qP r (i+1) else qP r (i+1)).length=_
   cases c.ah with
   | true=>rw [cond_true,AR,ih]; simp
   | false=>rw [FH,ih]; simp
end Go.Fn
open Bool renaming and_self → Dm
open List renaming getD_eq_getElem?_getD → AB,getElem?_append_left → AJ,getElem?_set_ne → Az,getElem?_set_self → Aw,length_set → Bz,mem_or_eq_of_mem_set → Ds,nil_append → Bp
open Go Go.IL
namespace Go.Fn
theorem aJC{l:List AC}(h:l.length≤1000):fB l=some l:=by
 unfold fB;rw [kI (by simp; omega) (by simp; omega),bnoS,Bp,aCV (fun e=>by rw [e])]
theorem aGz{A:AS}(h:A.Cells.length≤64):mP A=some (A.Cells,A.Free,A.Used):=by
 unfold mP;rw [aJC (by omega),bnoS]
theorem aD5{C:List AC}{i:Nat}{c c':AC}(h:C[i]? = some c):(C.set i c').countP (fun c=>c.ah)+(if c.ah=true then 1 else 0)=C.countP (fun c=>c.ah)+(if c'.ah=true then 1 else 0):=by
 obtain ⟨hlt,hg⟩:=Aj.1 h;have e:C=C.take i++c::C.drop (i+1):=by
  conv=>lhs; rw [←AX i C]
  rw [Dr hlt,hg]
 have e2:C.set i c'=C.take i++c'::C.drop (i+1):=by
  conv=>lhs; rw [e]
  rw [Dh _ _ (by rw [Bm]; omega),Bm,show i-min i C.length=0 by omega]; rfl
 rw [e2]
 conv=>rhs; rw [e]
 simp only [DJ,Dw];omega
theorem qG.set{C:List AC}{a:Int}{sp:List Nat}(h:qG C a sp){p:Nat}(hp:p ∉ sp)(c:AC):qG (C.set p c) a sp:=by
 induction h with
 | nil=>exact .nil
 | @cons a d sp h hl t ih =>
   have hpa:p≠a:=fun e=>hp (by simp [e])
   exact .cons (by rw [Az hpa]; exact h) hl (ih (fun hm=>hp (by simp [hm])))
theorem qG.app{C:List AC}{a:Int}{sp:List Nat}(h:qG C a sp)(D:List AC):qG (C++D) a sp:=by
 induction h with
 | nil=>exact .nil
 | @cons a d sp h hl t ih =>
   exact .cons (by rw [AJ (Aj.1 h).1]; exact h) hl ih
def uH(A:AS)(p:Nat):AS:=⟨A.Cells.set p ⟨false,0,A.Free⟩,(p:Int),A.Used-1⟩
theorem aHC{A:AS}{p:Nat}{c:AC}(hlen:A.Cells.length≤64)(h:A.Cells[p]? = some c)(hl:c.ah=true):pD A (p:Int)=some true:=by
 have hlt:=(Aj.1 h).1;unfold pD;rw [bndD,bndD,bndD,Ae (show (0:Int)≤(p:Int) by omega),Ae (show (p:Int)<(A.Cells.length:Int) by omega),Dm,AQ,gdtt,fM,h,bnoS,bndD,hl]; rfl
theorem give_ok{A:AS}{sp:List Nat}(h:aAn A sp){p:Nat}{c:AC}(hp:A.Cells[p]? = some c)(hl:c.ah=true):rY A (p:Int)=some (uH A p,0)∧aAn (uH A p) (p::sp):=by
 have hlen:=h.len;have hlt:=(Aj.1 hp).1;have hcs:=aD5 (c':=⟨false,0,A.Free⟩) hp;rw [hl] at hcs;have hcs:(A.Cells.set p ⟨false,0,A.Free⟩).countP (fun c=>c.ah)+1=A.Cells.countP (fun c=>c.ah):=by simpa using hcs
 have hu:=h.used;have hal:=h.all;have hnm:p ∉ sp:=fun hm=>by
  obtain ⟨c',h1,h2,_⟩:=h.ch.lt p hm;rw [hp] at h1;injection h1 with h1
  rw [h1,h2] at hl; cases hl
 refine ⟨?_,?_⟩
 · unfold rY;rw [aGz hlen,bnoS,aAz h,bnoS,bndD,Ae rfl,AD,bJ,aHC hlen hp hl,bnoS,AD,bJ,fM,hp,bnoS,As,hp,bnoS,bndD,bndD]
   show some ((⟨A.Cells.set p ⟨false,0,A.Free⟩,(p:Int),Af .i64 (A.Used-1)⟩:AS),(0:Int))=_
   rw [w64 (by omega) (by omega)]; rfl
 · constructor
   · show (A.Cells.set p _).length≤64; rw [Bz]; exact hlen
   · intro d hd
     rcases Ds hd with hd | hd
     · exact h.odd d hd
     · rw [hd]; exact ⟨fun h=>(by cases h),fun _=>rfl⟩
   · exact .cons (c:=⟨false,0,A.Free⟩) (by show (A.Cells.set p _)[p]? = _; rw [Aw hlt]) rfl (h.ch.set hnm _)
   · exact Bl.2 ⟨hnm,h.nd⟩
   · show A.Used-1=((A.Cells.set p _).countP (fun c=>c.ah):Nat)
     omega
   · show (A.Cells.set p _).countP (fun c=>c.ah)+(p::sp).length=(A.Cells.set p _).length
     rw [Bz,AR]; omega
   · intro i d hd hdl
     by_cases hip:p=i
     · subst hip; simp
     · have hd:(A.Cells.set p _)[i]? = some d:=hd;rw [Az hip] at hd;exact Bg _ (h.cov i d hd hdl)
def takeS(A:AS)(v:Int):List Nat→AS
 | []=>⟨A.Cells++[⟨true,v,0⟩],A.Free,A.Used+1⟩
 | a::_=>⟨A.Cells.set a ⟨true,v,0⟩,(A.Cells.getD a default).ap,A.Used+1⟩
def takeP(A:AS):List Nat→Nat
 | []=>A.Cells.length
 | a::_=>a
theorem aGW{A:AS}{sp:List Nat}(h:aAn A sp)(v:Int)(hu:A.Used<64):rX A v=some (takeS A v sp,(takeP A sp:Int),0)∧aAn (takeS A v sp) sp.tail∧(takeS A v sp).Cells[takeP A sp]? = some ⟨true,v,0⟩∧(∀ i,i≠takeP A sp→(takeS A v sp).Cells[i]? = A.Cells[i]?)∧(∀ c,A.Cells[takeP A sp]? = some c→c.ah=false)∧takeP A sp<64:=by
 have hlen:=h.len;have hus:=h.used;have hal:=h.all;cases sp with
 | nil =>
   have hfree:A.Free = -1:=by
    have hch:=h.ch;generalize A.Free=F at hch;cases hch; rfl
   have hal:A.Cells.countP (fun c=>c.ah)=A.Cells.length:=by simpa using hal
   have hl64:A.Cells.length<64:=by omega
   refine ⟨?_,?_,?_,?_,?_,?_⟩
   · unfold rX;rw [aGz hlen,bnoS,aAz h,bnoS,bndD,Ae rfl,AD,bJ,bndD,Ad (by omega),bJ,bndD,bndD]
     show (bif decide (A.Free = -1) then _ else _)=_
     rw [Ae hfree,bO]
     show (bno (app 24 A.Cells [(⟨true,v,0⟩:AC)]) fun x10=>some ((⟨x10,A.Free,Af .i64 (A.Used+1)⟩:AS),(A.Cells.length:Int),(0:Int)))=_
     rw [kI (by simp; omega) (by simp; omega),bnoS,w64 (by omega) (by omega)]; rfl
   · constructor
     · show (A.Cells++[_]).length≤64; simp; omega
     · intro d hd
       rcases AM.1 hd with hd | hd
       · exact h.odd d hd
       · rw [BE.1 hd]; exact ⟨fun _=>rfl,fun h=>(by cases h)⟩
     · exact h.ch.app _
     · exact h.nd
     · show A.Used+1=((A.Cells++[(⟨true,v,0⟩:AC)]).countP (fun c=>c.ah):Nat)
       rw [DJ,DX]; simp; omega
     · show (A.Cells++[(⟨true,v,0⟩:AC)]).countP (fun c=>c.ah)+0=(A.Cells++[(⟨true,v,0⟩:AC)]).length
       rw [DJ,DX,AO,hal]; simp
     · intro i d hd hdl;have hd:(A.Cells++[(⟨true,v,0⟩:AC)])[i]? = some d:=hd
       by_cases hi:i<A.Cells.length
       · rw [AJ hi] at hd;exact h.cov i d hd hdl
       · rw [Bx (by omega)] at hd;have:=Eb hd;rw [BE.1 this] at hdl; cases hdl
   · show (A.Cells++[_])[A.Cells.length]? = _
     rw [Bx (AP _)]; simp
   · intro i hi
     show (A.Cells++[_])[i]? = _
     have hi:i≠A.Cells.length:=hi
     by_cases hlt:i<A.Cells.length
     · rw [AJ hlt]
     · rw [Ch (by simp; omega),Ch (by omega)]
   · intro c hc;have hc:A.Cells[A.Cells.length]? = some c:=hc;simp at hc
   · exact hl64
 | cons a sp =>
   have hch:=h.ch;generalize hF:A.Free=F at hch;cases hch with
   | @cons _ c _ hc hcl t =>
     have hlt:=(Aj.1 hc).1;have hgd:A.Cells.getD a default=c:=by rw [AB,hc]; rfl
     have hcs:=aD5 (c':=⟨true,v,0⟩) hc;rw [hcl] at hcs;have hcs:(A.Cells.set a ⟨true,v,0⟩).countP (fun c=>c.ah)=A.Cells.countP (fun c=>c.ah)+1:=by simpa using hcs
     have hnd:=Bl.1 h.nd;simp at hal;refine ⟨?_,?_,?_,?_,?_,?_⟩
     · unfold rX;rw [aGz hlen,bnoS,aAz h,bnoS,bndD,Ae rfl,AD,bJ,bndD,Ad (by omega),bJ,bndD,bndD]
       show (bif decide (A.Free = -1) then _ else _)=_
       rw [hF,Ad (by omega),bJ,fM,hc,bnoS,As,hc,bnoS,bnoS,bnoS,bndD]
       show some ((⟨A.Cells.set a ⟨true,v,0⟩,c.ap,Af .i64 (A.Used+1)⟩:AS),(a:Int),(0:Int))=some ((⟨A.Cells.set a ⟨true,v,0⟩,(A.Cells.getD a default).ap,A.Used+1⟩:AS),(a:Int),0)
       rw [w64 (by omega) (by omega),hgd]
     · constructor
       · show (A.Cells.set a _).length≤64; rw [Bz]; exact hlen
       · intro d hd
         rcases Ds hd with hd | hd
         · exact h.odd d hd
         · rw [hd]; exact ⟨fun _=>rfl,fun h=>(by cases h)⟩
       · show qG (A.Cells.set a _) (A.Cells.getD a default).ap sp
         rw [hgd]; exact t.set hnd.1 _
       · exact hnd.2
       · show A.Used+1=((A.Cells.set a _).countP (fun c=>c.ah):Nat)
         omega
       · show (A.Cells.set a _).countP (fun c=>c.ah)+sp.length=(A.Cells.set a _).length
         rw [Bz]; omega
       · intro i d hd hdl;have hd:(A.Cells.set a _)[i]? = some d:=hd
         by_cases hia:a=i
         · subst hia;rw [Aw hlt] at hd;injection hd with hd
           rw [←hd] at hdl; cases hdl
         · rw [Az hia] at hd;exact (Au.1 (h.cov i d hd hdl)).resolve_left (fun e=>hia e.symm)
     · show (A.Cells.set a _)[a]? = _
       rw [Aw hlt]
     · intro i hi;have hi:i≠a:=hi
       show (A.Cells.set a _)[i]? = _
       rw [Az (fun e=>hi e.symm)]
     · intro d hd;have hd:A.Cells[a]? = some d:=hd;rw [hc] at hd;injection hd with hd
       rw [←hd]; exact hcl
     · show a<64; omega
end Go.Fn
open List renaming erase_cons_head → Ec,getLast?_cons_cons → EG,mem_of_mem_erase → DY
open Go Go.IL
namespace Go.Fn
abbrev Nk:=aJ
def mD(ns:List Nk):Int→List Nat→Prop
 | a,[]=>a = -1
 | a,p::l=>a=(p:Int)∧∃ n,ns[p]? = some n∧mD ns n.next l
theorem mD.same{ns ns':List Nk}:∀ {l:List Nat} {a:Int},(∀ q∈l,∀ n,ns[q]? = some n→∃ n',ns'[q]? = some n'∧n'.next=n.next)→mD ns a l→mD ns' a l
 | [],_,_,h=>h
 | p::l,a,hs,⟨h1,n,h2,h3⟩=>by
   obtain ⟨n',g1,g2⟩:=hs p (by simp) n h2;exact ⟨h1,n',g1,by rw [g2]; exact h3.same fun q hq=>hs q (by simp [hq])⟩
theorem mD.other{ns:List Nk}{a:Int}{l:List Nat}(h:mD ns a l){p:Nat}(hp:p ∉ l)(n:Nk):mD (ns.set p n) a l :=
 h.same fun q hq m hm=>⟨m,by rw [Az (show p≠q from fun e=>hp (by rw [e]; exact hq))]; exact hm,rfl⟩
theorem mD.keep{ns:List Nk}{p:Nat}{n n':Nk}(hp:ns[p]? = some n)(hn:n'.next=n.next){a:Int}{l:List Nat}(h:mD ns a l):mD (ns.set p n') a l:=by
 refine h.same fun q hq m hm=>?_
 by_cases e:p=q
 · subst e;rw [hp] at hm;injection hm with hm
   exact ⟨n',by rw [Aw (Aj.1 hp).1],by rw [←hm]; exact hn⟩
 · exact ⟨m,by rw [Az e]; exact hm,rfl⟩
theorem mD.mem{ns:List Nk}:∀ {l:List Nat} {a:Int},mD ns a l→∀ p∈l,∃ n,ns[p]? = some n
 | q::l,a,⟨_,n,h2,h3⟩,p,hp=>by
   rcases Au.1 hp with rfl | hp
   · exact ⟨n,h2⟩
   · exact h3.mem p hp
theorem mD.cut{ns:List Nk}{p q:Nat}{np nq:Nk}(hp:ns[p]? = some np)(hq:ns[q]? = some nq){l2:List Nat}:∀ {l1:List Nat} {a:Int},mD ns a (l1++q::p::l2)→(l1++q::p::l2).Nodup →
 mD (ns.set q { nq with next:=np.next }) a (l1++q::l2)
 | [],a,⟨h1,n,h2,h3,m,h4,h5⟩,hnd=>by
   rw [hp] at h4;injection h4 with h4
   subst h4;have hnd:(q::p::l2).Nodup:=hnd;have hq2:q ∉ l2:=fun hm=>(Bl.1 hnd).1 (by simp [hm])
   exact ⟨h1,{ nq with next:=np.next },by rw [Aw (Aj.1 hq).1],h5.other hq2 _⟩
 | b::l1,a,⟨h1,n,h2,h3⟩,hnd=>by
   have hnd:(b::(l1++q::p::l2)).Nodup:=hnd;have hbq:q≠b:=fun e=>(Bl.1 hnd).1 (by simp [e])
   exact ⟨h1,n,by rw [Az hbq]; exact h2,mD.cut hp hq h3 (Bl.1 hnd).2⟩
theorem seek{ns:List Nk}(hlen:ns.length=64){p:Nat}{room keep:Int}{C:List AC}{F U first:Int}{cl:List Int}{np:Nk}(hp:ns[p]? = some np){l2:List Nat}:∀ (l1:List Nat) (q:Nat) (nq:Nk) (f:Nat),ns[q]? = some nq→mD ns nq.next (l1++p::l2)→p ∉ l1→l1.length<f →
 ∃ (r:Nat) (nr:Nk),(q::l1).getLast? = some r∧ns[r]? = some nr∧fY (p:Int) room keep C F U ns first cl f q=some (room,keep,C,F,U,ns.set r { nr with next:=np.next },first,cl)
 | [],q,nq,f+1,hq,h,_,_=>by
   obtain ⟨h1,_⟩:=h;refine ⟨q,nq,rfl,hq,?_⟩;rw [fY,hq,bnoS,bndD,Ae h1,AD,bJ,fM,hp,bnoS,As,hp,bnoS,bnoS,bndD]
 | b::l1,q,nq,f+1,hq,⟨h1,nb,h2,h3⟩,hn,hf=>by
   have hpb:p≠b:=fun e=>hn (by simp [e])
   obtain ⟨r,nr,g1,g2,g3⟩:=seek hlen hp l1 b nb f h2 h3 (fun hm=>hn (by simp [hm])) (by simpa using hf);refine ⟨r,nr,by rw [EG]; exact g1,g2,?_⟩;rw [fY,hq,bnoS,bndD,h1,Ad (show ¬(b:Int)=(p:Int) by omega),AL,bO,bnoS,h1,fM,h2,bnoS,As];exact g3
theorem seek1{ns:List Nk}(hlen:ns.length=64){p:Nat}{room keep:Int}{C:List AC}{F U first:Int}{cl:List Int}{np:Nk}(hp:ns[p]? = some np){l2:List Nat}:∀ (l1:List Nat) (q:Nat) (nq:Nk) (f:Nat),ns[q]? = some nq→mD ns nq.next (l1++p::l2)→p ∉ l1→l1.length<f →
 ∃ (r:Nat) (nr:Nk),(q::l1).getLast? = some r∧ns[r]? = some nr∧fX (p:Int) room keep C F U ns first cl f q=some (room,keep,C,F,U,ns.set r { nr with next:=np.next },first,cl)
 | [],q,nq,f+1,hq,h,_,_=>by
   obtain ⟨h1,_⟩:=h;refine ⟨q,nq,rfl,hq,?_⟩;rw [fX,hq,bnoS,bndD,Ae h1,AD,bJ,fM,hp,bnoS,As,hp,bnoS,bnoS,bndD]
 | b::l1,q,nq,f+1,hq,⟨h1,nb,h2,h3⟩,hn,hf=>by
   have hpb:p≠b:=fun e=>hn (by simp [e])
   obtain ⟨r,nr,g1,g2,g3⟩:=seek1 hlen hp l1 b nb f h2 h3 (fun hm=>hn (by simp [hm])) (by simpa using hf);refine ⟨r,nr,by rw [EG]; exact g1,g2,?_⟩;rw [fX,hq,bnoS,bndD,h1,Ad (show ¬(b:Int)=(p:Int) by omega),AL,bO,bnoS,h1,fM,h2,bnoS,As];exact g3
def upI:Option Nat→Int
 | none=>-1
 | some p=>(p:Int)
def rR(ns:List Nk)(first:Int):Ag Nat→Int
 | none=>first
 | some p=>(ns.getD p default).first
theorem pS{ns:List Nk}{first:Int}{p:Nat}{n:Nk}(h:ns[p]? = some n):rR ns first (some p)=n.first:=by
 show (ns.getD p default).first=_
 rw [AB,h]; rfl
structure Lk (ns:List Nk) (first:Int) (hd:Ag Nat→Prop) (kids:Ag Nat→List Nat):Prop where
 ch:∀ u,hd u→mD ns (rR ns first u) (kids u)
 nd:∀ u,hd u→(kids u).Nodup
 dj:∀ u v p,hd u→hd v→p∈kids u→p∈kids v→u=v
 at':∀ p,hd (some p)→∃ n,ns[p]? = some n
def aCb(n:Nk):Int×Int×Int×Bool:=(n.id,n.up,n.weight,n.closed)
def rS(ns:List Nk)(q:Nat):Ag (Int×Int×Int×Bool):=(ns[q]?).map aCb
theorem yF{ns:List Nk}{p:Nat}{n n':Nk}(hp:ns[p]? = some n)(hv:aCb n'=aCb n)(q:Nat):rS (ns.set p n') q=rS ns q:=by
 unfold rS
 by_cases e:p=q
 · subst e;rw [Aw (Aj.1 hp).1,hp]
   show some (aCb n')=some (aCb n)
   rw [hv]
 · rw [Az e]
def tG(kids:Option Nat→List Nat)(u:Ag Nat)(p:Nat):Ag Nat→List Nat:=fun v=>if v=u then (kids u).erase p else kids v
theorem aHv{l1 l2:List Nat}{p:Nat}(h:p ∉ l1):(l1++p::l2).erase p=l1++l2:=by
 rw [List.erase_append_right _ h,Ec]
theorem aGa{l:List Nat}{p:Nat}(h:p∈l)(hn:l.Nodup):∃ l1 l2,l=l1++p::l2∧p ∉ l1:=by
 obtain ⟨l1,l2,rfl⟩:=BR h;exact ⟨l1,l2,rfl,fun hm=>(Cu.1 hn).2.2 p hm p (by simp) rfl⟩
theorem aCN{l:List Nat}{r:Nat}(h:l.getLast? = some r):∃ m,l=m++[r]:=by
 obtain ⟨m,hm⟩:=List.getLast?_eq_some_iff.1 h;exact ⟨m,hm⟩
theorem Lk.skip{ns:List Nk}{first:Int}{hd:Ag Nat→Prop}{kids:Ag Nat→List Nat}(h:Lk ns first hd kids){u:Ag Nat}(hu:hd u){p r:Nat}{np nr:Nk}{m l2:List Nat}(hk:kids u=m++r::p::l2)(hp:ns[p]? = some np)(hr:ns[r]? = some nr) :
 Lk (ns.set r { nr with next:=np.next }) first hd (tG kids u p):=by
 have hnd:=h.nd u hu;rw [hk] at hnd;have hpm:p ∉ m++[r]:=fun hm=>by
  have:(m++[r]++p::l2).Nodup:=by simpa using hnd
  exact (Cu.1 this).2.2 p hm p (by simp) rfl
 have her:(kids u).erase p=m++r::l2:=by
  rw [hk,show m++r::p::l2=(m++[r])++p::l2 by simp,aHv hpm]; simp
 have hf:∀ v,rR (ns.set r { nr with next:=np.next }) first v=rR ns first v:=fun v=>by
  cases v with
  | none=>rfl
  | some q =>
    show ((ns.set r _).getD q default).first=(ns.getD q default).first
    rw [AB,AB]
    by_cases e:r=q
    · subst e;rw [Aw (Aj.1 hr).1,hr]; rfl
    · rw [Az e]
 have hsub:∀ v q,q∈tG kids u p v→q∈kids v:=fun v q hq=>by
  unfold tG at hq;split at hq
  · rename_i e; rw [e]; exact DY hq
  · exact hq
 refine ⟨fun v hv=>?_,fun v hv=>?_,fun v w q hv hw h1 h2=>h.dj v w q hv hw (hsub v q h1) (hsub w q h2),fun q hq=>?_⟩
 · rw [hf];have hc:=h.ch v hv;unfold tG
   by_cases e:v=u
   · rw [Ao e,her];rw [e,hk] at hc;rw [e];exact hc.cut hp hr hnd
   · rw [Al e];refine hc.other (fun hm=>e ?_) _;exact h.dj v u r hv hu hm (by rw [hk]; simp)
 · unfold tG;split
   · exact (h.nd u hu).erase p
   · exact h.nd v hv
 · obtain ⟨n,hn⟩:=h.at' q hq
   by_cases e:r=q
   · subst e;exact ⟨_,Aw (Aj.1 hr).1⟩
   · exact ⟨n,by rw [Az e]; exact hn⟩
end Go.Fn
open List renaming mem_range → DT,range → By,set_set → Es
open Go Go.IL
namespace Go.Fn
theorem aBU{α:Type}[DecidableEq α]:∀ {l m:List α},l.Nodup→(∀ x∈l,x∈m)→l.length≤m.length
 | [],_,_,_=>CZ _
 | x::l,m,hn,hs=>by
   have hn:=Bl.1 hn;have hx:=hs x (by simp);have:=aBU (l:=l) (m:=m.erase x) hn.2 (fun y hy=>(Fe (by rintro rfl; exact hn.1 hy)).2 (hs y (by simp [hy])));rw [EB hx] at this;have:0<m.length:=DN hx;rw [AR]; omega
theorem aIh{l:List Nat}{n:Nat}(hn:l.Nodup)(h:∀ p∈l,p<n):l.length≤n:=by
 have:=aBU (m:=By n) hn (fun p hp=>DT.2 (h p hp))
 rwa [List.length_range] at this
theorem Lk.size{ns:List Nk}{first:Int}{hd:Ag Nat→Prop}{kids:Ag Nat→List Nat}(hlen:ns.length=64)(h:Lk ns first hd kids){u:Ag Nat}(hu:hd u):(kids u).length≤64 :=
 aIh (h.nd u hu) fun p hp=>by
  obtain ⟨n,hn⟩:=(h.ch u hu).mem p hp;have:=(Aj.1 hn).1;omega
theorem Lk.behead0{ns:List Nk}{first:Int}{hd:Ag Nat→Prop}{kids:Ag Nat→List Nat}(h:Lk ns first hd kids)(hu:hd none){p:Nat}{np:Nk}{l2:List Nat}(hk:kids none=p::l2)(hp:ns[p]? = some np):Lk ns np.next hd (tG kids none p):=by
 have her:(kids none).erase p=l2:=by rw [hk,Ec]
 have hsub:∀ v q,q∈tG kids none p v→q∈kids v:=fun v q hq=>by
  unfold tG at hq;split at hq
  · rename_i e; rw [e]; exact DY hq
  · exact hq
 refine ⟨fun v hv=>?_,fun v hv=>?_,fun v w q hv hw h1 h2=>h.dj v w q hv hw (hsub v q h1) (hsub w q h2),h.at'⟩
 · have hc:=h.ch v hv;unfold tG;cases v with
   | none =>
     rw [Ao rfl,her];rw [hk] at hc;obtain ⟨_,n,h2,h3⟩:=hc;rw [hp] at h2;injection h2 with h2
     rw [h2]; exact h3
   | some q=>rw [Al (by simp)]; exact hc
 · unfold tG;split
   · exact (h.nd none hu).erase p
   · exact h.nd v hv
theorem Lk.behead1{ns:List Nk}{first:Int}{hd:Ag Nat→Prop}{kids:Ag Nat→List Nat}(h:Lk ns first hd kids){q:Nat}(hu:hd (some q)){p:Nat}{np nq:Nk}{l2:List Nat}(hk:kids (some q)=p::l2)(hp:ns[p]? = some np)(hq:ns[q]? = some nq) :
 Lk (ns.set q { nq with first:=np.next }) first hd (tG kids (some q) p):=by
 have her:(kids (some q)).erase p=l2:=by rw [hk,Ec]
 have hlt:=(Aj.1 hq).1;have hsub:∀ v r,r∈tG kids (some q) p v→r∈kids v:=fun v r hr=>by
  unfold tG at hr;split at hr
  · rename_i e; rw [e]; exact DY hr
  · exact hr
 refine ⟨fun v hv=>?_,fun v hv=>?_,fun v w r hv hw h1 h2=>h.dj v w r hv hw (hsub v r h1) (hsub w r h2),fun r hr=>?_⟩
 · have hc:=h.ch v hv;unfold tG
   by_cases e:v=some q
   · subst e;rw [Ao rfl,her,pS (n:={ nq with first:=np.next }) (by rw [Aw hlt])];rw [hk] at hc;obtain ⟨_,n,h2,h3⟩:=hc;rw [hp] at h2;injection h2 with h2
     refine mD.keep hq (by rfl) ?_;rw [h2]; exact h3
   · rw [Al e];have hf:rR (ns.set q { nq with first:=np.next }) first v=rR ns first v:=by
      cases v with
      | none=>rfl
      | some r =>
        show ((ns.set q _).getD r default).first=(ns.getD r default).first
        rw [AB,AB,Az (fun h=>e (by rw [h]))]
     rw [hf];exact hc.keep hq (by rfl)
 · unfold tG;split
   · exact (h.nd (some q) hu).erase p
   · exact h.nd v hv
 · obtain ⟨n,hn⟩:=h.at' r hr
   by_cases e:q=r
   · subst e;exact ⟨_,Aw hlt⟩
   · exact ⟨n,by rw [Az e]; exact hn⟩
theorem aDP{ns:List Nk}{first:Int}{hd:Ag Nat→Prop}{kids:Ag Nat→List Nat}(hlen:ns.length=64)(h:Lk ns first hd kids){u:Ag Nat}(hu:hd u){p:Nat}{np:Nk}(hp:ns[p]? = some np)(hup:np.up=upI u)(hm:p∈kids u)(room keep:Int)(C:List AC)(F U:Int)(cl:List Int):∃ ns' first',jX (p:Int) room keep C F U ns first cl=some (room,keep,C,F,U,ns',first',cl)∧ns'.length=64∧Lk ns' first' hd (tG kids u p)∧∀ q,rS ns' q=rS ns q:=by
 have hsz:=h.size hlen hu;obtain ⟨l1,l2,hk,hn⟩:=aGa hm (h.nd u hu);have hc:=h.ch u hu;rw [hk] at hc;have hl1:l1.length≤64:=by rw [hk] at hsz; simp at hsz; omega
 unfold jX;rw [fM,hp,bnoS,chk,Ao hlen,As,hp,bnoS,bndD,hup];cases u with
 | none =>
   rw [show decide (upI none = -1)=true from rfl,bO,bndD];cases l1 with
   | nil =>
     obtain ⟨h1,_⟩:=hc;have h1:first=(p:Int):=h1;rw [Ae h1,AD,bJ,bnoS,bnoS];exact ⟨ns,np.next,rfl,hlen,h.behead0 hu hk hp,fun q=>rfl⟩
   | cons b l1 =>
     obtain ⟨h1,nb,h2,h3⟩:=hc;have h1:first=(b:Int):=h1;have hpb:p≠b:=fun e=>hn (by simp [e])
     rw [h1,Ad (show ¬(b:Int)=(p:Int) by omega),AL,bO,fM,h2,bnoS,As];obtain ⟨r,nr,g1,g2,g3⟩:=seek hlen (room:=room) (keep:=keep) (C:=C) (F:=F) (U:=U) (first:=(b:Int)) (cl:=cl) hp l1 b nb fuel h2 h3 (fun hm=>hn (by simp [hm])) (dK (by simp at hl1; omega));obtain ⟨m,hmm⟩:=aCN g1;refine ⟨ns.set r { nr with next:=np.next },(b:Int),g3,by rw [Bz]; exact hlen,?_,yF g2 (by rfl)⟩;rw [←h1];exact h.skip hu (m:=m) (l2:=l2) (by rw [hk,hmm]; simp) hp g2
 | some q =>
   obtain ⟨nq,hq⟩:=h.at' q hu;have hqi:decide (upI (some q) = -1)=false:=Ad (show ¬(q:Int) = -1 by omega);have hfq:rR ns first (some q)=nq.first:=pS hq;rw [hfq] at hc;rw [hqi,bJ,show upI (some q)=(q:Int) from rfl,fM,hq,bnoS,As,hq,bnoS,bndD];cases l1 with
   | nil =>
     obtain ⟨h1,_⟩:=hc;rw [Ae h1,AD,bJ,bnoS,bnoS,bnoS,bndD];exact ⟨_,first,rfl,by rw [Bz]; exact hlen,h.behead1 hu hk hp hq,yF hq (by rfl)⟩
   | cons b l1 =>
     obtain ⟨h1,nb,h2,h3⟩:=hc;have hpb:p≠b:=fun e=>hn (by simp [e])
     rw [h1,Ad (show ¬(b:Int)=(p:Int) by omega),AL,bO,bnoS,h1,fM,h2,bnoS,As];obtain ⟨r,nr,g1,g2,g3⟩:=seek1 hlen (room:=room) (keep:=keep) (C:=C) (F:=F) (U:=U) (first:=first) (cl:=cl) hp l1 b nb fuel h2 h3 (fun hm=>hn (by simp [hm])) (dK (by simp at hl1; omega));obtain ⟨m,hmm⟩:=aCN g1;exact ⟨ns.set r { nr with next:=np.next },first,g3,by rw [Bz]; exact hlen,h.skip hu (m:=m) (l2:=l2) (by rw [hk,hmm]; simp) hp g2,yF g2 (by rfl)⟩
def xJ(kids:Option Nat→List Nat)(u:Ag Nat)(p:Nat):Ag Nat→List Nat:=fun v=>if v=u then p::kids u else kids v
theorem aGw{ns:List Nk}{first:Int}{hd:Ag Nat→Prop}{kids:Ag Nat→List Nat}(h:Lk ns first hd kids){u:Ag Nat}(hu:hd u){p:Nat}(hp:∀ v,hd v→p ∉ kids v):∀ v w r,hd v→hd w→r∈xJ kids u p v→r∈xJ kids u p w→v=w:=by
 have key:∀ v r,r∈xJ kids u p v→(v=u∧r=p)∨r∈kids v:=fun v r hr=>by
  unfold xJ at hr;split at hr
  · rename_i e
    rcases Au.1 hr with hr | hr
    · exact .inl ⟨e,hr⟩
    · exact .inr (by rw [e]; exact hr)
  · exact .inr hr
 intro v w r hv hw h1 h2
 rcases key v r h1 with ⟨a1,a2⟩ | a
 · rcases key w r h2 with ⟨b1,b2⟩ | b
   · rw [a1,b1]
   · exact Ay (a2 ▸ b) (hp w hw)
 · rcases key w r h2 with ⟨b1,b2⟩ | b
   · exact Ay (b2 ▸ a) (hp v hv)
   · exact h.dj v w r hv hw a b
theorem aGv{ns:List Nk}{first:Int}{hd:Ag Nat→Prop}{kids:Ag Nat→List Nat}(h:Lk ns first hd kids){u:Ag Nat}(hu:hd u){p:Nat}(hp:∀ v,hd v→p ∉ kids v):∀ v,hd v→(xJ kids u p v).Nodup:=by
 intro v hv;unfold xJ;split
 · exact Bl.2 ⟨hp u hu,h.nd u hu⟩
 · exact h.nd v hv
def seenUp(ns ns':List Nk)(p:Nat)(u:Ag Nat):Prop:=(∀ q,q≠p→rS ns' q=rS ns q)∧∀ n,ns[p]? = some n→rS ns' p=some (n.id,upI u,n.weight,n.closed)
theorem aHc{ns:List Nk}{first:Int}{hd:Ag Nat→Prop}{kids:Ag Nat→List Nat}(hlen:ns.length=64)(h:Lk ns first hd kids){u:Ag Nat}(hu:hd u){p:Nat}{np:Nk}(hp:ns[p]? = some np)(hpk:∀ v,hd v→p ∉ kids v)(hpu:u≠some p)(room keep:Int)(C:List AC)(F U:Int)(cl:List Int):∃ ns' first',jJ (p:Int) (upI u) room keep C F U ns first cl=some (room,keep,C,F,U,ns',first',cl)∧ns'.length=64∧Lk ns' first' hd (xJ kids u p)∧seenUp ns ns' p u:=by
 have hlt:=(Aj.1 hp).1;unfold jJ;rw [bndD];cases u with
 | none =>
   rw [show decide (upI none = -1)=true from rfl,bO,chk,Ao hlen,fM,hp,bnoS,As,hp,bnoS,bndD,fM,Aw hlt,bnoS,bnoS,bndD,Es];refine ⟨_,_,rfl,by rw [Bz]; exact hlen,?_,?_⟩
   · have hoth:∀ (n:Nk) v,hd v→mD (ns.set p n) (rR ns first v) (kids v):=fun n v hv=>(h.ch v hv).other (hpk v hv) n
     refine ⟨fun v hv=>?_,aGv h hu hpk,aGw h hu hpk,fun q hq=>?_⟩
     · unfold xJ;cases v with
       | none =>
         rw [Ao rfl];exact ⟨rfl,_,Aw hlt,hoth _ none hv⟩
       | some q =>
         rw [Al (by simp)];have hf:rR (ns.set p (⟨np.id,upI none,np.first,first,np.weight,np.closed⟩:Nk)) (p:Int) (some q)=rR ns first (some q):=by
          show ((ns.set p _).getD q default).first=(ns.getD q default).first
          rw [AB,AB]
          by_cases e:p=q
          · subst e; rw [Aw hlt,hp]; rfl
          · rw [Az e]
         rw [hf];exact hoth _ (some q) hv
     · obtain ⟨n,hn⟩:=h.at' q hq
       by_cases e:p=q
       · subst e; exact ⟨_,Aw hlt⟩
       · exact ⟨n,by rw [Az e]; exact hn⟩
   · refine ⟨fun q hq=>?_,fun n hn=>?_⟩
     · unfold rS; rw [Az (fun e=>hq e.symm)]
     · rw [hp] at hn;injection hn with hn
       subst hn;unfold rS; rw [Aw hlt]; rfl
 | some q =>
   have hqp:q≠p:=fun e=>hpu (by rw [e])
   obtain ⟨nq,hq⟩:=h.at' q hu;have hltq:=(Aj.1 hq).1;have hq2:∀ n:Nk,(ns.set p n)[q]? = some nq:=fun n=>by rw [Az (fun e=>hqp e.symm)]; exact hq
   rw [Ad (show ¬upI (some q) = -1 from fun e=>by have:(q:Int) = -1:=e; omega),bJ,show upI (some q)=(q:Int) from rfl,fM,hq,bnoS,chk,Ao hlen,As,hq,bnoS,fM,hp,bnoS,As,hp,bnoS,bndD,fM,Aw hlt,bnoS,bnoS,bndD,Es,hq2,bnoS,bndD];refine ⟨_,_,rfl,by rw [Bz,Bz]; exact hlen,?_,?_⟩
   · refine ⟨fun v hv=>?_,aGv h hu hpk,aGw h hu hpk,fun r hr=>?_⟩
     · have hc:∀ (n:Nk),mD (ns.set p n) (rR ns first v) (kids v):=fun n=>(h.ch v hv).other (hpk v hv) n
       unfold xJ
       by_cases e:v=some q
       · subst e;rw [Ao rfl,pS (Aw (by rw [Bz]; exact hltq))];refine ⟨rfl,_,by rw [Az hqp,Aw hlt],?_⟩;refine mD.keep (hq2 _) (by rfl) ?_;have:=hc (⟨np.id,(q:Int),np.first,nq.first,np.weight,np.closed⟩:Nk);rw [pS hq] at this;exact this
       · rw [Al e];have hf:rR ((ns.set p (⟨np.id,(q:Int),np.first,nq.first,np.weight,np.closed⟩:Nk)).set q (⟨nq.id,nq.up,(p:Int),nq.next,nq.weight,nq.closed⟩:Nk)) first v=rR ns first v:=by
          cases v with
          | none=>rfl
          | some r =>
            have hqr:q≠r:=fun h=>e (by rw [h])
            show (((ns.set p _).set q _).getD r default).first=(ns.getD r default).first
            rw [AB,AB,Az hqr]
            by_cases e2:p=r
            · subst e2; rw [Aw hlt,hp]; rfl
            · rw [Az e2]
         rw [hf];exact mD.keep (hq2 _) (by rfl) (hc _)
     · obtain ⟨n,hn⟩:=h.at' r hr
       by_cases e:q=r
       · subst e; exact ⟨_,Aw (by rw [Bz]; exact hltq)⟩
       · rw [Az e]
         by_cases e2:p=r
         · subst e2; exact ⟨_,Aw hlt⟩
         · exact ⟨n,by rw [Az e2]; exact hn⟩
   · refine ⟨fun r hr=>?_,fun n hn=>?_⟩
     · rw [yF (hq2 _) (by rfl)];unfold rS; rw [Az (fun e=>hr e.symm)]
     · rw [hp] at hn;injection hn with hn
       subst hn;rw [yF (hq2 _) (by rfl)];unfold rS; rw [Aw hlt]; rfl
end Go.Fn
open List renaming eq_nil_iff_forall_not_mem → CE
open Nat renaming le_trans → BG
open _root_ renaming congrArg → AH
open Go Go.IL
namespace Go.Fn
def jD(A:AS)(p:Nat):Prop:=∃ c,A.Cells[p]? = some c∧c.ah=true
def hdK(A:AS):Option Nat→Prop
 | none=>True
 | some p=>jD A p
def idP(ns:List Nk)(p:Nat):Int:=(ns.getD p default).id
def idU(ns:List Nk):Ag Nat→Int
 | none=>0
 | some p=>idP ns p
def asN(ns:List Nk)(n:Nk)(u:Ag Nat):Nd:=⟨n.id,idU ns u,n.weight,n.closed⟩
structure RL (A:AS) (sp:List Nat) (ns:List Nk) (first:Int) (kids:Ag Nat→List Nat) (N:List Nd):Prop where
 ga:aAn A sp
 len:ns.length=64
 lk:Lk ns first (hdK A) kids
 up:∀ p,jD A p→∃ u n,hdK A u∧ns[p]? = some n∧n.up=upI u∧p∈kids u∧asN ns n u∈N
 kid:∀ u p,hdK A u→p∈kids u→jD A p
 bw:∀ m∈N,∃ p n u,jD A p∧hdK A u∧ns[p]? = some n∧n.up=upI u∧m=asN ns n u
 inj:∀ p q,jD A p→jD A q→idP ns p=idP ns q→p=q
 so:N.Pairwise (fun a b=>a.ID<b.ID)
theorem aD9{u v:Ag Nat}(h:upI u=upI v):u=v:=by
 cases u with
 | none=>cases v with
   | none=>rfl
   | some q=>have:(-1:Int)=(q:Int):=h; omega
 | some p=>cases v with
   | none=>have:(p:Int) = -1:=h; omega
   | some q=>have:(p:Int)=(q:Int):=h; congr 1; omega
theorem dW{ns:List Nk}{p:Nat}{n:Nk}(h:ns[p]? = some n):idP ns p=n.id:=by
 unfold idP;rw [AB,h]; rfl
theorem sE{ns ns':List Nk}{q:Nat}(h:rS ns' q=rS ns q){n:Nk}(hn:ns[q]? = some n):∃ n',ns'[q]? = some n'∧aCb n'=aCb n:=by
 unfold rS at h;rw [hn] at h;cases h2:ns'[q]? with
 | none=>rw [h2] at h; cases h
 | some n'=>rw [h2] at h; injection h with h; exact ⟨n',rfl,h⟩
theorem aGT{ns ns':List Nk}{q:Nat}(h:rS ns' q=rS ns q)(hn:ns[q]? = none):ns'[q]? = none:=by
 unfold rS at h;rw [hn] at h;cases h2:ns'[q]? with
 | none=>rfl
 | some n'=>rw [h2] at h; cases h
theorem aCa{ns ns':List Nk}{q:Nat}(h:rS ns' q=rS ns q):idP ns' q=idP ns q:=by
 cases hn:ns[q]? with
 | none =>
   have:=aGT h hn;unfold idP;rw [AB,AB,hn,this]
 | some n =>
   obtain ⟨n',h1,h2⟩:=sE h hn;rw [dW h1,dW hn];exact AH (·.1) h2
theorem uX{n n':Nk}(h:aCb n'=aCb n):n'.id=n.id∧n'.up=n.up∧n'.weight=n.weight∧n'.closed=n.closed :=
 ⟨AH (·.1) h,AH (·.2.1) h,AH (·.2.2.1) h,AH (·.2.2.2) h⟩
theorem aIn{kids:Option Nat→List Nat}{u0 u:Ag Nat}{p:Nat}(hnd:(kids u0).Nodup)(hp:∀ v,p∈kids v→v=u0)(v:Ag Nat)(q:Nat):q∈xJ (tG kids u0 p) u p v↔(q=p∧v=u)∨(q≠p∧q∈kids v):=by
 have hdrop:∀ v,q∈tG kids u0 p v↔(q≠p∧q∈kids v):=fun v=>by
  unfold tG
  by_cases e:v=u0
  · rw [Ao e,hnd.mem_erase_iff,e]
  · rw [Al e];exact ⟨fun h=>⟨fun e2=>e (hp v (e2 ▸ h)),h⟩,fun h=>h.2⟩
 unfold xJ
 by_cases e:v=u
 · rw [Ao e,Au,hdrop u,e];constructor
   · rintro (h | h)
     · exact .inl ⟨h,rfl⟩
     · exact .inr h
   · rintro (h | h)
     · exact .inl h.1
     · exact .inr h
 · rw [Al e,hdrop v];constructor
   · exact fun h=>.inr h
   · rintro (h | h)
     · exact Ay h.2 e
     · exact h
theorem RL.par{A:AS}{sp:List Nat}{ns:List Nk}{first:Int}{kids:Ag Nat→List Nat}{N:List Nd}(h:RL A sp ns first kids N){p:Nat}(hp:jD A p):∃ u n,hdK A u∧ns[p]? = some n∧n.up=upI u∧p∈kids u∧asN ns n u∈N∧∀ v,hdK A v→p∈kids v→v=u:=by
 obtain ⟨u,n,h1,h2,h3,h4,h5⟩:=h.up p hp;exact ⟨u,n,h1,h2,h3,h4,h5,fun v hv hm=>h.lk.dj v u p hv h1 hm h4⟩
theorem aBX{A:AS}{sp:List Nat}{ns:List Nk}{first:Int}{kids:Ag Nat→List Nat}{N:List Nd}(h:RL A sp ns first kids N)(hk0:∀ u,¬hdK A u→kids u=[]){p:Nat}(hp:jD A p){u:Ag Nat}(hu:hdK A u)(hpu:u≠some p)(room keep:Int)(cl:List Int) :
 ∃ ns' first' kids',fP (p:Int) (upI u) room keep A.Cells A.Free A.Used ns first cl=some (room,keep,A.Cells,A.Free,A.Used,ns',first',cl)∧RL A sp ns' first' kids' (N.map (mvN (idP ns p) (idU ns u)))∧(∀ u,¬hdK A u→kids' u=[])∧(∀ q,idP ns' q=idP ns q)∧(∀ v q,q∈kids' v↔(q=p∧v=u)∨(q≠p∧q∈kids v)):=by
 obtain ⟨u0,np,a1,a2,a3,a4,a5,a6⟩:=h.par hp;obtain ⟨ns1,first1,b1,b2,b3,b4⟩:=aDP h.len h.lk a1 a2 a3 a4 room keep A.Cells A.Free A.Used cl;obtain ⟨np1,c1,c2⟩:=sE (b4 p) a2;have hnd:=h.lk.nd u0 a1;have hpk:∀ v,p∈kids v→v=u0:=fun v hm=>by
  by_cases hv:hdK A v
  · exact a6 v hv hm
  · rw [hk0 v hv] at hm; cases hm
 have hpd:∀ v,hdK A v→p ∉ tG kids u0 p v:=fun v hv hm=>by
  unfold tG at hm;split at hm
  · exact (hnd.mem_erase_iff.1 hm).1 rfl
  · rename_i e; exact e (hpk v hm)
 obtain ⟨ns2,first2,d1,d2,d3,d4,d5⟩:=aHc b2 b3 hu c1 hpd hpu room keep A.Cells A.Free A.Used cl;have hmem:=fun v q=>aIn (u:=u) hnd hpk v q
 have hv2:∀ q,q≠p→rS ns2 q=rS ns q:=fun q hq=>(d4 q hq).trans (b4 q)
 obtain ⟨e1,e2,e3,e4⟩:=uX c2;have hvp:∃ n2,ns2[p]? = some n2∧n2.id=np.id∧n2.up=upI u∧n2.weight=np.weight∧n2.closed=np.closed:=by
  have:=d5 np1 c1;unfold rS at this;cases h2:ns2[p]? with
  | none=>rw [h2] at this; cases this
  | some n2 =>
    rw [h2] at this;injection this with this
    refine ⟨n2,rfl,?_,?_,?_,?_⟩
    · rw [←e1]; exact AH (·.1) this
    · exact AH (·.2.1) this
    · rw [←e3]; exact AH (·.2.2.1) this
    · rw [←e4]; exact AH (·.2.2.2) this
 obtain ⟨n2,f1,f2,f3,f4,f5⟩:=hvp;have hid:∀ q,idP ns2 q=idP ns q:=fun q=>by
  by_cases hq:q=p
  · subst hq; rw [dW f1,dW a2,f2]
  · exact aCa (hv2 q hq)
 have hidU:∀ v,idU ns2 v=idU ns v:=fun v=>by
  cases v with
  | none=>rfl
  | some q=>exact hid q
 have hidp:idP ns p=np.id:=dW a2;refine ⟨ns2,first2,_,?_,?_,?_,hid,hmem⟩
 · unfold fP;rw [b1,bnoS]
   show (bno (jJ (p:Int) (upI u) room keep A.Cells A.Free A.Used ns1 first1 cl) _)=_
   rw [d1,bnoS]
 · refine ⟨h.ga,d2,d3,fun q hq=>?_,fun v q hv hm=>?_,fun m hm=>?_,fun q r hq hr e=>h.inj q r hq hr (by rw [←hid q,←hid r]; exact e),?_⟩
   · by_cases hqp:q=p
     · subst hqp;refine ⟨u,n2,hu,f1,f3,(hmem u q).2 (.inl ⟨rfl,rfl⟩),?_⟩;refine Ak.2 ⟨asN ns np u0,a5,?_⟩;unfold mvN asN;rw [Ao (show np.id=idP ns q from hidp.symm),f2,f4,f5,hidU]
     · obtain ⟨v,n,g1,g2,g3,g4,g5⟩:=h.up q hq;obtain ⟨n',k1,k2⟩:=sE (hv2 q hqp) g2;obtain ⟨k3,k4,k5,k6⟩:=uX k2;refine ⟨v,n',g1,k1,k4.trans g3,(hmem v q).2 (.inr ⟨hqp,g4⟩),?_⟩;refine Ak.2 ⟨asN ns n v,g5,?_⟩;have hne:n.id≠idP ns p:=fun e=>hqp (h.inj q p hq hp (by rw [dW g2]; exact e))
       unfold mvN asN;rw [Al hne,k3,k5,k6,hidU]
   · rcases (hmem v q).1 hm with ⟨rfl,_⟩ | ⟨_,hm⟩
     · exact hp
     · exact h.kid v q hv hm
   · obtain ⟨m0,hm0,rfl⟩:=Ak.1 hm;obtain ⟨q,n,v,g1,g2,g3,g4,rfl⟩:=h.bw m0 hm0
     by_cases hqp:q=p
     · subst hqp;rw [a2] at g3;injection g3 with g3
       subst g3;refine ⟨q,n2,u,hp,hu,f1,f3,?_⟩;unfold mvN asN;rw [Ao (show np.id=idP ns q from hidp.symm),f2,f4,f5,hidU]
     · obtain ⟨n',k1,k2⟩:=sE (hv2 q hqp) g3;obtain ⟨k3,k4,k5,k6⟩:=uX k2;have hne:n.id≠idP ns p:=fun e=>hqp (h.inj q p g1 hp (by rw [dW g3]; exact e))
       refine ⟨q,n',v,g1,g2,k1,k4.trans g4,?_⟩;unfold mvN asN;rw [Al hne,k3,k5,k6,hidU]
   · rw [Bi];refine h.so.imp fun hab=>?_
     rw [oK,oK]; exact hab
 · intro v hv;refine CE.2 fun q hm=>?_
   rcases (hmem v q).1 hm with ⟨_,rfl⟩ | ⟨_,hm⟩
   · exact hv hu
   · rw [hk0 v hv] at hm; cases hm
theorem find_L{ns:List Nk}(hlen:ns.length=64)(id:Int){l:List Nat}(hl:l.length≤64)(hs:∀ p∈l,∃ n,ns[p]? = some n)(r:List Nat):∀ (q:List Nat) (f:Nat),l=q++r→r.length<f→iH id ns (toI l) f (q.length:Int)=some (match r.find? (fun p=>decide (idP ns p=id)) with | some p=>(p:Int) | none=>-1):=by
 induction r with
 | nil =>
   intro q f h hf;obtain ⟨f,rfl⟩:∃ g,f=g+1:=⟨f-1,by simp at hf; omega⟩;rw [Ax] at h;rw [iH,bndD,show (toI l).length=q.length by unfold toI; rw [An,h],Ad (by omega),bJ]; rfl
 | cons p r ih =>
   intro q f h hf;obtain ⟨f,rfl⟩:∃ g,f=g+1:=⟨f-1,by simp at hf; omega⟩;obtain ⟨n,hn⟩:=hs p (by rw [h]; simp);have hI:toI l=toI q++(p:Int)::toI r:=by rw [h]; unfold toI; simp
   have hql:(toI q).length=q.length:=by unfold toI; simp
   have hll:(toI l).length=l.length:=by unfold toI; simp
   have e1:=lJ hI;have e2:=dL hI;have e3:=w_at hI (by omega);rw [hql] at e1 e2 e3;rw [iH,bndD,e1,bO,e2,bnoS,fM,hn,bnoS,chk,Ao hlen,As,hn,bnoS,bndD,List.find?_cons,dW hn]
   by_cases hid:n.id=id
   · rw [Ae hid,bO]
   · rw [Ad hid,bJ,bndD,e3];have:=ih (q++[p]) f (by rw [h]; simp) (by simpa using hf);rw [show ((toI q++[(p:Int)]).length:Int)=((q++[p]).length:Int) by simp [hql]];exact this
theorem rM{A:AS}{p:Nat}:jD A p↔p∈qP A.Cells 0:=by
 rw [aBa];simp [jD]
theorem aHq{A:AS}{sp:List Nat}{ns:List Nk}{first:Int}{kids:Ag Nat→List Nat}{N:List Nd}(h:RL A sp ns first kids N)(id:Int)(room keep:Int)(cl:List Int) :
 (∃ p,jD A p∧idP ns p=id∧dZ id room keep A.Cells A.Free A.Used ns first cl=some (p:Int))∨((∀ p,jD A p→idP ns p≠id)∧dZ id room keep A.Cells A.Free A.Used ns first cl=some (-1)):=by
 have hlive:=aHD h.ga;have hll:(qP A.Cells 0).length≤64:=by rw [zA]; exact BG Dl h.ga.len
 have hf:=find_L h.len id hll (fun p hp=>by obtain ⟨u,n,_,h2,_⟩:=h.up p (rM.2 hp); exact ⟨n,h2⟩) (qP A.Cells 0) [] fuel rfl (dK (by omega));have hfind:dZ id room keep A.Cells A.Free A.Used ns first cl=some (match (qP A.Cells 0).find? (fun p=>decide (idP ns p=id)) with | some p=>(p:Int) | none=>-1):=by
  unfold dZ;have hA:(⟨A.Cells,A.Free,A.Used⟩:AS)=A:=rfl;rw [hA,hlive,bnoS];exact hf
 rw [hfind];cases hc:(qP A.Cells 0).find? (fun p=>decide (idP ns p=id)) with
 | none =>
   right;refine ⟨fun p hp e=>?_,rfl⟩;have:=Cc.1 hc p (rM.1 hp);exact this (Ae e)
 | some p =>
   left;have h1:=Dt hc;have h2:=ET hc;exact ⟨p,rM.2 h1,of_decide_eq_true h2,rfl⟩
def Up(ns:List Nk):Nat→List Nat→Prop
 | p,[]=>∃ n,ns[p]? = some n∧n.up = -1
 | p,q::l=>(∃ n,ns[p]? = some n∧n.up=(q:Int))∧Up ns q l
theorem aGV{ns:List Nk}(hlen:ns.length=64)(t:Nat):∀ (l:List Nat) (p f:Nat),Up ns p l→l.length+1<f→fR (t:Int) ns f (p:Int)=some (decide (t∈l))
 | [],p,f+2,⟨n,h1,h2⟩,_=>by
   rw [fR,bndD,Ad (by omega),AL,bO,fM,h1,bnoS,chk,Ao hlen,As,h1,bnoS,bndD,h2,Ad (by omega),bJ];rw [fR,bndD,Ae rfl]
   simp
 | q :: l,p,f+1,⟨⟨n,h1,h2⟩,h3⟩,hf=>by
   rw [fR,bndD,Ad (by omega),AL,bO,fM,h1,bnoS,chk,Ao hlen,As,h1,bnoS,bndD,h2]
   by_cases e:q=t
   · rw [Ae (by omega),bO,Ae (by simp [e])]
   · rw [Ad (by omega),bJ,aGV hlen t l q f h3 (by simpa using hf)]
     congr 1
     simp [Au,Ne.symm e]
end Go.Fn
open Nat renaming lt_succ_self → Ah
open Go Go.IL
namespace Go.Fn
theorem aG3{A:AS}{sp:List Nat}{ns:List Nk}{first:Int}{kids:Ag Nat→List Nat}{N:List Nd}(h:RL A sp ns first kids N){p:Nat}(hp:jD A p){n:Nk}(hn:ns[p]? = some n):∃ u,hdK A u∧n.up=upI u∧p∈kids u∧asN ns n u∈N:=by
 obtain ⟨u,m,h1,h2,h3,h4,h5⟩:=h.up p hp;rw [hn] at h2;injection h2 with h2
 subst h2;exact ⟨u,h1,h3,h4,h5⟩
theorem aAv{A:AS}{sp:List Nat}{ns:List Nk}{first:Int}{kids:Ag Nat→List Nat}{N:List Nd}(h:RL A sp ns first kids N)(hpos:∀ m∈N,1≤m.ID){u:Ag Nat}(hu:hdK A u):idU ns u=0↔u=none:=by
 cases u with
 | none=>exact ⟨fun _=>rfl,fun _=>rfl⟩
 | some p =>
   obtain ⟨v,n,h1,h2,h3,h4,h5⟩:=h.up p hu;have:=hpos _ h5;have hi:idU ns (some p)=n.id:=dW h2;exact ⟨fun e=>by have:1≤n.id:=this; omega,fun e=>by cases e⟩
theorem aBN{A:AS}{sp:List Nat}{ns:List Nk}{first:Int}{kids:Ag Nat→List Nat}{N:List Nd}(h:RL A sp ns first kids N){p:Nat}(hp:jD A p){n:Nk}(hn:ns[p]? = some n){u:Ag Nat}(hu:n.up=upI u):tD N (idP ns p)=some (idU ns u):=by
 obtain ⟨v,h1,h2,h3,h4⟩:=aG3 h hp hn;have hv:v=u:=aD9 (h2.symm.trans hu);subst hv;have:=yM h.so h4;rw [dW hn];exact this
theorem up_ok{A:AS}{sp:List Nat}{ns:List Nk}{first:Int}{kids:Ag Nat→List Nat}{N:List Nd}(h:RL A sp ns first kids N)(hpos:∀ m∈N,1≤m.ID){r:Int→Nat}(hr:∀ m∈N,m.aa≠0→r m.aa<r m.ID):∀ (k p:Nat),jD A p→r (idP ns p)≤k→∃ l,Up ns p l∧(∀ q∈l,jD A q)∧l.length≤k∧∀ j,l.length<j→fL N j (idP ns p)=l.map (idP ns)
 | k, p,hp,hk=>by
   obtain ⟨u,n,h1,h2,h3,h4,h5⟩:=h.up p hp;have hpar:=aBN h hp h2 h3;cases u with
   | none =>
     refine ⟨[],⟨n,h2,h3⟩,by simp,CZ _,fun j hj=>?_⟩;obtain ⟨j,rfl⟩:∃ i,j=i+1:=⟨j-1,by simp at hj; omega⟩
     show (match tD N (idP ns p) with | some q=>if q=0 then [] else q::fL N j q | none=>[])=_
     rw [hpar]; rfl
   | some q =>
     have hne:idU ns (some q)≠0:=fun e=>by have:=(aAv h hpos h1).1 e; cases this
     have hlt:r (idP ns q)<r (idP ns p):=by
      have:=hr _ h5 hne;rw [dW h2];exact this
     obtain ⟨k,rfl⟩:∃ i,k=i+1:=⟨k-1,by omega⟩;obtain ⟨l,g1,g2,g3,g4⟩:=up_ok h hpos hr k q h1 (by omega);refine ⟨q::l,⟨⟨n,h2,h3⟩,g1⟩,fun x hx=>?_,by simpa using g3,fun j hj=>?_⟩
     · rcases Au.1 hx with rfl | hx
       · exact h1
       · exact g2 x hx
     · obtain ⟨j,rfl⟩:∃ i,j=i+1:=⟨j-1,by simp at hj; omega⟩
       show (match tD N (idP ns p) with | some q=>if q=0 then [] else q::fL N j q | none=>[])=_
       rw [hpar]
       show (if idU ns (some q)=0 then [] else idU ns (some q)::fL N j (idU ns (some q)))=_
       rw [Al hne]
       show idP ns q::fL N j (idP ns q)=idP ns q::l.map (idP ns)
       rw [g4 j (by simpa using hj)]
theorem aEq{A:AS}{sp:List Nat}{ns:List Nk}{first:Int}{kids:Ag Nat→List Nat}{N:List Nd}(h:RL A sp ns first kids N)(hpos:∀ m∈N,1≤m.ID){r:Int→Nat}(hr:∀ m∈N,m.aa≠0→r m.aa<r m.ID)(hpa:∀ m∈N,m.aa=0∨∃ x∈N,x.ID=m.aa){p:Nat}(hp:jD A p):∃ l,Up ns p l∧(∀ q∈l,jD A q)∧l.length<N.length∧fL N N.length (idP ns p)=l.map (idP ns):=by
 obtain ⟨l,h1,h2,h3,h4⟩:=up_ok h hpos hr (r (idP ns p)) p hp (AP _);obtain ⟨u,n,_,g2,_,_,g5⟩:=h.up p hp;have hid:idP ns p=n.id:=dW g2;have hmem:∃ m∈N,m.ID=idP ns p:=⟨_,g5,hid.symm⟩;have hj:=h4 (l.length+1) (Ah _);have hps:=qU h.so hr hpa (l.length+1) (idP ns p) hmem;have hnd:=hps.1;have hin:=hps.2;rw [hj] at hnd hin;have hle:(idP ns p::l.map (idP ns)).length≤(N.map (·.ID)).length:=aBU hnd (fun x hx=>hin x hx);simp at hle;exact ⟨l,h1,h2,by omega,h4 N.length (by omega)⟩
theorem mem_ids{A:AS}{sp:List Nat}{ns:List Nk}{first:Int}{kids:Ag Nat→List Nat}{N:List Nd}(h:RL A sp ns first kids N){l:List Nat}(hl:∀ q∈l,jD A q){p:Nat}(hp:jD A p):p∈l↔idP ns p∈l.map (idP ns):=by
 rw [Ak];exact ⟨fun hm=>⟨p,hm,rfl⟩,fun ⟨q,hq,e⟩=>by rw [←h.inj q p (hl q hq) hp e]; exact hq⟩
theorem aIQ{A:AS}{sp:List Nat}{ns:List Nk}{first:Int}{kids:Ag Nat→List Nat}{N:List Nd}(h:RL A sp ns first kids N)(hpos:∀ m∈N,1≤m.ID)(hN:N.length≤64){r:Int→Nat}(hr:∀ m∈N,m.aa≠0→r m.aa<r m.ID)(hpa:∀ m∈N,m.aa=0∨∃ x∈N,x.ID=m.aa){p t:Nat}(hp:jD A p)(ht:jD A t)(room keep:Int)(C:List AC)(F U:Int)(cl:List Int) :
 nN (p:Int) (t:Int) room keep C F U ns first cl=some (decide (idP ns t∈fL N N.length (idP ns p))):=by
 obtain ⟨l,h1,h2,h3,h4⟩:=aEq h hpos hr hpa hp;unfold nN;rw [aGV h.len t l p fuel h1 (dK (by omega)),h4]
 congr 1
 exact decide_eq_decide.2 (mem_ids h h2 ht)
def setN(id w:Int)(c:Bool)(n:Nd):Nd:=if n.ID=id then ⟨n.ID,n.aa,w,c⟩ else n
theorem uZ(id w:Int)(c:Bool)(n:Nd):(setN id w c n).ID=n.ID:=by unfold setN; split <;> rfl
theorem aGe{A:AS}{sp:List Nat}{ns:List Nk}{first:Int}{kids:Ag Nat→List Nat}{N:List Nd}(h:RL A sp ns first kids N){p:Nat}(hp:jD A p){n:Nk}(hn:ns[p]? = some n)(w:Int)(c:Bool) :
 RL A sp (ns.set p (⟨n.id,n.up,n.first,n.next,w,c⟩:Nk)) first kids (N.map (setN (idP ns p) w c))∧∀ q,idP (ns.set p (⟨n.id,n.up,n.first,n.next,w,c⟩:Nk)) q=idP ns q:=by
 have hlt:=(Aj.1 hn).1;have hid:∀ q,idP (ns.set p (⟨n.id,n.up,n.first,n.next,w,c⟩:Nk)) q=idP ns q:=fun q=>by
  by_cases e:p=q
  · subst e; rw [dW (Aw hlt),dW hn]
  · unfold idP; rw [AB,AB,Az e]
 have hidU:∀ v,idU (ns.set p (⟨n.id,n.up,n.first,n.next,w,c⟩:Nk)) v=idU ns v:=fun v=>by
  cases v with
  | none=>rfl
  | some q=>exact hid q
 have hfst:∀ v,rR (ns.set p (⟨n.id,n.up,n.first,n.next,w,c⟩:Nk)) first v=rR ns first v:=fun v=>by
  cases v with
  | none=>rfl
  | some q =>
    show ((ns.set p _).getD q default).first=(ns.getD q default).first
    rw [AB,AB]
    by_cases e:p=q
    · subst e; rw [Aw hlt,hn]; rfl
    · rw [Az e]
 refine ⟨⟨h.ga,by rw [Bz]; exact h.len,⟨fun v hv=>?_,h.lk.nd,h.lk.dj,fun q hq=>?_⟩,fun q hq=>?_,h.kid,fun m hm=>?_,fun q r hq hr e=>h.inj q r hq hr (by rw [←hid q,←hid r]; exact e),?_⟩,hid⟩
 · rw [hfst];exact mD.keep hn (by rfl) (h.lk.ch v hv)
 · obtain ⟨m,hm⟩:=h.lk.at' q hq
   by_cases e:p=q
   · subst e; exact ⟨_,Aw hlt⟩
   · exact ⟨m,by rw [Az e]; exact hm⟩
 · obtain ⟨u,m,h1,h2,h3,h4,h5⟩:=h.up q hq
   by_cases e:p=q
   · subst e;rw [hn] at h2;injection h2 with h2
     subst h2;refine ⟨u,_,h1,Aw hlt,h3,h4,Ak.2 ⟨_,h5,?_⟩⟩;unfold setN asN;rw [Ao (show n.id=idP ns p from (dW hn).symm),hidU]
   · refine ⟨u,m,h1,by rw [Az e]; exact h2,h3,h4,Ak.2 ⟨_,h5,?_⟩⟩;have hne:m.id≠idP ns p:=fun e2=>e (h.inj p q hp hq (by rw [dW h2]; exact e2.symm))
     unfold setN asN;rw [Al hne,hidU]
 · obtain ⟨m0,hm0,rfl⟩:=Ak.1 hm;obtain ⟨q,k,u,g1,g2,g3,g4,rfl⟩:=h.bw m0 hm0
   by_cases e:p=q
   · subst e;rw [hn] at g3;injection g3 with g3
     subst g3;refine ⟨p,_,u,g1,g2,Aw hlt,g4,?_⟩;unfold setN asN;rw [Ao (show n.id=idP ns p from (dW hn).symm),hidU]
   · refine ⟨q,k,u,g1,g2,by rw [Az e]; exact g3,g4,?_⟩;have hne:k.id≠idP ns p:=fun e2=>e (h.inj p q hp g1 (by rw [dW g3]; exact e2.symm))
     unfold setN asN;rw [Al hne,hidU]
 · rw [Bi];refine h.so.imp fun hab=>?_
   rw [uZ,uZ]; exact hab
end Go.Fn
open List renaming filter_nil → EV,map_congr_left → AF,map_cons → Ai,map_id → CH,map_map → BM,map_nil → Aq
open Go Go.IL
namespace Go.Fn
abbrev PT:=Int×Int×List aK×Int×Int×List aJ×Int×List Int
theorem coll2{ns:List Nk}(x:Int)(T:PT)(r:List Nat):∀ (acc:List Nat) (a:Int) (f:Nat),mD ns a r→acc.length+r.length≤1000→r.length<f→gP x T ns f a (toI acc)=fF x (toI (acc++r)) fuel 0 T.1 T.2.1 T.2.2.1 T.2.2.2.1 T.2.2.2.2.1 ns T.2.2.2.2.2.2.1 T.2.2.2.2.2.2.2:=by
 induction r with
 | nil =>
   intro acc a f h _ hf;obtain ⟨f,rfl⟩:∃ g,f=g+1:=⟨f-1,by simp at hf; omega⟩;have h:a = -1:=h;rw [gP,bndD,h,Ae rfl,AD,bJ,Ax]
 | cons p r ih =>
   intro acc a f h ha hf;obtain ⟨f,rfl⟩:∃ g,f=g+1:=⟨f-1,by simp at hf; omega⟩;obtain ⟨h1,n,h2,h3⟩:=h;simp at ha;have hal:(toI acc).length=acc.length:=by unfold toI; simp
   rw [gP,bndD,h1,Ad (by omega),AL,bO,fM,h2,bnoS,As,h2,bnoS,kI (by simp; omega) (by simp; omega),bnoS];have:=ih (acc++[p]) n.next f h3 (by simp; omega) (by simpa using hf);rw [show toI (acc++[p])=toI acc++[(p:Int)] by unfold toI; simp] at this;rw [this,AA]; rfl
theorem coll4{ns:List Nk}(x:Int)(T:PT)(r:List Nat):∀ (acc:List Nat) (a:Int) (f:Nat),mD ns a r→acc.length+r.length≤1000→r.length<f→gO x T ns f a (toI acc)=fE x (toI (acc++r)) fuel 0 T.1 T.2.1 T.2.2.1 T.2.2.2.1 T.2.2.2.2.1 ns T.2.2.2.2.2.2.1 T.2.2.2.2.2.2.2:=by
 induction r with
 | nil =>
   intro acc a f h _ hf;obtain ⟨f,rfl⟩:∃ g,f=g+1:=⟨f-1,by simp at hf; omega⟩;have h:a = -1:=h;rw [gO,bndD,h,Ae rfl,AD,bJ,Ax]
 | cons p r ih =>
   intro acc a f h ha hf;obtain ⟨f,rfl⟩:∃ g,f=g+1:=⟨f-1,by simp at hf; omega⟩;obtain ⟨h1,n,h2,h3⟩:=h;simp at ha;have hal:(toI acc).length=acc.length:=by unfold toI; simp
   rw [gO,bndD,h1,Ad (by omega),AL,bO,fM,h2,bnoS,As,h2,bnoS,kI (by simp; omega) (by simp; omega),bnoS];have:=ih (acc++[p]) n.next f h3 (by simp; omega) (by simpa using hf);rw [show toI (acc++[p])=toI acc++[(p:Int)] by unfold toI; simp] at this;rw [this,AA]; rfl
def aAG(ids:List Int)(d:Int)(n:Nd):Nd:=if n.ID∈ids then ⟨n.ID,d,n.ae,n.af⟩ else n
theorem aCx(d:Int)(N:List Nd):N.map (aAG [] d)=N:=by
 conv=>rhs; rw [←CH N]
 exact AF fun n _=>by unfold aAG; rw [Al (by simp)]; rfl
theorem aDh(a d:Int)(ids:List Int)(N:List Nd):(N.map (mvN a d)).map (aAG ids d)=N.map (aAG (a::ids) d):=by
 rw [BM];refine AF fun n _=>?_
 show aAG ids d (mvN a d n)=aAG (a::ids) d n
 unfold aAG;rw [oK];unfold mvN
 by_cases h1:n.ID=a
 · rw [Ao h1,Ao (show n.ID∈a::ids by simp [h1])];split <;> rfl
 · rw [Al h1]
   by_cases h2:n.ID∈ids
   · rw [Ao h2,Ao (show n.ID∈a::ids by simp [h2])]
   · rw [Al h2,Al (by simp [h1,h2])]
theorem gixI{l:List Nat}{q r:List Nat}{p:Nat}(h:l=q++p::r)(hl:l.length≤1000):decide ((q.length:Int)<((toI l).length:Int))=true∧gix (toI l) (q.length:Int)=some (p:Int)∧(toI l)[((q.length:Nat):Int).toNat]? = some (p:Int)∧Af .i64 ((q.length:Int)+1)=((q++[p]).length:Int):=by
 have hI:toI l=toI q++(p:Int)::toI r:=by rw [h]; unfold toI; simp
 have hql:(toI q).length=q.length:=by unfold toI; simp
 have hll:(toI l).length=l.length:=by unfold toI; simp
 have e1:=lJ hI;have e2:=dL hI;rw [hql] at e1 e2;have hpl:q.length≤1000:=by rw [h] at hl; simp at hl; omega
 exact ⟨e1,e2,by rw [fM] at e2; rw [As]; exact e2,by rw [w64 (by omega) (by omega)]; simp⟩
theorem moves3{A:AS}{sp:List Nat}{x:Nat}(hx:jD A x)(room keep:Int)(cl:List Int){ks:List Nat}(hks:ks.length≤1000)(hal:∀ p∈ks,jD A p)(r:List Nat):∀ (q:List Nat) (f:Nat) (ns:List Nk) (first:Int) (kids:Ag Nat→List Nat) (N:List Nd),ks=q++r→r.length<f→RL A sp ns first kids N→(∀ u,¬hdK A u→kids u=[]) →
 ∃ ns' first' kids',fF (x:Int) (toI ks) f (q.length:Int) room keep A.Cells A.Free A.Used ns first cl=some (room,keep,A.Cells,A.Free,A.Used,ns',first',cl)∧RL A sp ns' first' kids' (N.map (aAG ((r.filter (fun p=>decide (p≠x))).map (idP ns)) (idP ns x)))∧(∀ u,¬hdK A u→kids' u=[])∧∀ p,idP ns' p=idP ns p:=by
 induction r with
 | nil =>
   intro q f ns first kids N h hf hR h0;obtain ⟨f,rfl⟩:∃ g,f=g+1:=⟨f-1,by simp at hf; omega⟩;rw [Ax] at h;refine ⟨ns,first,kids,?_,by rw [EV,Aq,aCx]; exact hR,h0,fun _=>rfl⟩;rw [fF,bndD,show (toI ks).length=q.length by unfold toI; rw [An,h],Ad (by omega),bJ]
 | cons p r ih =>
   intro q f ns first kids N h hf hR h0;obtain ⟨f,rfl⟩:∃ g,f=g+1:=⟨f-1,by simp at hf; omega⟩;obtain ⟨e1,e2,e3,e4⟩:=gixI h hks;have hp:jD A p:=hal p (by rw [h]; simp);rw [fF,bndD,e1,bO,e2,bnoS,e3,bnoS,bndD]
   by_cases hpx:p=x
   · subst hpx;rw [Ae rfl,AD,bJ,bndD,e4];obtain ⟨ns',first',kids',g1,g2,g3,g4⟩:=ih (q++[p]) f ns first kids N (by rw [h]; simp) (by simpa using hf) hR h0;refine ⟨ns',first',kids',g1,?_,g3,g4⟩;rw [Be (by simp)];exact g2
   · rw [Ad (by omega),AL,bO];obtain ⟨ns1,first1,kids1,m1,m2,m3,m4,_⟩:=aBX hR h0 hp (u:=some x) hx (fun e=>hpx (by injection e with e; exact e.symm)) room keep cl;have m1:fP (p:Int) (x:Int) room keep A.Cells A.Free A.Used ns first cl=_:=m1;rw [m1,bnoS,bndD,e4];obtain ⟨ns',first',kids',g1,g2,g3,g4⟩:=ih (q++[p]) f ns1 first1 kids1 _ (by rw [h]; simp) (by simpa using hf) m2 m3;refine ⟨ns',first',kids',g1,?_,g3,fun y=>(g4 y).trans (m4 y)⟩;have hmap:(r.filter (fun p=>decide (p≠x))).map (idP ns1)=(r.filter (fun p=>decide (p≠x))).map (idP ns):=AF fun y _=>m4 y
     rw [hmap,m4 x] at g2;rw [BC (by simp [hpx]),Ai,←aDh];exact g2
theorem moves5{A:AS}{sp:List Nat}{x:Nat}(hx:jD A x)(room keep:Int)(cl:List Int){ks:List Nat}(hks:ks.length≤1000)(hal:∀ p∈ks,jD A p)(r:List Nat):∀ (q:List Nat) (f:Nat) (ns:List Nk) (first:Int) (kids:Ag Nat→List Nat) (N:List Nd),ks=q++r→r.length<f→RL A sp ns first kids N→(∀ u,¬hdK A u→kids u=[]) →
 ∃ ns' first' kids',fE (x:Int) (toI ks) f (q.length:Int) room keep A.Cells A.Free A.Used ns first cl=some (room,keep,A.Cells,A.Free,A.Used,ns',first',cl)∧RL A sp ns' first' kids' (N.map (aAG ((r.filter (fun p=>decide (p≠x))).map (idP ns)) (idP ns x)))∧(∀ u,¬hdK A u→kids' u=[])∧∀ p,idP ns' p=idP ns p:=by
 induction r with
 | nil =>
   intro q f ns first kids N h hf hR h0;obtain ⟨f,rfl⟩:∃ g,f=g+1:=⟨f-1,by simp at hf; omega⟩;rw [Ax] at h;refine ⟨ns,first,kids,?_,by rw [EV,Aq,aCx]; exact hR,h0,fun _=>rfl⟩;rw [fE,bndD,show (toI ks).length=q.length by unfold toI; rw [An,h],Ad (by omega),bJ]
 | cons p r ih =>
   intro q f ns first kids N h hf hR h0;obtain ⟨f,rfl⟩:∃ g,f=g+1:=⟨f-1,by simp at hf; omega⟩;obtain ⟨e1,e2,e3,e4⟩:=gixI h hks;have hp:jD A p:=hal p (by rw [h]; simp);rw [fE,bndD,e1,bO,e2,bnoS,e3,bnoS,bndD]
   by_cases hpx:p=x
   · subst hpx;rw [Ae rfl,AD,bJ,bndD,e4];obtain ⟨ns',first',kids',g1,g2,g3,g4⟩:=ih (q++[p]) f ns first kids N (by rw [h]; simp) (by simpa using hf) hR h0;refine ⟨ns',first',kids',g1,?_,g3,g4⟩;rw [Be (by simp)];exact g2
   · rw [Ad (by omega),AL,bO];obtain ⟨ns1,first1,kids1,m1,m2,m3,m4,_⟩:=aBX hR h0 hp (u:=some x) hx (fun e=>hpx (by injection e with e; exact e.symm)) room keep cl;have m1:fP (p:Int) (x:Int) room keep A.Cells A.Free A.Used ns first cl=_:=m1;rw [m1,bnoS,bndD,e4];obtain ⟨ns',first',kids',g1,g2,g3,g4⟩:=ih (q++[p]) f ns1 first1 kids1 _ (by rw [h]; simp) (by simpa using hf) m2 m3;refine ⟨ns',first',kids',g1,?_,g3,fun y=>(g4 y).trans (m4 y)⟩;have hmap:(r.filter (fun p=>decide (p≠x))).map (idP ns1)=(r.filter (fun p=>decide (p≠x))).map (idP ns):=AF fun y _=>m4 y
     rw [hmap,m4 x] at g2;rw [BC (by simp [hpx]),Ai,←aDh];exact g2
end Go.Fn
open Go Go.IL
namespace Go.Fn
theorem aDA{A:AS}{sp:List Nat}{ns:List Nk}{first:Int}{kids:Ag Nat→List Nat}{N:List Nd}(h:RL A sp ns first kids N)(hpos:∀ m∈N,1≤m.ID){u v:Ag Nat}(hu:hdK A u)(hv:hdK A v)(e:idU ns u=idU ns v):u=v:=by
 cases u with
 | none =>
   exact ((aAv h hpos hv).1 e.symm).symm
 | some p=>cases v with
   | none=>exact (aAv h hpos hu).1 e
   | some q=>rw [h.inj p q hu hv e]
theorem aAH{A:AS}{sp:List Nat}{ns:List Nk}{first:Int}{kids:Ag Nat→List Nat}{N:List Nd}(h:RL A sp ns first kids N)(hpos:∀ m∈N,1≤m.ID){u:Ag Nat}(hu:hdK A u){m:Nd}(hm:m∈N):m.ID∈(kids u).map (idP ns)↔m.aa=idU ns u:=by
 obtain ⟨p,n,v,g1,g2,g3,g4,rfl⟩:=h.bw m hm;obtain ⟨v',k1,k2,k3,k4⟩:=aG3 h g1 g3;have hvv:v'=v:=aD9 (k2.symm.trans g4);subst hvv;have hid:idP ns p=n.id:=dW g3
 show n.id∈_↔idU ns v'=idU ns u
 rw [Ak];constructor
 · rintro ⟨q,hq,e⟩;have hqa:=h.kid u q hu hq;have hqp:q=p:=h.inj q p hqa g1 (by rw [e,hid]);subst hqp;rw [h.lk.dj v' u q k1 hu k3 hq]
 · intro e;have:v'=u:=aDA h hpos k1 hu e;subst this;exact ⟨p,k3,hid⟩
theorem aAL{A:AS}{sp:List Nat}{ns:List Nk}{first:Int}{kids:Ag Nat→List Nat}{N:List Nd}(h:RL A sp ns first kids N)(h0:∀ u,¬hdK A u→kids u=[])(hpos:∀ m∈N,1≤m.ID){x:Nat}(hx:jD A x){u:Ag Nat}(hu:hdK A u)(hux:u≠some x)(w:Int)(only:Bool)(room keep:Int)(cl:List Int) :
 ∃ ns' first' kids',kC (x:Int) (upI u) w only room keep A.Cells A.Free A.Used ns first cl=some (room,keep,A.Cells,A.Free,A.Used,ns',first',cl)∧RL A sp ns' first' kids' (N.map (pO (idP ns x) (idU ns u) w only))∧(∀ u,¬hdK A u→kids' u=[])∧∀ p,idP ns' p=idP ns p:=by
 obtain ⟨ns1,first1,kids1,m1,m2,m3,m4,m5⟩:=aBX h h0 hx hu hux room keep cl;obtain ⟨v1,n1,a1,a2,a3,a4,a5⟩:=m2.up x hx;obtain ⟨v0,n0,b1,b2,b3,b4,b5⟩:=h.up x hx;obtain ⟨s1,s2⟩:=aGe m2 hx a2 w n1.closed;have hid1:∀ p,idP (ns1.set x (⟨n1.id,n1.up,n1.first,n1.next,w,n1.closed⟩:Nk)) p=idP ns p:=fun p=>(s2 p).trans (m4 p)
 -- whether it is closed
 have hcl:n1.closed=n0.closed:=by
  have hmem:=a5;obtain ⟨m,hm,e⟩:=Ak.1 hmem;have hi:m.ID=(asN ns n0 v0).ID:=by
   have:(mvN (idP ns x) (idU ns u) m).ID=(asN ns1 n1 v1).ID:=by rw [e]
   rw [oK] at this;rw [this]
   show n1.id=n0.id
   rw [←dW a2,←dW b2,m4]
  have hm0:=sT h.so hm b5 hi;subst hm0;have:(mvN (idP ns x) (idU ns u) (asN ns n0 v0)).af=(asN ns1 n1 v1).af:=by rw [e]
  have h2:(mvN (idP ns x) (idU ns u) (asN ns n0 v0)).af=(asN ns n0 v0).af:=by unfold mvN; split <;> rfl
  rw [h2] at this;exact this.symm
 have hxid:(asN ns n0 v0).ID=idP ns x:=(dW b2).symm;have base:∀ (o:Bool) (ids:List Int),(∀ n∈N,n.ID≠idP ns x→(n.ID∈ids↔o=true∧n.aa=idU ns u))→idP ns x ∉ ids→((N.map (mvN (idP ns x) (idU ns u))).map (setN (idP ns1 x) w n1.closed)).map (aAG ids (idP ns x))=N.map (pO (idP ns x) (idU ns u) w o):=by
  intro o ids h1 h2;rw [BM,BM,m4 x];refine AF fun n hn=>?_
  show aAG ids (idP ns x) (setN (idP ns x) w n1.closed (mvN (idP ns x) (idU ns u) n))=_
  unfold pO
  by_cases e:n.ID=idP ns x
  · have hnn:n=asN ns n0 v0:=sT h.so hn b5 (e.trans hxid.symm);rw [Ao e];unfold aAG;rw [uZ,oK,Al (by rw [e]; exact h2)];unfold setN;rw [oK,Ao e];unfold mvN;rw [Ao e]
    show (⟨n.ID,idU ns u,w,n1.closed⟩:Nd)=⟨n.ID,idU ns u,w,n.af⟩
    rw [hcl,hnn]; rfl
  · rw [Al e];unfold aAG;rw [uZ,oK];have hs:setN (idP ns x) w n1.closed (mvN (idP ns x) (idU ns u) n)=n:=by
     unfold setN;rw [oK,Al e];unfold mvN;rw [Al e]
    rw [hs]
    by_cases hc:o=true∧n.aa=idU ns u
    · rw [Ao ((h1 n hn e).2 hc),Ao hc]
    · rw [Al (fun hm=>hc ((h1 n hn e).1 hm)),Al hc]
 unfold kC;rw [m1,bnoS]
 show ∃ ns' first' kids',(bno (gix ns1 (x:Int)) fun x26=>chk (ns1.length=64)<|bno (ns1[((x:Int)).toNat]?) fun x28=>bnd (ns1.set ((x:Int).toNat) (⟨x28.id,x28.up,x28.first,x28.next,w,x28.closed⟩:Nk)) fun x29=>_)=_∧_
 rw [fM,a2,bnoS,chk,Ao m2.len,As,a2,bnoS,bndD];cases only with
 | false =>
   refine ⟨_,first1,kids1,rfl,?_,m3,hid1⟩;have:=base false [] (fun n _ _=>by simp) (by simp);rw [aCx] at this;rw [←this];exact s1
 | true =>
   rw [AD,bJ,bndD]
   -- the kids that move
   have hks:∀ p∈kids1 u,jD A p:=fun p hp=>m2.kid u p hu hp
   have hksl:(kids1 u).length≤64:=m2.lk.size m2.len hu;have hch:mD (ns1.set x (⟨n1.id,n1.up,n1.first,n1.next,w,n1.closed⟩:Nk)) (rR (ns1.set x (⟨n1.id,n1.up,n1.first,n1.next,w,n1.closed⟩:Nk)) first1 u) (kids1 u):=s1.lk.ch u hu;have hids:∀ n∈N,n.ID≠idP ns x→(n.ID∈((kids1 u).filter (fun p=>decide (p≠x))).map (idP (ns1.set x (⟨n1.id,n1.up,n1.first,n1.next,w,n1.closed⟩:Nk)))↔true=true∧n.aa=idU ns u):=fun n hn hne=>by
    rw [show (true=true∧n.aa=idU ns u)↔n.aa=idU ns u from ⟨fun h=>h.2,fun h=>⟨rfl,h⟩⟩,←aAH h hpos hu hn,Ak,Ak];constructor
    · rintro ⟨q,hq,e⟩;have hq:=AN.1 hq;have hqx:q≠x:=of_decide_eq_true hq.2
      rcases (m5 u q).1 hq.1 with ⟨e2,_⟩ | ⟨_,hk⟩
      · exact Ay e2 hqx
      · exact ⟨q,hk,by rw [←hid1 q]; exact e⟩
    · rintro ⟨q,hq,e⟩;have hqx:q≠x:=fun e2=>hne (by rw [←e,e2])
      exact ⟨q,AN.2 ⟨(m5 u q).2 (.inr ⟨hqx,hq⟩),Ae hqx⟩,by rw [hid1 q]; exact e⟩
   have hnx:idP ns x ∉ ((kids1 u).filter (fun p=>decide (p≠x))).map (idP (ns1.set x (⟨n1.id,n1.up,n1.first,n1.next,w,n1.closed⟩:Nk))):=fun hm=>by
    obtain ⟨q,hq,e⟩:=Ak.1 hm;have hq:=AN.1 hq;have hqx:q≠x:=of_decide_eq_true hq.2;exact hqx (h.inj q x (hks q hq.1) hx (by rw [←hid1 q]; exact e))
   have hfin:=base true _ hids hnx;have T:PT:=(room,keep,A.Cells,A.Free,A.Used,ns1,first1,cl);cases u with
   | none =>
     rw [show decide (upI none = -1)=true from rfl,bO];obtain ⟨ns',first',kids',g1,g2,g3,g4⟩:=moves3 (sp:=sp) hx room keep cl (ks:=kids1 none) (by omega) hks (kids1 none) [] fuel _ first1 kids1 _ rfl (dK (by omega)) s1 m3;refine ⟨ns',first',kids',?_,?_,g3,fun p=>(g4 p).trans (hid1 p)⟩
     · refine Eq.trans (coll2 (x:Int) (room,keep,A.Cells,A.Free,A.Used,ns1,first1,cl) (kids1 none) [] first1 fuel hch (by simp; omega) (dK (by omega))) ?_;exact g1
     · rw [←hfin];rw [hid1 x] at g2;exact g2
   | some q =>
     obtain ⟨nq,hq⟩:=s1.lk.at' q hu;rw [show decide (upI (some q) = -1)=false from Ad (show ¬(q:Int) = -1 by omega),bJ,show upI (some q)=(q:Int) from rfl,fM,hq,bnoS,As,hq,bnoS];obtain ⟨ns',first',kids',g1,g2,g3,g4⟩:=moves5 (sp:=sp) hx room keep cl (ks:=kids1 (some q)) (by omega) hks (kids1 (some q)) [] fuel _ first1 kids1 _ rfl (dK (by omega)) s1 m3;rw [pS hq] at hch;refine ⟨ns',first',kids',?_,?_,g3,fun p=>(g4 p).trans (hid1 p)⟩
     · refine Eq.trans (coll4 (x:Int) (room,keep,A.Cells,A.Free,A.Used,ns1,first1,cl) (kids1 (some q)) [] nq.first fuel hch (by simp; omega) (dK (by omega))) ?_;exact g1
     · rw [←hfin];rw [hid1 x] at g2;exact g2
end Go.Fn
open Go Go.IL
namespace Go.Fn
abbrev Ws:=jE
def pY(N:List Nd)(w:Ws):Ws:=if w.dep≠0∧∀ m∈N,m.ID≠w.dep then ⟨0,16,false⟩ else w
def upN(N:List Nd)(x d:Int):List Nd:=if d≠0∧x∈fL N N.length d then N.map (mvN d ((tD N x).getD 0)) else N
def qE(N:List Nd)(x:Int)(w:Ws):List Nd:=(upN N x (pY N w).dep).map (pO x (pY N w).dep (pY N w).weight (pY N w).only)
theorem aIc{N:List Nd}{r:Int→Nat}(hr:∀ m∈N,m.aa≠0→r m.aa<r m.ID){k:Nat}{z x:Int}(h:x∈fL N k z):r x<r z:=aBM hr k z x h
theorem aAM{A:AS}{sp:List Nat}{ns:List Nk}{first:Int}{kids:Ag Nat→List Nat}{N:List Nd}(h:RL A sp ns first kids N)(h0:∀ u,¬hdK A u→kids u=[])(hpos:∀ m∈N,1≤m.ID)(hN:N.length≤64){r:Int→Nat}(hr:∀ m∈N,m.aa≠0→r m.aa<r m.ID)(hpa:∀ m∈N,m.aa=0∨∃ x∈N,x.ID=m.aa){x:Nat}(hx:jD A x){u:Ag Nat}(hu:hdK A u)(hux:u≠some x)(v6 w:Int)(only:Bool)(room keep:Int)(cl:List Int) :
 ∃ ns' first' kids',kD (x:Int) room keep A.Cells A.Free A.Used ns first cl (upI u) v6 w only=some (room,keep,A.Cells,A.Free,A.Used,ns',first',cl)∧RL A sp ns' first' kids' ((upN N (idP ns x) (idU ns u)).map (pO (idP ns x) (idU ns u) w only))∧(∀ u,¬hdK A u→kids' u=[])∧∀ p,idP ns' p=idP ns p:=by
 obtain ⟨v,n,b1,b2,b3,b4,b5⟩:=h.up x hx;unfold kD;rw [bndD];cases u with
 | none =>
   rw [show decide (upI none = -1)=true from rfl,AD,show ((false == true):Bool)=false from rfl,gdff,bnoS,bndD,Bu,bJ];obtain ⟨ns',first',kids',g1,g2,g3,g4⟩:=aAL h h0 hpos hx (u:=none) hu hux w only room keep cl;refine ⟨ns',first',kids',g1,?_,g3,g4⟩;have:upN N (idP ns x) (idU ns none)=N:=Al (fun hh=>hh.1 rfl);rw [this]; exact g2
 | some q =>
   have hqx:q≠x:=fun e=>hux (by rw [e])
   have hne:idU ns (some q)≠0:=fun e=>by have:=(aAv h hpos hu).1 e; cases this
   rw [show decide (upI (some q) = -1)=false from Ad (show ¬(q:Int) = -1 by omega),AL,AQ,gdtt,show upI (some q)=(q:Int) from rfl,aIQ h hpos hN hr hpa (p:=q) (t:=x) hu hx,bnoS,bndD,BF]
   by_cases hm:idP ns x∈fL N N.length (idP ns q)
   · rw [Ae hm,bO,fM,b2,bnoS,chk,Ao h.len,As,b2,bnoS,b3];have hlow:=aIc hr hm;have hvq:v≠some q:=fun e=>by
      subst e;have hpar:(asN ns n (some q)).aa=idP ns q:=rfl;have:=hr _ b5 (by rw [hpar]; exact hne);have h2:r (idP ns q)<r (idP ns x):=by rw [dW b2]; exact this
      omega
     obtain ⟨ns1,first1,kids1,m1,m2,m3,m4,m5⟩:=aBX h h0 (p:=q) hu (u:=v) b1 hvq room keep cl;rw [m1,bnoS];have hpos1:∀ m∈N.map (mvN (idP ns q) (idU ns v)),1≤m.ID:=fun m hm=>by
      obtain ⟨m0,hm0,rfl⟩:=Ak.1 hm;rw [oK]; exact hpos m0 hm0
     obtain ⟨ns',first',kids',g1,g2,g3,g4⟩:=aAL m2 m3 hpos1 hx (u:=some q) hu hux w only room keep cl;refine ⟨ns',first',kids',g1,?_,g3,fun p=>(g4 p).trans (m4 p)⟩;have hpo:tD N (idP ns x)=some (idU ns v):=aBN h hx b2 b3;have hup:upN N (idP ns x) (idU ns (some q))=N.map (mvN (idP ns q) (idU ns v)):=by
      unfold upN;rw [Ao ⟨hne,hm⟩,hpo]; rfl
     have hU:idU ns1 (some q)=idU ns (some q):=m4 q;rw [m4 x,hU] at g2;rw [hup]; exact g2
   · rw [Ad hm,bJ];obtain ⟨ns',first',kids',g1,g2,g3,g4⟩:=aAL h h0 hpos hx (u:=some q) hu hux w only room keep cl;refine ⟨ns',first',kids',g1,?_,g3,g4⟩;have:upN N (idP ns x) (idU ns (some q))=N:=Al (fun hh=>hm hh.2);rw [this]; exact g2
theorem aFT{A:AS}{sp:List Nat}{ns:List Nk}{first:Int}{kids:Ag Nat→List Nat}{N:List Nd}(h:RL A sp ns first kids N)(h0:∀ u,¬hdK A u→kids u=[])(hpos:∀ m∈N,1≤m.ID)(hN:N.length≤64){r:Int→Nat}(hr:∀ m∈N,m.aa≠0→r m.aa<r m.ID)(hpa:∀ m∈N,m.aa=0∨∃ x∈N,x.ID=m.aa){x:Nat}(hx:jD A x)(w:Ws)(hw:w.dep≠idP ns x)(hw0:0≤w.dep)(room keep:Int)(cl:List Int) :
 ∃ ns' first' kids',jO (x:Int) w room keep A.Cells A.Free A.Used ns first cl=some (room,keep,A.Cells,A.Free,A.Used,ns',first',cl)∧RL A sp ns' first' kids' (qE N (idP ns x) w)∧(∀ u,¬hdK A u→kids' u=[])∧∀ p,idP ns' p=idP ns p:=by
 unfold jO
 rcases aHq h w.dep room keep cl with ⟨q,f1,f2,f3⟩ | ⟨f1,f3⟩
 · have hq0:w.dep≠0:=fun e=>by
    obtain ⟨u,n,_,g2,_,_,g5⟩:=h.up q f1;have:=hpos _ g5;have h2:1≤n.id:=this;rw [dW g2] at f2; omega
   have hwS:pY N w=w:=by
    unfold pY;rw [Al];rintro ⟨_,hno⟩;obtain ⟨u,n,_,g2,_,_,g5⟩:=h.up q f1;exact hno _ g5 (by show n.id=w.dep; rw [←dW g2]; exact f2)
   rw [f3,bnoS,bndD,Ad (show ¬(q:Int) = -1 by omega),bndD,bndD,Bu,bJ];have hux:(some q:Ag Nat)≠some x:=fun e=>by injection e with e; exact hw (by rw [←f2,e])
   obtain ⟨ns',first',kids',g1,g2,g3,g4⟩:=aAM h h0 hpos hN hr hpa hx (u:=some q) f1 hux w.dep w.weight w.only room keep cl;refine ⟨ns',first',kids',g1,?_,g3,g4⟩;unfold qE;rw [hwS,←f2]; exact g2
 · rw [f3,bnoS,bndD,Ae rfl,bndD,bndD,BF];have hno:∀ m∈N,m.ID≠w.dep:=fun m hm e=>by
    obtain ⟨p,n,u,g1,_,g3,_,rfl⟩:=h.bw m hm;exact f1 p g1 ((dW g3).trans e)
   by_cases hd:w.dep=0
   · rw [Ae hd,AD,bJ];have hwS:pY N w=w:=Al (fun hh=>hh.1 hd);obtain ⟨ns',first',kids',g1,g2,g3,g4⟩:=aAM h h0 hpos hN hr hpa hx (u:=none) trivial (by simp) w.dep w.weight w.only room keep cl;refine ⟨ns',first',kids',g1,?_,g3,g4⟩;unfold qE;rw [hwS,hd]; exact g2
   · rw [Ad hd,AL,bO];have hwS:pY N w=⟨0,16,false⟩:=Ao ⟨hd,hno⟩;obtain ⟨ns',first',kids',g1,g2,g3,g4⟩:=aAM h h0 hpos hN hr hpa hx (u:=none) trivial (by simp) 0 16 false room keep cl;refine ⟨ns',first',kids',g1,?_,g3,g4⟩;unfold qE;rw [hwS]; exact g2
end Go.Fn
open List renaming perm_ext_iff_of_nodup → Eo,sum_cons → CQ
open Go Go.IL
namespace Go.Fn
def wsum(ns:List Nk)(l:List Nat):Int:=(l.map fun p=>(ns.getD p default).weight).sum
theorem aCE:∀ (N:List Nd) (id:Int),sumS N id=((N.filter (fun n=>decide (n.aa=id))).map (fun n=>n.ae)).sum
 | [],_=>rfl
 | n::N,id=>by
   have ih:=aCE N id
   show (if n.aa=id then n.ae else 0)+sumS N id=_
   by_cases h:n.aa=id
   · rw [Ao h,BC (by simp [h]),Ai,CQ,ih]
   · rw [Al h,Be (by simp [h]),ih]; omega
theorem aIb{l m:List Int}(h:l.Perm m):l.sum=m.sum:=by
 induction h with
 | nil=>rfl
 | cons x _ ih=>rw [CQ,CQ,ih]
 | swap x y l=>rw [CQ,CQ,CQ,CQ]; omega
 | trans _ _ h1 h2=>exact h1.trans h2
theorem ws_sum{A:AS}{sp:List Nat}{ns:List Nk}{first:Int}{kids:Ag Nat→List Nat}{N:List Nd}(h:RL A sp ns first kids N)(hpos:∀ m∈N,1≤m.ID){x:Nat}(hx:jD A x):wsum ns (kids (some x))=sumS N (idP ns x):=by
 rw [aCE];have hk:∀ p∈kids (some x),jD A p:=fun p hp=>h.kid (some x) p hx hp
 have hnode:∀ p∈kids (some x),asN ns (ns.getD p default) (some x)∈N:=fun p hp=>by
  obtain ⟨u,n,g1,g2,g3,g4,g5⟩:=h.up p (hk p hp);have hu:u=some x:=h.lk.dj u (some x) p g1 hx g4 hp;subst hu;rw [AB,g2]; exact g5
 have hmap:(kids (some x)).map (fun p=>(ns.getD p default).weight)=((kids (some x)).map (fun p=>asN ns (ns.getD p default) (some x))).map (fun n=>n.ae):=by rw [BM]; rfl
 have hp:((kids (some x)).map (fun p=>asN ns (ns.getD p default) (some x))).Perm (N.filter (fun n=>decide (n.aa=idP ns x))):=by
  refine (Eo ?_ ?_).2 fun m=>?_
  · refine Bi.2 ((h.lk.nd (some x) hx).imp_of_mem fun {p q} hp hq hne e=>hne ?_);exact h.inj p q (hk p hp) (hk q hq) (AH (·.ID) e)
  · refine List.Pairwise.filter _ ?_;exact h.so.imp fun hab e=>by rw [e] at hab; omega
  · rw [Ak,AN];constructor
    · rintro ⟨p,hp,rfl⟩;exact ⟨hnode p hp,Ae rfl⟩
    · rintro ⟨hm,hd⟩;have hpar:m.aa=idU ns (some x):=of_decide_eq_true hd;obtain ⟨p,hp,e⟩:=Ak.1 ((aAH h hpos (u:=some x) hx hm).2 hpar);refine ⟨p,hp,sT h.so (hnode p hp) hm e⟩
 unfold wsum;rw [hmap];exact aIb (hp.map _)
theorem off8{ns:List Nk}{x:Nat}{room keep:Int}{C:List AC}{F U first:Int}{cl:List Int}(r:List Nat):∀ (a acc:Int) (f:Nat),mD ns a r→(∀ p∈r,0≤(ns.getD p default).weight∧(ns.getD p default).weight≤256)→0≤acc→acc+256*r.length≤1000000→r.length<f→iY (x:Int) room keep C F U ns first cl f a acc=lC (x:Int) room keep C F U ns first cl (acc+wsum ns r):=by
 induction r with
 | nil =>
   intro a acc f h _ _ _ hf;obtain ⟨f,rfl⟩:∃ g,f=g+1:=⟨f-1,by simp at hf; omega⟩;have h:a = -1:=h;rw [iY,bndD,h,Ae rfl,AD,bJ];simp [wsum]
 | cons p r ih =>
   intro a acc f h hw ha hb hf;obtain ⟨f,rfl⟩:∃ g,f=g+1:=⟨f-1,by simp at hf; omega⟩;obtain ⟨h1,n,h2,h3⟩:=h;have hwp:=hw p (by simp);have hgn:ns.getD p default=n:=by rw [AB,h2]; rfl
   rw [hgn] at hwp;simp at hb;rw [iY,bndD,h1,Ad (by omega),AL,bO,fM,h2,bnoS,As,h2,bnoS,bnoS,bnoS,bndD,w64 (by omega) (by omega)];rw [ih n.next (acc+n.weight) f h3 (fun q hq=>hw q (by simp [hq])) (by omega) (by omega) (by simpa using hf)]
   congr 1
   unfold wsum;rw [Ai,CQ,hgn]; omega
theorem coll5{ns:List Nk}{x:Nat}{room keep S:Int}{C:List AC}{F U first:Int}{cl:List Int}(r:List Nat):∀ (acc:List Nat) (a:Int) (f:Nat),mD ns a r→acc.length+r.length≤1000→r.length<f→iZ (x:Int) room keep C F U ns first cl S f a (toI acc)=dY (x:Int) S (toI (acc++r)) fuel 0 room keep C F U ns first cl:=by
 induction r with
 | nil =>
   intro acc a f h _ hf;obtain ⟨f,rfl⟩:∃ g,f=g+1:=⟨f-1,by simp at hf; omega⟩;have h:a = -1:=h;rw [iZ,bndD,h,Ae rfl,AD,bJ,Ax]
 | cons p r ih =>
   intro acc a f h ha hf;obtain ⟨f,rfl⟩:∃ g,f=g+1:=⟨f-1,by simp at hf; omega⟩;obtain ⟨h1,n,h2,h3⟩:=h;simp at ha;have hal:(toI acc).length=acc.length:=by unfold toI; simp
   rw [iZ,bndD,h1,Ad (by omega),AL,bO,fM,h2,bnoS,As,h2,bnoS,kI (by simp; omega) (by simp; omega),bnoS];have:=ih (acc++[p]) n.next f h3 (by simp; omega) (by simpa using hf);rw [show toI (acc++[p])=toI acc++[(p:Int)] by unfold toI; simp] at this;rw [this,AA]; rfl
end Go.Fn
open Go Go.IL
namespace Go.Fn
theorem aCo{A:AS}{sp:List Nat}{ns:List Nk}{first:Int}{kids:Ag Nat→List Nat}{N:List Nd}(h:RL A sp ns first kids N){p:Nat}(hp:jD A p){m:Nd}(hm:m∈N)(e:m.ID=idP ns p):∃ n u,ns[p]? = some n∧hdK A u∧n.up=upI u∧m=asN ns n u:=by
 obtain ⟨u,n,h1,h2,h3,h4,h5⟩:=h.up p hp;refine ⟨n,u,h2,h1,h3,sT h.so hm h5 ?_⟩;rw [e,dW h2]; rfl
def upsN(ids:List Int)(d W S:Int)(n:Nd):Nd:=if n.ID∈ids then ⟨n.ID,d,max (W*n.ae / S) 1,n.af⟩ else n
theorem aCd(ids:List Int)(d W S:Int)(n:Nd):(upsN ids d W S n).ID=n.ID:=by unfold upsN; split <;> rfl
theorem aGU(d W S:Int)(N:List Nd):N.map (upsN [] d W S)=N:=by
 conv=>rhs; rw [←CH N]
 exact AF fun n _=>by unfold upsN; rw [Al (by simp)]; rfl
theorem aIP{a:Int}{ids:List Int}(ha:a ∉ ids)(d W S w:Int)(c:Bool){N:List Nd}(hso:N.Pairwise (fun a b=>a.ID<b.ID)){m:Nd}(hm:m∈N)(hma:m.ID=a)(hw:w=max (W*m.ae / S) 1)(hc:c=m.af):((N.map (setN a w c)).map (mvN a d)).map (upsN ids d W S)=N.map (upsN (a::ids) d W S):=by
 rw [BM,BM];refine AF fun n hn=>?_
 show upsN ids d W S (mvN a d (setN a w c n))=upsN (a::ids) d W S n
 by_cases h1:n.ID=a
 · have hnm:n=m:=sT hso hn hm (h1.trans hma.symm);subst hnm;have e1:mvN a d (setN a w c n)=⟨n.ID,d,w,c⟩:=by
    unfold mvN;rw [uZ,Ao h1];unfold setN;rw [Ao h1]
   rw [e1];unfold upsN;rw [Al (show n.ID ∉ ids from h1 ▸ ha),Ao (show n.ID∈a::ids by simp [h1]),hw,hc]
 · have e1:mvN a d (setN a w c n)=n:=by
    unfold mvN;rw [uZ,Al h1];unfold setN;rw [Al h1]
   rw [e1];unfold upsN
   by_cases h2:n.ID∈ids
   · rw [Ao h2,Ao (by simp [h2])]
   · rw [Al h2,Al (by simp [h1,h2])]
theorem off6{A:AS}{sp:List Nat}{x:Nat}(hx:jD A x)(room keep:Int)(cl:List Int){S:Int}(hS:1≤S){v:Ag Nat}(hv:hdK A v){W:Int}(hW:1≤W∧W≤256){cx:Bool}{ks:List Nat}(hks:ks.length≤64)(hal:∀ p∈ks,jD A p)(hkx:∀ p∈ks,p≠x)(hkv:∀ p∈ks,v≠some p)(hkn:ks.Nodup)(r:List Nat):∀ (q:List Nat) (f:Nat) (ns:List Nk) (first:Int) (kids:Ag Nat→List Nat) (N:List Nd),ks=q++r→r.length<f→RL A sp ns first kids N→(∀ u,¬hdK A u→kids u=[])→(∀ m∈N,1≤m.ID)→(∀ m∈N,1≤m.ae∧m.ae≤256)→(∀ m∈N,m.ID∈r.map (idP ns)→m.ae≤S)→(⟨idP ns x,idU ns v,W,cx⟩:Nd)∈N →
 ∃ ns' first' kids' f',dY (x:Int) S (toI ks) f (q.length:Int) room keep A.Cells A.Free A.Used ns first cl=dY (x:Int) S (toI ks) (f'+1) (ks.length:Int) room keep A.Cells A.Free A.Used ns' first' cl∧RL A sp ns' first' kids' (N.map (upsN (r.map (idP ns)) (idU ns v) W S))∧(∀ u,¬hdK A u→kids' u=[])∧(∀ p,idP ns' p=idP ns p)∧∀ u p,(p ∉ r)→(p∈kids' u↔p∈kids u):=by
 induction r with
 | nil =>
   intro q f ns first kids N h hf hR h0 hpos hw hle hxN;obtain ⟨f,rfl⟩:∃ g,f=g+1:=⟨f-1,by simp at hf; omega⟩;rw [Ax] at h;exact ⟨ns,first,kids,f,by rw [h],by rw [Aq,aGU]; exact hR,h0,fun _=>rfl,fun _ _ _=>Dy⟩
 | cons p r ih =>
   intro q f ns first kids N h hf hR h0 hpos hw hle hxN;obtain ⟨f,rfl⟩:∃ g,f=g+1:=⟨f-1,by simp at hf; omega⟩;obtain ⟨e1,e2,e3,e4⟩:=gixI h (by omega);have hpm:p∈ks:=by rw [h]; simp
   have hp:=hal p hpm;have hpx:=hkx p hpm;obtain ⟨nx,vx,x1,x2,x3,x4⟩:=aCo hR hx hxN rfl;have hvx:vx=v:=aDA hR hpos x2 hv (AH (·.aa) x4).symm;subst hvx;have hxw:nx.weight=W:=(AH (·.ae) x4).symm;obtain ⟨up,np,p1,p2,p3,p4,p5⟩:=hR.up p hp;have hwp:=hw _ p5;have hwp:1≤np.weight∧np.weight≤256:=hwp;have hprod:0≤nx.weight*np.weight∧nx.weight*np.weight≤65536:=by
    rw [hxw];constructor
    · exact Int.mul_nonneg (by omega) (by omega)
    · calc W*np.weight≤256*256:=DU hW.2 hwp.2 (by omega) (by decide)
       _=65536:=by decide
   have hquo:quoI .i64 (nx.weight*np.weight) S=some (W*np.weight / S):=by
    rw [quo_ok hprod.1 (by omega) (by omega),hxw]
   obtain ⟨s1,s2⟩:=aGe hR hp p2 (max (W*np.weight / S) 1) np.closed;have hx1:(ns.set p (⟨np.id,np.up,np.first,np.next,max (W*np.weight / S) 1,np.closed⟩:Nk))[x]? = some nx:=by rw [Az hpx]; exact x1
   obtain ⟨ns1,first1,kids1,m1,m2,m3,m4,m5⟩:=aBX s1 h0 hp (u:=vx) hv (hkv p hpm) room keep cl;have hidp:∀ y,idP ns1 y=idP ns y:=fun y=>(m4 y).trans (s2 y)
   have hidU:∀ u,idU ns1 u=idU ns u:=fun u=>by cases u with
    | none=>rfl
    | some y=>exact hidp y
   have hidU2:idU (ns.set p (⟨np.id,np.up,np.first,np.next,max (W*np.weight / S) 1,np.closed⟩:Nk)) vx=idU ns vx:=by cases vx with
    | none=>rfl
    | some y=>exact s2 y
   rw [s2 p,hidU2] at m2;have himg:∀ m∈(N.map (setN (idP ns p) (max (W*np.weight / S) 1) np.closed)).map (mvN (idP ns p) (idU ns vx)),1≤m.ID∧1≤m.ae∧m.ae≤256:=fun m hm=>by
    obtain ⟨m1,hm1,rfl⟩:=Ak.1 hm;obtain ⟨m0,hm0,rfl⟩:=Ak.1 hm1;have hmw:(mvN (idP ns p) (idU ns vx) (setN (idP ns p) (max (W*np.weight / S) 1) np.closed m0)).ae=(setN (idP ns p) (max (W*np.weight / S) 1) np.closed m0).ae:=by unfold mvN; split <;> rfl
    rw [oK,uZ,hmw];refine ⟨hpos m0 hm0,?_⟩;unfold setN;split
    · show 1≤max (W*np.weight / S) 1∧max (W*np.weight / S) 1≤256
      have hws:np.weight≤S:=hle _ p5 (by rw [show ((asN ns np up:Nd)).ID=idP ns p from (dW p2).symm]; simp);have:W*np.weight / S≤256:=EU (by omega) (DU hW.2 hws (by omega) (by decide));omega
    · exact hw m0 hm0
   have hmap:r.map (idP ns1)=r.map (idP ns):=AF fun y _=>hidp y
   have hnr:p ∉ r:=fun hm=>by
    rw [h] at hkn;exact (Bl.1 (Cu.1 hkn).2.1).1 hm
   have hnid:idP ns p ∉ r.map (idP ns):=fun hm=>by
    obtain ⟨y,hy,e⟩:=Ak.1 hm;have hya:=hal y (by rw [h]; simp [hy]);exact hnr (hR.inj y p hya hp e ▸ hy)
   have himl:∀ m∈(N.map (setN (idP ns p) (max (W*np.weight / S) 1) np.closed)).map (mvN (idP ns p) (idU ns vx)),m.ID∈r.map (idP ns1)→m.ae≤S:=fun m hm=>by
    obtain ⟨m1,hm1,rfl⟩:=Ak.1 hm;obtain ⟨m0,hm0,rfl⟩:=Ak.1 hm1;have hmw:(mvN (idP ns p) (idU ns vx) (setN (idP ns p) (max (W*np.weight / S) 1) np.closed m0)).ae=(setN (idP ns p) (max (W*np.weight / S) 1) np.closed m0).ae:=by unfold mvN; split <;> rfl
    rw [oK,uZ,hmw,hmap];intro hmi;have hne:m0.ID≠idP ns p:=fun e=>hnid (e ▸ hmi)
    unfold setN;rw [Al hne];exact hle m0 hm0 (by rw [Ai]; exact Bg _ hmi)
   have hxN1:(⟨idP ns1 x,idU ns1 vx,W,cx⟩:Nd)∈(N.map (setN (idP ns p) (max (W*np.weight / S) 1) np.closed)).map (mvN (idP ns p) (idU ns vx)):=by
    rw [hidp x,hidU vx];have hne:idP ns x≠idP ns p:=fun e=>hpx (hR.inj x p hx hp e).symm
    refine Ak.2 ⟨_,Ak.2 ⟨_,hxN,rfl⟩,?_⟩;unfold mvN;rw [uZ,Al hne];unfold setN;rw [Al hne]
   obtain ⟨ns',first',kids',f',g1,g2,g3,g4,g5⟩:=ih (q++[p]) f ns1 first1 kids1 _ (by rw [h]; simp) (by simpa using hf) m2 m3 (fun m hm=>(himg m hm).1) (fun m hm=>(himg m hm).2) himl hxN1;refine ⟨ns',first',kids',f',?_,?_,g3,fun y=>(g4 y).trans (hidp y),fun u y hy=>?_⟩
   · rw [dY,bndD,e1,bO,e2,bnoS,e3,bnoS,fM,x1,bnoS,chk,Ao hR.len,As,x1,bnoS,fM,p2,bnoS,As,p2,bnoS,bndD,w64 (by omega) (by omega),hquo,bnoS,bndD,bnoS,bnoS,bndD,fM,hx1,bnoS,bnoS,x3,m1,bnoS,bndD,e4];exact g1
   · rw [hmap,hidU vx] at g2;rw [Ai,←aIP hnid (idU ns vx) W S (max (W*np.weight / S) 1) np.closed hR.so p5 (dW p2).symm rfl rfl];exact g2
   · simp at hy;rw [g5 u y hy.2,m5 u y];constructor
     · rintro (⟨e,_⟩ | ⟨_,hm⟩)
       · exact Ay e hy.1
       · exact hm
     · exact fun hm=>.inr ⟨hy.1,hm⟩
end Go.Fn
open Go Go.IL
namespace Go.Fn
theorem del19{E:List Int}{id:Int}(hl:E.length≤100000):eF E id=some (E.filter fun y=>!decide (y=id)) :=
 xF (P:=fun x=>pB x id) (q:=fun y=>decide (y=id)) (I:=eE E id) (L:=dI id) (fun _=>rfl) (fun _ _=>rfl) (fun _ _ _ _=>rfl) hl
theorem pX{A:AS}{x:Nat}(hx:jD A x)(p:Nat):jD (uH A x) p↔jD A p∧p≠x:=by
 obtain ⟨c,hc,_⟩:=hx;unfold jD uH
 by_cases e:p=x
 · subst e;rw [Aw (Aj.1 hc).1];constructor
   · rintro ⟨d,hd,hl⟩;injection hd with hd
     subst hd;cases hl
   · exact fun h=>Ay rfl h.2
 · rw [Az (Ne.symm e)];exact ⟨fun h=>⟨h,e⟩,fun h=>h.1⟩
theorem vK{A:AS}{x:Nat}(hx:jD A x)(u:Ag Nat):hdK (uH A x) u↔hdK A u∧u≠some x:=by
 cases u with
 | none=>exact ⟨fun h=>⟨h,nofun⟩,fun h=>h.1⟩
 | some p =>
   constructor
   · exact fun h=>⟨((pX hx p).1 h).1,fun e=>((pX hx p).1 h).2 (Option.some.inj e)⟩
   · exact fun h=>(pX hx p).2 ⟨h.1,fun e=>h.2 (e ▸ rfl)⟩
theorem gone_ok{A:AS}{sp:List Nat}{ns:List Nk}{first:Int}{kids:Ag Nat→List Nat}{N:List Nd}(h:RL A sp ns first kids N)(h0:∀ u,¬hdK A u→kids u=[]){x:Nat}(hx:jD A x)(hk:kids (some x)=[])(room keep:Int){cl:List Int}(hcl:cl.length≤100000){S:Int}{ks:List Nat}(hks:ks.length≤1000)(f:Nat) :
 ∃ ns' first' kids',dY (x:Int) S (toI ks) (f+1) (ks.length:Int) room keep A.Cells A.Free A.Used ns first cl=some (room,keep,(uH A x).Cells,(uH A x).Free,(uH A x).Used,ns',first',cl.filter fun y=>!decide (y=(x:Int)))∧RL (uH A x) (x::sp) ns' first' kids' (N.filter fun n=>!decide (n.ID=idP ns x))∧(∀ u,¬hdK (uH A x) u→kids' u=[])∧(∀ q,idP ns' q=idP ns q):=by
 obtain ⟨u,nx,a1,a2,a3,a4,a5,a6⟩:=h.par hx;obtain ⟨ns1,first1,b1,b2,b3,b4⟩:=aDP h.len h.lk a1 a2 a3 a4 room keep A.Cells A.Free A.Used cl;obtain ⟨c,hc,hl⟩:=hx;obtain ⟨g1,g2⟩:=give_ok h.ga hc hl;have hx:jD A x:=⟨c,hc,hl⟩;have hid:∀ q,idP ns1 q=idP ns q:=fun q=>aCa (b4 q)
 have hidU:∀ v,idU ns1 v=idU ns v:=fun v=>by
  cases v with
  | none=>rfl
  | some q=>exact hid q
 have hnd:=h.lk.nd u a1;have hdr:∀ v q,hdK A v→(q∈tG kids u x v↔q≠x∧q∈kids v):=fun v q hv=>by
  unfold tG
  by_cases e:v=u
  · rw [Ao e,hnd.mem_erase_iff,e]
  · rw [Al e];exact ⟨fun hm=>⟨fun e2=>e (a6 v hv (e2 ▸ hm)),hm⟩,fun hm=>hm.2⟩
 refine ⟨ns1,first1,_,?_,⟨g2,b2,⟨fun v hv=>b3.ch v ((vK hx v).1 hv).1,fun v hv=>b3.nd v ((vK hx v).1 hv).1,fun v w p hv hw=>b3.dj v w p ((vK hx v).1 hv).1 ((vK hx w).1 hw).1,fun p hp=>b3.at' p ((vK hx (some p)).1 hp).1⟩,fun p hp=>?_,fun v p hv hm=>?_,fun m hm=>?_,fun p q hp hq e=>h.inj p q ((pX hx p).1 hp).1 ((pX hx q).1 hq).1 (by rw [←hid p,←hid q]; exact e),?_⟩,fun v hv=>?_,hid⟩
 · rw [dY,bndD,show (toI ks).length=ks.length by unfold toI; simp,Ad (by omega),bJ,b1,bnoS]
   show (bno (rY A (x:Int)) _)=_
   rw [g1,bnoS]
   show (chk (ns1.length=64)<|bno (eF cl (x:Int)) _)=_
   rw [chk,Ao b2,del19 hcl,bnoS]
 · obtain ⟨hpa,hpx⟩:=(pX hx p).1 hp;obtain ⟨v,n,k1,k2,k3,k4,k5⟩:=h.up p hpa;have hvx:v≠some x:=fun e=>by rw [e,hk] at k4; cases k4
   obtain ⟨n',q1,q2⟩:=sE (b4 p) k2;obtain ⟨q3,q4,q5,q6⟩:=uX q2;refine ⟨v,n',(vK hx v).2 ⟨k1,hvx⟩,q1,q4.trans k3,(hdr v p k1).2 ⟨hpx,k4⟩,?_⟩;have e:asN ns1 n' v=asN ns n v:=by unfold asN; rw [q3,q5,q6,hidU]
   rw [e];refine AN.2 ⟨k5,?_⟩;have hne:(asN ns n v).ID≠idP ns x:=fun e=>hpx (h.inj p x hpa hx (by rw [dW k2]; exact e))
   rw [Ad hne]; rfl
 · obtain ⟨hv1,hv2⟩:=(vK hx v).1 hv;obtain ⟨e1,e2⟩:=(hdr v p hv1).1 hm;exact (pX hx p).2 ⟨h.kid v p hv1 e2,e1⟩
 · obtain ⟨hm1,hm2⟩:=AN.1 hm;obtain ⟨p,n,v,k1,k2,k3,k4,rfl⟩:=h.bw m hm1;have hpx:p≠x:=fun e=>by
    subst e;have:(asN ns n v).ID=idP ns p:=(dW k3).symm;rw [Ae this] at hm2;cases hm2
   have hvx:v≠some x:=fun e=>by
    obtain ⟨v',n',q1,q2,q3,q4,q5⟩:=h.up p k1;rw [k3] at q2;injection q2 with q2
    subst q2;have:v=v':=aD9 (k4.symm.trans q3);rw [←this,e,hk] at q4; cases q4
   obtain ⟨n',q1,q2⟩:=sE (b4 p) k3;obtain ⟨q3,q4,q5,q6⟩:=uX q2;refine ⟨p,n',v,(pX hx p).2 ⟨k1,hpx⟩,(vK hx v).2 ⟨k2,hvx⟩,q1,q4.trans k4,?_⟩;unfold asN;rw [q3,q5,q6,hidU]
 · exact List.Pairwise.filter _ h.so
 · by_cases hv2:hdK A v
   · have hvx:v=some x:=by
      refine Classical.byContradiction fun e=>hv ((vK hx v).2 ⟨hv2,e⟩)
     refine CE.2 fun q hm=>?_
     have:=((hdr v q hv2).1 hm).2;rw [hvx,hk] at this; cases this
   · refine CE.2 fun q hm=>?_
     unfold tG at hm;split at hm
     · rename_i e; exact hv2 (e ▸ a1)
     · rw [h0 v hv2] at hm; cases hm
end Go.Fn
open List renaming exists_mem_of_ne_nil → Eu,map_append → Bq
open Nat renaming lt_irrefl → BU
open Go Go.IL
namespace Go.Fn
theorem off_ok{A:AS}{sp:List Nat}{ns:List Nk}{first:Int}{kids:Ag Nat→List Nat}{N:List Nd}(h:RL A sp ns first kids N)(h0:∀ u,¬hdK A u→kids u=[])(hpos:∀ m∈N,1≤m.ID)(hw:∀ m∈N,1≤m.ae∧m.ae≤256){r:Int→Nat}(hr:∀ m∈N,m.aa≠0→r m.aa<r m.ID){x:Nat}(hx:jD A x)(room keep:Int){cl:List Int}(hcl:cl.length≤100000) :
 ∃ L y R ns' first' kids',N=L++y::R∧y.ID=idP ns x∧hD (x:Int) room keep A.Cells A.Free A.Used ns first cl=some (room,keep,(uH A x).Cells,(uH A x).Free,(uH A x).Used,ns',first',cl.filter fun y=>!decide (y=(x:Int)))∧RL (uH A x) (x::sp) ns' first' kids' (offS L y R)∧(∀ u,¬hdK (uH A x) u→kids' u=[])∧(∀ q,idP ns' q=idP ns q):=by
 obtain ⟨v,nx,hv,hxn,hup,hxk,hxN⟩:=h.up x hx;have hyid:(asN ns nx v).ID=idP ns x:=(dW hxn).symm;obtain ⟨L,R,hN⟩:=BR hxN;have hsize:=h.lk.size h.len (u:=some x) hx;have hal:∀ p∈kids (some x),jD A p:=fun p hp=>h.kid (some x) p hx hp
 have hposx:1≤idP ns x:=hyid ▸ hpos _ hxN;have hkid:∀ m∈N,(m.ID∈(kids (some x)).map (idP ns)↔m.aa=idP ns x):=fun m hm=>aAH h hpos (u:=some x) hx hm
 have hnode:∀ p∈kids (some x),∃ n,ns[p]? = some n∧n.up=upI (some x)∧asN ns n (some x)∈N:=fun p hp=>by
  obtain ⟨u,n,g1,g2,g3,g4,g5⟩:=h.up p (hal p hp);have hu:u=some x:=h.lk.dj u (some x) p g1 hx g4 hp;subst hu;exact ⟨n,g2,g3,g5⟩
 have hrk:∀ p∈kids (some x),r (idP ns x)<r (idP ns p):=fun p hp=>by
  obtain ⟨n,g1,g2,g3⟩:=hnode p hp;have:=hr _ g3 (show idP ns x≠0 by omega);rw [dW g1]; exact this
 have hvx:v≠some x:=fun e=>by
  subst e;have:=hr _ hxN (show idP ns x≠0 by omega);rw [hyid] at this;exact BU _ this
 have hkx:∀ p∈kids (some x),p≠x:=fun p hp e=>by
  have:=hrk p hp;rw [e] at this; omega
 have hkv:∀ p∈kids (some x),v≠some p:=fun p hp e=>by
  subst e;obtain ⟨n,g1,g2,g3⟩:=hnode p hp;have h1:=hrk p hp;have h2:=hr _ hxN (show idP ns p≠0 by
   have:=hpos _ g3;rw [dW g1];have:1≤n.id:=this;omega)
  rw [hyid] at h2;have h2:r (idP ns p)<r (idP ns x):=h2;omega
 have hW:=hw _ hxN;have hW:1≤nx.weight∧nx.weight≤256:=hW;have hsum:wsum ns (kids (some x))=sumS N (idP ns x):=ws_sum h hpos hx;have hS2:sumS N (idP ns x)=sumS (L++R) (asN ns nx v).ID:=by
  rw [hyid];have hne:(asN ns nx v).aa≠idP ns x:=fun e=>hvx (aDA h hpos hv (v:=some x) hx e)
  rw [hN,aA6,aA6]
  show _+((if (asN ns nx v).aa=idP ns x then _ else 0)+_)=_
  rw [Al hne]; omega
 have hch:mD ns nx.first (kids (some x)):=by
  have:=h.lk.ch (some x) hx;rw [pS hxn] at this; exact this
 have hwk:∀ p∈kids (some x),0≤(ns.getD p default).weight∧(ns.getD p default).weight≤256:=fun p hp=>by
  obtain ⟨n,g1,g2,g3⟩:=hnode p hp;have:=hw _ g3;have:1≤n.weight∧n.weight≤256:=this;rw [AB,g1];exact ⟨by show 0≤n.weight; omega,this.2⟩
 obtain ⟨f0,hf0⟩:∃ f,fuel=f+1:=⟨fuel-1,by decide⟩;have hstep:hD (x:Int) room keep A.Cells A.Free A.Used ns first cl=dY (x:Int) (sumS N (idP ns x)) (toI (kids (some x))) fuel 0 room keep A.Cells A.Free A.Used ns first cl:=by
  unfold hD;rw [bndD,Ad (by omega),bJ,fM,hxn,bnoS,chk,Ao h.len,As,hxn,bnoS];rw [off8 (kids (some x)) nx.first 0 fuel hch hwk (by omega) (by omega) (dK (by omega))];unfold lC;rw [bndD,Ad (by omega),bJ,fM,hxn,bnoS,chk,Ao h.len,As,hxn,bnoS];have:=coll5 (x:=x) (room:=room) (keep:=keep) (S:=0+wsum ns (kids (some x))) (C:=A.Cells) (F:=A.Free) (U:=A.Used) (first:=first) (cl:=cl) (kids (some x)) [] nx.first fuel hch (by simp; omega) (dK (by omega));rw [show toI []=([]:List Int) from rfl,Bp] at this;rw [this,Int.zero_add,hsum]
 have hall:∃ ns1 first1 kids1 f1,dY (x:Int) (sumS N (idP ns x)) (toI (kids (some x))) fuel 0 room keep A.Cells A.Free A.Used ns first cl=dY (x:Int) (sumS N (idP ns x)) (toI (kids (some x))) (f1+1) ((kids (some x)).length:Int) room keep A.Cells A.Free A.Used ns1 first1 cl∧RL A sp ns1 first1 kids1 (N.map (upsN ((kids (some x)).map (idP ns)) (idU ns v) nx.weight (sumS N (idP ns x))))∧(∀ u,¬hdK A u→kids1 u=[])∧(∀ p,idP ns1 p=idP ns p):=by
  by_cases hk:kids (some x)=[]
  · rw [hk];exact ⟨ns,first,kids,f0,by rw [hf0]; rfl,by rw [Aq,aGU]; exact h,h0,fun _=>rfl⟩
  · obtain ⟨p,hp⟩:=Eu _ hk;obtain ⟨n,g1,g2,g3⟩:=hnode p hp;have hge:=aDR hw g3;have hge:n.weight≤sumS N (idP ns x):=hge;have h1:=(hw _ g3).1;have h1:1≤n.weight:=h1;obtain ⟨ns1,first1,kids1,f1,c1,c2,c3,c4,c5⟩:=off6 hx room keep cl (S:=sumS N (idP ns x)) (by omega) hv hW (cx:=nx.closed) hsize hal hkx hkv (h.lk.nd (some x) hx) (kids (some x)) [] fuel ns first kids N rfl (dK (by omega)) h h0 hpos hw (fun m hm hmi=>by
     have hp:=(hkid m hm).1 hmi;have:=aDR hw hm;rw [hp] at this; exact this) (by rw [dW hxn]; exact hxN)
    exact ⟨ns1,first1,kids1,f1,c1,c2,c3,c4⟩
 obtain ⟨ns1,first1,kids1,f1,c1,c2,c3,c4⟩:=hall
 have hidU:∀ u,idU ns1 u=idU ns u:=fun u=>by cases u with
  | none=>rfl
  | some y=>exact c4 y
 have hpos1:∀ m∈N.map (upsN ((kids (some x)).map (idP ns)) (idU ns v) nx.weight (sumS N (idP ns x))),1≤m.ID:=fun m hm=>by
  obtain ⟨m0,hm0,rfl⟩:=Ak.1 hm;rw [aCd]; exact hpos m0 hm0
 have hk1:kids1 (some x)=[]:=by
  refine CE.2 fun p hp=>?_
  obtain ⟨u,n,g1,g2,g3,g4,g5⟩:=c2.up p (c2.kid (some x) p hx hp);have hpar:=(aAH c2 hpos1 (u:=some x) hx g5).1 (Ak.2 ⟨p,hp,dW g2⟩);rw [hidU] at hpar;obtain ⟨m0,hm0,e⟩:=Ak.1 g5;rw [←e] at hpar;unfold upsN at hpar;split at hpar
  · exact hvx (aDA h hpos hv (v:=some x) hx hpar)
  · rename_i hn;exact hn ((hkid m0 hm0).2 hpar)
 obtain ⟨ns2,first2,kids2,d1,d2,d3,d4⟩:=gone_ok c2 c3 hx hk1 room keep hcl (S:=sumS N (idP ns x)) (ks:=kids (some x)) (by omega) f1;refine ⟨L,asN ns nx v,R,ns2,first2,kids2,hN,hyid,?_,?_,d3,fun q=>(d4 q).trans (c4 q)⟩
 · rw [hstep,c1,d1]
 · have hL:(N.map (upsN ((kids (some x)).map (idP ns)) (idU ns v) nx.weight (sumS N (idP ns x)))).filter (fun n=>!decide (n.ID=idP ns1 x))=offS L (asN ns nx v) R:=by
    have hso:=h.so;rw [hN] at hso;have hdis:∀ m∈L++R,m.ID≠idP ns x:=fun m hm e=>by
     obtain ⟨s1,s2,s3⟩:=Bk.1 hso
     rcases AM.1 hm with hm | hm
     · have:=s3 m hm _ (Cb ..);omega
     · have:=(AI.1 s2).1 m hm;omega
    have hmem:∀ m∈L++R,m∈N:=fun m hm=>by
     rw [hN]
     rcases AM.1 hm with hm | hm
     · exact AM.2 (.inl hm)
     · exact AM.2 (.inr (Bg _ hm))
    have hmapN:∀ m∈L++R,upsN ((kids (some x)).map (idP ns)) (idU ns v) nx.weight (sumS N (idP ns x)) m=offN (asN ns nx v) (sumS (L++R) (asN ns nx v).ID) m:=fun m hm=>by
     unfold upsN offN;rw [hS2]
     by_cases e:m.aa=idP ns x
     · rw [Ao ((hkid m (hmem m hm)).2 e),Ao (e.trans hyid.symm)]; rfl
     · rw [Al (fun hc=>e ((hkid m (hmem m hm)).1 hc)),Al (fun hc=>e (hc.trans hyid))]
    unfold offS;rw [c4 x]
    conv=>lhs; rw [hN]
    rw [Bq,Ai,BO,Be (by rw [aCd,hyid]; simp),Bq]
    congr 1
    · rw [BP.2]
      · exact AF fun m hm=>by rw [←hN]; exact hmapN m (AM.2 (.inl hm))
      · intro a ha;obtain ⟨m,hm,rfl⟩:=Ak.1 ha;rw [aCd,Ad (hdis m (AM.2 (.inl hm)))]; rfl
    · rw [BP.2]
      · exact AF fun m hm=>by rw [←hN]; exact hmapN m (AM.2 (.inr hm))
      · intro a ha;obtain ⟨m,hm,rfl⟩:=Ak.1 ha;rw [aCd,Ad (hdis m (AM.2 (.inr hm)))]; rfl
   rw [←hL]; exact d2
end Go.Fn
open Go Go.IL
namespace Go.Fn
theorem new_ok{A:AS}{sp:List Nat}{ns:List Nk}{first:Int}{kids:Ag Nat→List Nat}{N:List Nd}(h:RL A sp ns first kids N)(h0:∀ u,¬hdK A u→kids u=[])(hu:A.Used<64){id:Int}{L R:List Nd}(hN:N=L++R)(hso:(L++(⟨id,0,16,false⟩:Nd)::R).Pairwise (fun a b=>a.ID<b.ID))(room keep:Int)(cl:List Int) :
 ∃ ns' first' kids',jJ (takeP A sp:Int) (-1) room keep (takeS A id sp).Cells (takeS A id sp).Free (takeS A id sp).Used (ns.set (takeP A sp) (⟨id,0,-1,-1,16,false⟩:Nk)) first cl=some (room,keep,(takeS A id sp).Cells,(takeS A id sp).Free,(takeS A id sp).Used,ns',first',cl)∧RL (takeS A id sp) sp.tail ns' first' kids' (L++(⟨id,0,16,false⟩:Nd)::R)∧(∀ u,¬hdK (takeS A id sp) u→kids' u=[])∧idP ns' (takeP A sp)=id∧(∀ p,p≠takeP A sp→idP ns' p=idP ns p)∧¬ jD A (takeP A sp)∧∀ p,jD (takeS A id sp) p↔jD A p∨p=takeP A sp:=by
 obtain ⟨t1,t2,t3,t4,t5,t6⟩:=aGW h.ga id hu;generalize takeP A sp=q at *;generalize takeS A id sp=A' at *;have hal:∀ p,jD A' p↔jD A p∨p=q:=fun p=>by
  by_cases e:p=q
  · subst e;exact ⟨fun _=>.inr rfl,fun _=>⟨_,t3,rfl⟩⟩
  · unfold jD;rw [t4 p e];exact ⟨fun h=>.inl h,fun h=>h.elim (fun h=>h) (fun h=>Ay h e)⟩
 have hqn:¬ jD A q:=fun ⟨c,hc,hl⟩=>by rw [t5 c hc] at hl; cases hl
 have hqk:∀ v,q ∉ kids v:=fun v hm=>by
  by_cases hv:hdK A v
  · exact hqn (h.kid v q hv hm)
  · rw [h0 v hv] at hm; cases hm
 have hkq:kids (some q)=[]:=h0 _ hqn;have hhd:∀ u,hdK A' u↔hdK A u∨u=some q:=fun u=>by
  cases u with
  | none=>exact ⟨fun h=>.inl h,fun _=>trivial⟩
  | some p =>
    rw [show hdK A' (some p)↔_ from hal p];exact ⟨fun h=>h.elim .inl (fun e=>.inr (e ▸ rfl)),fun h=>h.elim .inl (fun e=>.inr (Option.some.inj e))⟩
 have hvq:∀ v,hdK A v→v≠some q:=fun v hv e=>by subst e; exact hqn hv
 have hq:(ns.set q (⟨id,0,-1,-1,16,false⟩:Nk))[q]? = some (⟨id,0,-1,-1,16,false⟩:Nk):=Aw (by rw [h.len]; exact t6);have hoth:∀ p,p≠q→(ns.set q (⟨id,0,-1,-1,16,false⟩:Nk))[p]? = ns[p]?:=fun p e=>Az (Ne.symm e)
 have hlk:Lk (ns.set q (⟨id,0,-1,-1,16,false⟩:Nk)) first (hdK A') kids:=by
  refine ⟨fun u hu=>?_,fun u hu=>?_,fun u v p hu hv hpu hpv=>?_,fun p hp=>?_⟩
  · rcases (hhd u).1 hu with hu | rfl
    · have hc:=(h.lk.ch u hu).other (hqk u) (⟨id,0,-1,-1,16,false⟩:Nk);have hf:rR (ns.set q (⟨id,0,-1,-1,16,false⟩:Nk)) first u=rR ns first u:=by
       cases u with
       | none=>rfl
       | some p =>
         have hpq:p≠q:=fun e=>hvq _ hu (e ▸ rfl)
         show ((ns.set q _).getD p default).first=(ns.getD p default).first
         rw [AB,hoth p hpq,←AB]
      rw [hf]; exact hc
    · rw [hkq,pS hq]; rfl
  · rcases (hhd u).1 hu with hu | rfl
    · exact h.lk.nd u hu
    · rw [hkq]; exact Dc
  · rcases (hhd u).1 hu with hu | rfl
    · rcases (hhd v).1 hv with hv | rfl
      · exact h.lk.dj u v p hu hv hpu hpv
      · rw [hkq] at hpv; cases hpv
    · rw [hkq] at hpu; cases hpu
  · rcases (hal p).1 hp with hp | rfl
    · obtain ⟨n,hn⟩:=h.lk.at' p hp;exact ⟨n,by rw [hoth p (fun e=>hqn (e ▸ hp))]; exact hn⟩
    · exact ⟨_,hq⟩
 obtain ⟨ns',first',e1,e2,e3,e4,e5⟩:=aHc (by rw [Bz]; exact h.len) hlk (u:=none) trivial hq (fun v _=>hqk v) nofun room keep A'.Cells A'.Free A'.Used cl;have hv1:∀ p,p≠q→rS ns' p=rS ns p:=fun p e=>by
  rw [e4 p e];unfold rS;rw [hoth p e]
 have hn2:∃ n2,ns'[q]? = some n2∧n2.id=id∧n2.up = -1∧n2.weight=16∧n2.closed=false:=by
  have:=e5 _ hq;unfold rS at this;cases h2:ns'[q]? with
  | none=>rw [h2] at this; cases this
  | some n2 =>
    rw [h2] at this;injection this with this
    exact ⟨n2,rfl,AH (·.1) this,AH (·.2.1) this,AH (·.2.2.1) this,AH (·.2.2.2) this⟩
 obtain ⟨n2,f1,f2,f3,f4,f5⟩:=hn2;have hidq:idP ns' q=id:=by rw [dW f1,f2]
 have hid:∀ p,p≠q→idP ns' p=idP ns p:=fun p e=>aCa (hv1 p e)
 have hidU:∀ v,hdK A v→idU ns' v=idU ns v:=fun v hv=>by
  cases v with
  | none=>rfl
  | some p=>exact hid p (fun e=>hvq _ hv (e ▸ rfl))
 have has:asN ns' n2 none=(⟨id,0,16,false⟩:Nd):=by unfold asN; rw [f2,f4,f5]; rfl
 have hmem:∀ m,m∈L++(⟨id,0,16,false⟩:Nd)::R↔m=⟨id,0,16,false⟩∨m∈N:=fun m=>by
  rw [hN]; simp only [AM,Au];constructor
  · rintro (a | a | a)
    · exact .inr (.inl a)
    · exact .inl a
    · exact .inr (.inr a)
  · rintro (a | a | a)
    · exact .inr (.inl a)
    · exact .inl a
    · exact .inr (.inr a)
 have hne:∀ m∈N,m.ID≠id:=fun m hm e=>by
  obtain ⟨s1,s2,s3⟩:=Bk.1 hso;rw [hN] at hm
  rcases AM.1 hm with hm | hm
  · have:=s3 m hm _ (Cb ..);have:m.ID<id:=this;omega
  · have:=(AI.1 s2).1 m hm;have:id<m.ID:=this;omega
 have hida:∀ p,jD A p→idP ns' p=idP ns p∧idP ns p≠id:=fun p hp=>by
  refine ⟨hid p (fun e=>hqn (e ▸ hp)),fun e=>?_⟩;obtain ⟨v,n,k1,k2,k3,k4,k5⟩:=h.up p hp;exact hne _ k5 (by rw [dW k2] at e; exact e)
 refine ⟨ns',first',_,e1,⟨t2,e2,e3,fun p hp=>?_,fun u p hu hm=>?_,fun m hm=>?_,fun p r hp hr e=>?_,hso⟩,fun v hv=>?_,hidq,hid,hqn,hal⟩
 · by_cases e:p=q
   · subst e;refine ⟨none,n2,trivial,f1,f3,?_,(hmem _).2 (.inl has)⟩;unfold xJ; rw [Ao rfl]; exact Cb ..
   · have hp:jD A p:=((hal p).1 hp).elim (fun h=>h) (fun h=>Ay h e);obtain ⟨v,n,k1,k2,k3,k4,k5⟩:=h.up p hp;obtain ⟨n',q1,q2⟩:=sE (hv1 p e) k2;obtain ⟨q3,q4,q5,q6⟩:=uX q2;refine ⟨v,n',(hhd v).2 (.inl k1),q1,q4.trans k3,?_,(hmem _).2 (.inr ?_)⟩
     · unfold xJ;split
       · rename_i e; subst e; exact Bg _ k4
       · exact k4
     · have e:asN ns' n' v=asN ns n v:=by unfold asN; rw [q3,q5,q6,hidU v k1]
       rw [e]; exact k5
 · unfold xJ at hm;split at hm
   · rcases Au.1 hm with e | hm
     · exact (hal p).2 (.inr e)
     · exact (hal p).2 (.inl (h.kid none p trivial hm))
   · rcases (hhd u).1 hu with hu | rfl
     · exact (hal p).2 (.inl (h.kid u p hu hm))
     · rw [hkq] at hm; cases hm
 · rcases (hmem m).1 hm with rfl | hm
   · exact ⟨q,n2,none,(hal q).2 (.inr rfl),trivial,f1,f3,has.symm⟩
   · obtain ⟨p,n,v,k1,k2,k3,k4,rfl⟩:=h.bw m hm;obtain ⟨n',q1,q2⟩:=sE (hv1 p (fun e=>hqn (e ▸ k1))) k3;obtain ⟨q3,q4,q5,q6⟩:=uX q2;refine ⟨p,n',v,(hal p).2 (.inl k1),(hhd v).2 (.inl k2),q1,q4.trans k4,?_⟩;unfold asN; rw [q3,q5,q6,hidU v k2]
 · rcases (hal p).1 hp with hp | rfl
   · rcases (hal r).1 hr with hr | rfl
     · exact h.inj p r hp hr (by rw [←(hida p hp).1,←(hida r hr).1]; exact e)
     · exact Ay (((hida p hp).1.symm.trans e).trans hidq) (hida p hp).2
   · rcases (hal r).1 hr with hr | rfl
     · exact Ay (((hida r hr).1.symm.trans e.symm).trans hidq) (hida r hr).2
     · rfl
 · have hv2:¬ hdK A v:=fun hh=>hv ((hhd v).2 (.inl hh))
   unfold xJ;split
   · rename_i e; subst e; exact Ay trivial hv
   · exact h0 v hv2
end Go.Fn
open List renaming cons_append → BW
open Go Go.IL
namespace Go.Fn
def lowN(N:List Nd)(id:Int):List Nd:=N.filter fun n=>decide (n.ID<id)
def aDu(N:List Nd)(id:Int):List Nd:=N.filter fun n=>decide (id<n.ID)
def newS(N:List Nd)(id:Int):List Nd:=lowN N id++(⟨id,0,16,false⟩:Nd)::aDu N id
theorem yZ{id:Int}:∀ {N:List Nd},N.Pairwise (fun a b=>a.ID<b.ID)→(∀ m∈N,m.ID≠id)→N=lowN N id++aDu N id
 | [],_,_=>rfl
 | n :: N,hs,hn=>by
   obtain ⟨s1,s2⟩:=AI.1 hs;have ih:=yZ s2 fun m hm=>hn m (Bg _ hm)
   have hne:=hn n (Cb ..);unfold lowN aDu at *
   by_cases h:n.ID<id
   · rw [BC (by simp [h]),Be (by simp; omega),BW,←ih]
   · have hl:N.filter (fun n=>decide (n.ID<id))=[]:=Cs.2 fun m hm=>by have:=s1 m hm; simp; omega
     rw [hl,Bp] at ih;rw [Be (by simp [h]),BC (by simp; omega),hl,Bp,←ih]
theorem aCK{id:Int}{N:List Nd}(hs:N.Pairwise (fun a b=>a.ID<b.ID)):(newS N id).Pairwise (fun a b=>a.ID<b.ID):=by
 unfold newS lowN aDu;refine Bk.2 ⟨hs.filter _,AI.2 ⟨fun m hm=>of_decide_eq_true (AN.1 hm).2,hs.filter _⟩,fun a ha b hb=>?_⟩;have h1:a.ID<id:=of_decide_eq_true (AN.1 ha).2
 rcases Au.1 hb with rfl | hb
 · exact h1
 · have h2:id<b.ID:=of_decide_eq_true (AN.1 hb).2;omega
theorem aER{id:Int}{N:List Nd}(hs:N.Pairwise (fun a b=>a.ID<b.ID))(hn:∀ m∈N,m.ID≠id)(m:Nd):m∈newS N id↔m=⟨id,0,16,false⟩∨m∈N:=by
 conv=>rhs; rw [yZ hs hn]
 unfold newS;simp only [AM,Au];constructor
 · rintro (a | a | a)
   · exact .inr (.inl a)
   · exact .inl a
   · exact .inr (.inr a)
 · rintro (a | a | a)
   · exact .inr (.inl a)
   · exact .inl a
   · exact .inr (.inr a)
theorem aEP{id:Int}{N:List Nd}(hs:N.Pairwise (fun a b=>a.ID<b.ID))(hn:∀ m∈N,m.ID≠id):(newS N id).length=N.length+1:=by
 conv=>rhs; rw [yZ hs hn]
 unfold newS
 simp; omega
theorem aIy{A:AS}{sp:List Nat}{ns:List Nk}{first:Int}{kids:Ag Nat→List Nat}{N:List Nd}(h:RL A sp ns first kids N)(h0:∀ u,¬hdK A u→kids u=[])(hpos:∀ m∈N,1≤m.ID)(hu:A.Used<64)(hN:N.length<64){r:Int→Nat}(hr:∀ m∈N,m.aa≠0→r m.aa<r m.ID)(hpa:∀ m∈N,m.aa=0∨∃ x∈N,x.ID=m.aa){id:Int}(hid:1≤id)(hno:∀ m∈N,m.ID≠id)(w:Ws)(hw:w.dep≠id)(hw0:0≤w.dep)(room keep:Int)(cl:List Int) :
 ∃ A' sp' ns' first' kids',iO id w room keep A.Cells A.Free A.Used ns first cl=some (0,room,keep,A'.Cells,A'.Free,A'.Used,ns',first',cl)∧RL A' sp' ns' first' kids' (qE (newS N id) id w)∧(∀ u,¬hdK A' u→kids' u=[])∧∀ p,jD A p→jD A' p∧idP ns' p=idP ns p:=by
 obtain ⟨t1,_,_,_,_,t6⟩:=aGW h.ga id hu;obtain ⟨ns1,first1,kids1,e1,e2,e3,e4,e5,e6,e7⟩:=new_ok h h0 hu (yZ h.so hno) (aCK h.so) room keep cl;have e2:RL (takeS A id sp) sp.tail ns1 first1 kids1 (newS N id):=e2;have hmem:=aER h.so hno;obtain ⟨ns',first',kids',g1,g2,g3,g4⟩:=aFT e2 e3 (fun m hm=>by
  rcases (hmem m).1 hm with rfl | hm
  · exact hid
  · exact hpos m hm) (by rw [aEP h.so hno]; omega) (r:=r) (fun m hm hp=>by
  rcases (hmem m).1 hm with rfl | hm
  · exact Ay rfl hp
  · exact hr m hm hp) (fun m hm=>by
  rcases (hmem m).1 hm with rfl | hm
  · exact .inl rfl
  · rcases hpa m hm with e | ⟨x,hx,e⟩
    · exact .inl e
    · exact .inr ⟨x,(hmem x).2 (.inr hx),e⟩) (x:=takeP A sp) ((e7 _).2 (.inr rfl)) w (by rw [e4]; exact hw) hw0 room keep cl
 rw [e4] at g2;obtain ⟨n0,hn0⟩:∃ n,ns[takeP A sp]? = some n:=⟨_,AY (by rw [h.len]; exact t6)⟩;refine ⟨takeS A id sp,sp.tail,ns',first',kids',?_,g2,g3,fun p hp=>⟨(e7 p).2 (.inl hp),(g4 p).trans (e5 p fun e=>e6 (e ▸ hp))⟩⟩;unfold iO;rw [show rX (⟨A.Cells,A.Free,A.Used⟩:AS) id=_ from t1,bnoS,bndD]
 show (bif (!decide ((0:Int)=0)) then _ else _)=_
 rw [Ae rfl,AD,bJ]
 show (bno (gix ns (takeP A sp:Int)) _)=_
 rw [fM,hn0,bnoS,chk,Ao h.len]
 show (bno (ns[((takeP A sp:Nat):Int).toNat]?) _)=_
 rw [As,hn0,bnoS,bndD]
 show (bno (jJ (takeP A sp:Int) (-1) room keep (takeS A id sp).Cells (takeS A id sp).Free (takeS A id sp).Used (ns.set (((takeP A sp:Nat):Int).toNat) (⟨id,0,-1,-1,16,false⟩:Nk)) first cl) _)=_
 rw [As,e1,bnoS]
 show (bno (jO (takeP A sp:Int) w room keep (takeS A id sp).Cells (takeS A id sp).Free (takeS A id sp).Used ns1 first1 cl) _)=_
 rw [g1,bnoS]
end Go.Fn
open Go Go.IL
namespace Go.Fn
theorem aGA{N:List Nd}{x:Int}{w:Ws}{r:Int→Nat}(h:HP N x r)(hf:(∀ n∈N,n.aa≠0→r n.aa<r n.ID)∧∀ n∈N,n.aa=0∨∃ m∈N,m.ID=n.aa)(hne:w.dep≠x)(hw:1≤w.weight∧w.weight≤256):∃ g,qE N x w=N.map g∧Hung N g:=by
 unfold qE
 by_cases hc:w.dep≠0∧∀ m∈N,m.ID≠w.dep
 · have hws:pY N w=⟨0,16,false⟩:=Ao hc;rw [hws];have:upN N x 0=N:=Al (fun hh=>hh.1 rfl);exact ⟨pO x 0 16 false,by show (upN N x 0).map _=_; rw [this],aDB h (by decide) (fun hh=>Ay rfl hh)⟩
 · have hws:pY N w=w:=Al hc;rw [hws]
   by_cases h0:w.dep=0
   · have:upN N x w.dep=N:=Al (fun hh=>hh.1 h0);exact ⟨pO x w.dep w.weight w.only,by rw [this],aDB h hw (fun hh=>Ay h0 hh)⟩
   · have hex:∃ k∈N,k.ID=w.dep:=by
      refine Classical.byContradiction fun hn=>hc ⟨h0,fun m hm e=>hn ⟨m,hm,e⟩⟩
     obtain ⟨k,hkm,hk⟩:=hex;obtain ⟨y,hy,hyx⟩:=h.xm;have hkx:k.ID≠x:=by rw [hk]; exact hne
     by_cases hin:x∈fL N N.length w.dep
     · have hanc:Anc N x k.ID:=by rw [hk]; exact aE9 h.ok.so _ _ hne hin (by have:=h.ok.ra y hy; omega)
       obtain ⟨h1,h2⟩:=hp_move h hy hyx hkm hkx hanc hf;have hu:=aDB (d:=w.dep) (w:=w.weight) (o:=w.only) h1 hw (fun _=>⟨⟨_,Ak.2 ⟨k,hkm,rfl⟩,(oK _ _ _).trans hk⟩,by rw [←hk]; exact h2⟩);have hpar:tD N x=some y.aa:=by rw [←hyx]; exact yM h.ok.so hy
       have hup:upN N x w.dep=N.map (mvN k.ID y.aa):=by
        unfold upN;rw [Ao ⟨h0,hin⟩,hpar,hk]; rfl
       refine ⟨pO x w.dep w.weight w.only ∘ mvN k.ID y.aa,by rw [hup,BM],⟨fun n=>(hu.id _).trans (oK _ _ _),fun n=>(hu.cl _).trans ?_,fun n hn=>hu.ra _ (Ak.2 ⟨n,hn,rfl⟩),fun n hn=>?_,?_⟩⟩
       · unfold mvN; split <;> rfl
       · rcases hu.pa _ (Ak.2 ⟨n,hn,rfl⟩) with e | ⟨m,hm,e⟩
         · exact .inl e
         · obtain ⟨z,hz,ez⟩:=Ak.1 hm;have e2:z.ID=m.ID:=by rw [←ez,oK]
           exact .inr ⟨z,hz,e2.trans e⟩
       · obtain ⟨r',hr'⟩:=hu.rk;rw [BM] at hr';exact ⟨r',hr'⟩
     · have hna:¬ Anc N x w.dep:=not_anc h.ok.so hf.1 hf.2 ⟨k,hkm,hk⟩ hne hin;have hup:upN N x w.dep=N:=Al (fun hh=>hin hh.2);exact ⟨pO x w.dep w.weight w.only,by rw [hup],aDB h hw (fun _=>⟨⟨k,hkm,hk⟩,hna⟩)⟩
theorem aFV{K:Int}{N:List Nd}{E:List Int}(h:FV K ⟨24,K,N,E⟩){x:Int}(hx:∃ n∈N,n.ID=x){w:Ws}(hne:w.dep≠x)(hw:1≤w.weight∧w.weight≤256):FV K ⟨24,K,qE N x w,E⟩∧(qE N x w).length=N.length:=by
 obtain ⟨r,hr⟩:=h.rk;have hp:HP N x r:=⟨h.ok,hx,fun n hn=>(h.ra n hn).2,fun n hn _=>h.pa n hn,fun n hn _ hz=>hr n hn hz,.inl ⟨hr,h.pa⟩⟩;obtain ⟨g,e,hg⟩:=aGA hp ⟨hr,h.pa⟩ hne hw;rw [e];exact ⟨fv_hung h.bs hg,An ..⟩
theorem fv_new{K:Int}{N:List Nd}{E:List Int}(h:FV K ⟨24,K,N,E⟩){id:Int}(hid:1≤id∧id≤1048576)(hno:∀ m∈N,m.ID≠id)(hlt:N.length<24):FV K ⟨24,K,newS N id,E⟩:=by
 have hmem:=aER h.so hno;obtain ⟨r,hr⟩:=h.rk;refine ⟨rfl,h.kp,by show (newS N id).length≤24; rw [aEP (N:=N) h.so hno]; exact hlt,h.el,aCK h.so,fun n hn=>?_,fun n hn=>?_,⟨r,fun n hn hp=>?_⟩,fun n hn=>?_,h.nd,fun e he=>?_⟩
 · rcases (hmem n).1 hn with rfl | hn
   · exact ⟨hid,by show (1:Int)≤16; decide,by show (16:Int)≤256; decide⟩
   · exact h.ra n hn
 · rcases (hmem n).1 hn with rfl | hn
   · exact .inl rfl
   · rcases h.pa n hn with e | ⟨m,hm,e⟩
     · exact .inl e
     · exact .inr ⟨m,(hmem m).2 (.inr hm),e⟩
 · rcases (hmem n).1 hn with rfl | hn
   · exact Ay rfl hp
   · exact hr n hn hp
 · rcases (hmem n).1 hn with rfl | hn
   · refine ⟨fun hc=>(by cases hc),fun hc=>?_⟩;obtain ⟨m,hm,e2⟩:=h.es _ hc;exact Ay e2 (hno m hm)
   · exact h.en n hn
 · obtain ⟨n,hn,e2⟩:=h.es e he;exact ⟨n,(hmem n).2 (.inr hn),e2⟩
end Go.Fn
open Go Go.IL
namespace Go.Fn
structure TS (A:AS) (ns:List Nk) (first:Int) (cl:List Int) (R K:Int) (N:List Nd) (E:List Int):Prop where
 rl:∃ sp kids,RL A sp ns first kids N∧∀ u,¬hdK A u→kids u=[]
 cn:∃ cN:List Nat,cl=toI cN∧(∀ p∈cN,jD A p)∧E=cN.map (idP ns)
 fv:FV K ⟨24,K,N,E⟩
 ln:(N.length:Int)≤R
 rm:R≤24
theorem aCc{A:AS}{sp:List Nat}{ns:List Nk}{first:Int}{kids:Ag Nat→List Nat}{N:List Nd}(h:RL A sp ns first kids N):A.Used=(N.length:Int):=by
 rw [h.ga.used];have hl:=zA A.Cells 0;rw [←hl];have hp:((qP A.Cells 0).map (idP ns)).Perm (N.map (·.ID)):=by
  refine (Eo ?_ (zH h.so)).2 fun i=>?_
  · refine Bi.2 ((xY A.Cells 0).imp_of_mem fun {p q} hp hq hne e=>hne (h.inj p q (rM.2 hp) (rM.2 hq) e))
  · constructor
    · intro hi;obtain ⟨p,hp,rfl⟩:=Ak.1 hi;obtain ⟨v,n,k1,k2,k3,k4,k5⟩:=h.up p (rM.2 hp);exact Ak.2 ⟨_,k5,(dW k2).symm⟩
    · intro hi;obtain ⟨m,hm,rfl⟩:=Ak.1 hi;obtain ⟨p,n,v,k1,k2,k3,k4,rfl⟩:=h.bw m hm;exact Ak.2 ⟨p,rM.1 k1,dW k3⟩
 have:=hp.length_eq;rw [An,An] at this;rw [this]
theorem aCD(x:Nat):∀ (l:List Nat),(toI l).filter (fun y=>!decide (y=(x:Int)))=toI (l.filter fun p=>!decide (p=x))
 | []=>rfl
 | p::l=>by
   have ih:=aCD x l;rw [show toI (p::l)=(p:Int)::toI l from rfl]
   by_cases e:p=x
   · rw [Be (by simp [e]),Be (by simp [e]),ih]
   · rw [BC (by simp; omega),BC (by simp [e]),ih]; rfl
theorem aG0{A:AS}{ns:List Nk}{first:Int}{cl:List Int}{R K:Int}{N:List Nd}{E:List Int}(h:TS A ns first cl R K N E){x:Nat}(hx:jD A x)(room keep:Int) :
 ∃ L y Rr ns' first' cl',N=L++y::Rr∧y.ID=idP ns x∧hD (x:Int) room keep A.Cells A.Free A.Used ns first cl=some (room,keep,(uH A x).Cells,(uH A x).Free,(uH A x).Used,ns',first',cl')∧TS (uH A x) ns' first' cl' R K (offS L y Rr) (E.filter fun e=>!decide (e=y.ID))∧∀ q,idP ns' q=idP ns q:=by
 obtain ⟨sp,kids,hR,h0⟩:=h.rl;obtain ⟨cN,c1,c2,c3⟩:=h.cn;obtain ⟨r,hr⟩:=h.fv.rk;have hEl:(E.length:Int)≤K:=h.fv.el;have hK:K≤24:=h.fv.kp.2.2;have hcl:cl.length≤100000:=by
  rw [c1];rw [c3,An] at hEl;unfold toI;rw [An]; omega
 obtain ⟨L,y,Rr,ns',first',kids',g1,g2,g3,g4,g5,g6⟩:=off_ok hR h0 (fun m hm=>(h.fv.ra m hm).1.1) (fun m hm=>(h.fv.ra m hm).2) hr hx room keep hcl;refine ⟨L,y,Rr,ns',first',_,g1,g2,g3,⟨⟨_,kids',g4,g5⟩,⟨cN.filter fun p=>!decide (p=x),by rw [c1,aCD],fun p hp=>?_,?_⟩,aJm h.fv g1,?_,h.rm⟩,g6⟩
 · obtain ⟨h1,h2⟩:=AN.1 hp;exact (pX hx p).2 ⟨c2 p h1,fun e=>by rw [Ae e] at h2; cases h2⟩
 · rw [g2,c3,List.filter_map,AF (fun p _=>g6 p)]
   congr 1
   refine List.filter_congr fun p hp=>?_
   show (!decide (idP ns p=idP ns x)) = !decide (p=x)
   congr 1
   by_cases e:p=x
   · rw [Ae e,Ae (by rw [e])]
   · rw [Ad e,Ad (fun hh=>e (hR.inj p x (c2 p hp) hx hh))]
 · have:=h.ln;rw [g1] at this;unfold offS;rw [An];simp at this ⊢;omega
end Go.Fn
open Go Go.IL
namespace Go.Fn
def offT(N:List Nd)(e:Int):List Nd:=match N.find? (fun n=>decide (n.ID=e)) with
 | some y=>(N.filter fun n=>!decide (n.ID=e)).map (offN y (sumS (N.filter fun n=>!decide (n.ID=e)) y.ID))
 | none=>N
theorem aG1{N L Rr:List Nd}{y:Nd}{e:Int}(hs:N.Pairwise (fun a b=>a.ID<b.ID))(hN:N=L++y::Rr)(he:y.ID=e):offS L y Rr=offT N e:=by
 rw [hN] at hs;obtain ⟨s1,s2,s3⟩:=Bk.1 hs;have hL:∀ m∈L,m.ID≠e:=fun m hm hh=>by
  have:=s3 m hm y (Cb ..);omega
 have hR:∀ m∈Rr,m.ID≠e:=fun m hm hh=>by
  have:=(AI.1 s2).1 m hm;omega
 have hf:N.find? (fun n=>decide (n.ID=e))=some y:=by
  rw [hN,CX,Cc.2 (fun m hm=>by simp [hL m hm]),Option.none_or,List.find?_cons_of_pos (by simp [he])]
 have hfl:N.filter (fun n=>!decide (n.ID=e))=L++Rr:=by
  rw [hN,BO,Be (by simp [he]),BP.2 (fun m hm=>by simp [hL m hm]),BP.2 (fun m hm=>by simp [hR m hm])]
 unfold offT offS;rw [hf,hfl]
def aI6(id:Int)(w:Ws):Prop:=(1≤id∧id≤1048576)∧w.dep≠id∧0≤w.dep∧1≤w.weight∧w.weight≤256
def fullS(N:List Nd)(id:Int)(w:Ws):List Int→Int×List Nd×List Int
 | []=>(7,N,[])
 | e::E=>(0,qE (newS (offT N e) id) id w,(e::E).filter fun z=>!decide (z=e))
def insS(R:Int)(N:List Nd)(E:List Int)(id:Int)(w:Ws):Int×List Nd×List Int :=
 if (N.length:Int)<R then (0,qE (newS N id) id w,E) else fullS N id w E
theorem aFP{A:AS}{ns:List Nk}{first:Int}{cl:List Int}{R K:Int}{N:List Nd}{E:List Int}(h:TS A ns first cl R K N E)(hlt:(N.length:Int)<R){id:Int}{w:Ws}(hw:aI6 id w)(hno:∀ m∈N,m.ID≠id)(room keep:Int) :
 ∃ A' ns' first',iO id w room keep A.Cells A.Free A.Used ns first cl=some (0,room,keep,A'.Cells,A'.Free,A'.Used,ns',first',cl)∧TS A' ns' first' cl R K (qE (newS N id) id w) E:=by
 obtain ⟨sp,kids,hR,h0⟩:=h.rl;obtain ⟨cN,c1,c2,c3⟩:=h.cn;obtain ⟨r,hr⟩:=h.fv.rk;have hrm:=h.rm;obtain ⟨w1,w2,w3,w4⟩:=hw;have hul:=aCc hR;obtain ⟨A',sp',ns',first',kids',g1,g2,g3,g4⟩:=aIy hR h0 (fun m hm=>(h.fv.ra m hm).1.1) (by omega) (by omega) hr h.fv.pa w1.1 hno w w2 w3 room keep cl;have hfn:=fv_new h.fv w1 hno (by omega);obtain ⟨f1,f2⟩:=aFV hfn (x:=id) ⟨_,(aER h.fv.so hno _).2 (.inl rfl),rfl⟩ w2 w4;refine ⟨A',ns',first',g1,⟨⟨sp',kids',g2,g3⟩,⟨cN,c1,fun p hp=>(g4 p (c2 p hp)).1,?_⟩,f1,?_,hrm⟩⟩
 · rw [c3];exact AF fun p hp=>((g4 p (c2 p hp)).2).symm
 · rw [f2,aEP (N:=N) h.fv.so hno]; omega
theorem aDt{A:AS}{ns:List Nk}{first:Int}{cl:List Int}{R K:Int}{N:List Nd}{E:List Int}(h:TS A ns first cl R K N E){id:Int}{w:Ws}(hw:aI6 id w)(hno:∀ m∈N,m.ID≠id) :
 ∃ A' ns' first' cl',lD id w R K A.Cells A.Free A.Used ns first cl=some ((insS R N E id w).1,R,K,A'.Cells,A'.Free,A'.Used,ns',first',cl')∧TS A' ns' first' cl' R K (insS R N E id w).2.1 (insS R N E id w).2.2:=by
 obtain ⟨sp,kids,hR,h0⟩:=h.rl;obtain ⟨cN,c1,c2,c3⟩:=h.cn;have hul:=aCc hR;have hln:=h.ln;unfold lD qI;rw [bnoS,bndD,hul]
 by_cases hlt:(N.length:Int)<R
 · rw [Ad (by omega),bJ];obtain ⟨A',ns',first',g1,g2⟩:=aFP h hlt hw hno R K;rw [hul] at g1;have e:insS R N E id w=(0,qE (newS N id) id w,E):=Ao hlt;rw [e];exact ⟨A',ns',first',cl,g1,g2⟩
 · rw [Ae (by omega),bO,chk,Ao hR.len,bndD];have e:insS R N E id w=fullS N id w E:=Al hlt;rw [e];cases cN with
   | nil =>
     have hc:cl=[]:=c1;have hE:E=[]:=c3;subst hc;subst hE;refine ⟨A,ns,first,[],?_,h⟩;rw [←hul]; rfl
   | cons p cN =>
     have hE:E=idP ns p::cN.map (idP ns):=c3;have hc:cl=(p:Int)::toI cN:=c1;obtain ⟨L,y,Rr,ns1,first1,cl1,g1,g2,g3,g4,g5⟩:=aG0 h (c2 p (by simp)) R K;rw [hul] at g3;have hT:offS L y Rr=offT N (idP ns p):=aG1 h.fv.so g1 g2;rw [hT,g2] at g4;have hno1:∀ m∈offT N (idP ns p),m.ID≠id:=fun m hm=>by
      rw [←hT] at hm;unfold offS at hm;obtain ⟨m0,hm0,rfl⟩:=Ak.1 hm;rw [wB];refine hno m0 ?_;rw [g1]
      rcases AM.1 hm0 with hm | hm
      · exact AM.2 (.inl hm)
      · exact AM.2 (.inr (Bg _ hm))
     have hl1:((offT N (idP ns p)).length:Int)<R:=by
      rw [←hT];rw [g1] at hln;unfold offS;rw [An];simp at hln ⊢;omega
     obtain ⟨A',ns',first',k1,k2⟩:=aFP g4 hl1 hw hno1 R K;rw [hE] at k2 ⊢;refine ⟨A',ns',first',cl1,?_,k2⟩;rw [hc];rw [show decide ((((p:Int)::toI cN).length:Int)=0)=false from Ad (by simp; omega),bJ]
     show (bno (hD (p:Int) R K A.Cells A.Free (N.length:Int) ns first ((p:Int)::toI cN)) _)=_
     rw [←hc,g3,bnoS];exact k1
end Go.Fn
open Go Go.IL
namespace Go.Fn
def fitW(id:Int)(w:Ws):Prop:=(1≤id∧id≤1048576)∧(0≤w.dep∧w.dep≤1048576)∧1≤w.weight∧w.weight≤256
instance (id:Int) (w:Ws):Decidable (fitW id w):=inferInstanceAs (Decidable (_∧_))
def yE(id:Int)(w:Ws):Int:=if fitW id w then (if id=w.dep then 4 else 0) else 8
theorem aHY(a b c:Int):rD a b c=some (decide (b≤a∧a≤c)):=by
 unfold rD;rw [bndD,bndD,bndD,←Bool.decide_and]
theorem aGR(id:Int)(w:Ws):nH w id=some (yE id w):=by
 unfold nH lB yE;rw [aHY,bnoS]
 by_cases h1:1≤id∧id≤1048576
 · rw [Ae h1,AD,bJ,aHY,bnoS]
   by_cases h2:0≤w.dep∧w.dep≤1048576
   · rw [Ae h2,AD,bJ,aHY,bnoS]
     by_cases h3:1≤w.weight∧w.weight≤256
     · rw [Ae h3,AD,bJ,bndD,Ao (show fitW id w from ⟨h1,h2,h3⟩)]
       by_cases h4:id=w.dep
       · rw [Ae h4,bO,Ao h4]
       · rw [Ad h4,bJ,Al h4]
     · rw [Ad h3,AL,bO,Al (fun hh:fitW id w=>h3 hh.2.2)]
   · rw [Ad h2,AL,bO,bO,Al (fun hh:fitW id w=>h2 hh.2.1)]
 · rw [Ad h1,AL,bO,bO,Al (fun hh:fitW id w=>h1 hh.1)]
theorem yD{id:Int}{w:Ws}(h:yE id w=0):aI6 id w:=by
 unfold yE at h;split at h
 · rename_i hf;split at h
   · cases h
   · rename_i hn;exact ⟨hf.1,fun e=>hn e.symm,hf.2.1.1,hf.2.2⟩
 · cases h
def hasN(N:List Nd)(id:Int):Prop:=∃ m∈N,m.ID=id
instance (N:List Nd) (id:Int):Decidable (hasN N id):=inferInstanceAs (Decidable (∃ m∈N,m.ID=id))
theorem aAN{A:AS}{ns:List Nk}{first:Int}{cl:List Int}{R K:Int}{N:List Nd}{E:List Int}(h:TS A ns first cl R K N E)(id:Int)(room keep:Int) :
 (hasN N id∧∃ p,jD A p∧idP ns p=id∧dZ id room keep A.Cells A.Free A.Used ns first cl=some (p:Int))∨(¬hasN N id∧dZ id room keep A.Cells A.Free A.Used ns first cl=some (-1)):=by
 obtain ⟨sp,kids,hR,h0⟩:=h.rl
 rcases aHq hR id room keep cl with ⟨p,p1,p2,p3⟩ | ⟨p1,p2⟩
 · obtain ⟨v,n,k1,k2,k3,k4,k5⟩:=hR.up p p1;exact .inl ⟨⟨_,k5,(dW k2).symm.trans p2⟩,p,p1,p2,p3⟩
 · refine .inr ⟨fun ⟨m,hm,e⟩=>?_,p2⟩;obtain ⟨p,n,v,k1,k2,k3,k4,rfl⟩:=hR.bw m hm;exact p1 p k1 ((dW k3).trans e)
theorem aI5{A:AS}{ns:List Nk}{first:Int}{cl:List Int}{R K:Int}{N:List Nd}{E:List Int}(h:TS A ns first cl R K N E){x:Nat}(hx:jD A x){w:Ws}(hw:aI6 (idP ns x) w)(room keep:Int) :
 ∃ ns' first',jO (x:Int) w room keep A.Cells A.Free A.Used ns first cl=some (room,keep,A.Cells,A.Free,A.Used,ns',first',cl)∧TS A ns' first' cl R K (qE N (idP ns x) w) E:=by
 obtain ⟨sp,kids,hR,h0⟩:=h.rl;obtain ⟨cN,c1,c2,c3⟩:=h.cn;obtain ⟨r,hr⟩:=h.fv.rk;have hln:N.length≤24:=h.fv.ln;obtain ⟨w1,w2,w3,w4⟩:=hw;obtain ⟨ns',first',kids',g1,g2,g3,g4⟩:=aFT hR h0 (fun m hm=>(h.fv.ra m hm).1.1) (by omega) hr h.fv.pa hx w w2 w3 room keep cl;obtain ⟨v,n,k1,k2,k3,k4,k5⟩:=hR.up x hx;obtain ⟨f1,f2⟩:=aFV h.fv (x:=idP ns x) ⟨_,k5,(dW k2).symm⟩ w2 w4;refine ⟨ns',first',g1,⟨sp,kids',g2,g3⟩,⟨cN,c1,c2,?_⟩,f1,by rw [f2]; exact h.ln,h.rm⟩;rw [c3];exact AF fun p hp=>(g4 p).symm
def uK(R:Int)(N:List Nd)(E:List Int)(id:Int)(w:Ws):Int×List Nd×List Int :=
 if yE id w=0 then (if hasN N id then (13,N,E) else insS R N E id w) else (yE id w,N,E)
def aDN(R:Int)(N:List Nd)(E:List Int)(id:Int)(w:Ws):Int×List Nd×List Int :=
 if yE id w=0 then (if hasN N id then (0,qE N id w,E) else insS R N E id w) else (yE id w,N,E)
def vL(N:List Nd)(E:List Int)(id:Int):Int×List Nd×List Int :=
 if hasN N id then (0,offT N id,E.filter fun e=>!decide (e=id)) else (6,N,E)
theorem aIJ{A:AS}{ns:List Nk}{first:Int}{cl:List Int}{R K:Int}{N:List Nd}{E:List Int}(h:TS A ns first cl R K N E)(id dep weight:Int)(only:Bool) :
 ∃ A' ns' first' cl',jA id dep weight only R K A.Cells A.Free A.Used ns first cl=some ((uK R N E id ⟨dep,weight,only⟩).1,R,K,A'.Cells,A'.Free,A'.Used,ns',first',cl')∧TS A' ns' first' cl' R K (uK R N E id ⟨dep,weight,only⟩).2.1 (uK R N E id ⟨dep,weight,only⟩).2.2:=by
 unfold jA uK;rw [aGR,bnoS,bndD]
 by_cases h1:yE id ⟨dep,weight,only⟩=0
 · rw [Ae h1,AD,bJ,Ao h1]
   rcases aAN h id R K with ⟨f1,p,f2,f3,f4⟩ | ⟨f1,f4⟩
   · rw [f4,bnoS,bndD,Ad (by omega),AL,bO,Ao f1];exact ⟨A,ns,first,cl,rfl,h⟩
   · rw [f4,bnoS,bndD,Ae rfl,AD,bJ,Al f1];obtain ⟨A',ns',first',cl',g1,g2⟩:=aDt h (yD h1) fun m hm e=>f1 ⟨m,hm,e⟩
     rw [g1,bnoS];exact ⟨A',ns',first',cl',rfl,g2⟩
 · rw [Ad h1,AL,bO,Al h1];exact ⟨A,ns,first,cl,rfl,h⟩
theorem Move_ts{A:AS}{ns:List Nk}{first:Int}{cl:List Int}{R K:Int}{N:List Nd}{E:List Int}(h:TS A ns first cl R K N E)(id dep weight:Int)(only:Bool) :
 ∃ A' ns' first' cl',oI id dep weight only R K A.Cells A.Free A.Used ns first cl=some ((aDN R N E id ⟨dep,weight,only⟩).1,R,K,A'.Cells,A'.Free,A'.Used,ns',first',cl')∧TS A' ns' first' cl' R K (aDN R N E id ⟨dep,weight,only⟩).2.1 (aDN R N E id ⟨dep,weight,only⟩).2.2:=by
 unfold oI aDN;rw [aGR,bnoS,bndD]
 by_cases h1:yE id ⟨dep,weight,only⟩=0
 · rw [Ae h1,AD,bJ,Ao h1]
   rcases aAN h id R K with ⟨f1,p,f2,f3,f4⟩ | ⟨f1,f4⟩
   · rw [f4,bnoS,bndD,Ad (by omega),bJ,Ao f1];obtain ⟨ns',first',g1,g2⟩:=aI5 h f2 (by rw [f3]; exact yD h1) R K;rw [g1,bnoS];rw [f3] at g2;exact ⟨A,ns',first',cl,rfl,g2⟩
   · rw [f4,bnoS,bndD,Ae rfl,bO,Al f1];obtain ⟨A',ns',first',cl',g1,g2⟩:=aDt h (yD h1) fun m hm e=>f1 ⟨m,hm,e⟩
     rw [g1,bnoS];exact ⟨A',ns',first',cl',rfl,g2⟩
 · rw [Ad h1,AL,bO,Al h1];exact ⟨A,ns,first,cl,rfl,h⟩
theorem aIG{A:AS}{ns:List Nk}{first:Int}{cl:List Int}{R K:Int}{N:List Nd}{E:List Int}(h:TS A ns first cl R K N E)(id:Int) :
 ∃ A' ns' first' cl',mV id R K A.Cells A.Free A.Used ns first cl=some ((vL N E id).1,R,K,A'.Cells,A'.Free,A'.Used,ns',first',cl')∧TS A' ns' first' cl' R K (vL N E id).2.1 (vL N E id).2.2:=by
 unfold mV vL
 rcases aAN h id R K with ⟨f1,p,f2,f3,f4⟩ | ⟨f1,f4⟩
 · rw [f4,bnoS,bndD,Ad (by omega),bJ,Ao f1];obtain ⟨L,y,Rr,ns',first',cl',g1,g2,g3,g4,g5⟩:=aG0 h f2 R K;rw [g3,bnoS];rw [aG1 h.fv.so g1 (g2.trans f3),g2.trans f3] at g4;exact ⟨uH A p,ns',first',cl',rfl,g4⟩
 · rw [f4,bnoS,bndD,Ae rfl,bO,Al f1];exact ⟨A,ns,first,cl,rfl,h⟩
end Go.Fn
open List renaming length_singleton → BN
open Go Go.IL
namespace Go.Fn
def clN(id:Int)(n:Nd):Nd:=if n.ID=id then ⟨n.ID,n.aa,n.ae,true⟩ else n
theorem aCU(id:Int)(n:Nd):(clN id n).ID=n.ID:=by unfold clN; split <;> rfl
theorem aH1(id:Int)(n:Nd):(clN id n).aa=n.aa:=by unfold clN; split <;> rfl
theorem clN_w(id:Int)(n:Nd):(clN id n).ae=n.ae:=by unfold clN; split <;> rfl
theorem map_cl{A C:List Nd}{y:Nd}(hs:(A++y::C).Pairwise (fun a b=>a.ID<b.ID)):(A++y::C).map (clN y.ID)=A++(⟨y.ID,y.aa,y.ae,true⟩:Nd)::C:=by
 obtain ⟨hA,hC⟩:=aBx hs;rw [Bq,Ai];have e1:A.map (clN y.ID)=A:=by
  conv=>rhs; rw [←CH A]
  exact AF (fun a ha=>by unfold clN; rw [Al (hA a ha)]; rfl)
 have e2:C.map (clN y.ID)=C:=by
  conv=>rhs; rw [←CH C]
  exact AF (fun a ha=>by unfold clN; rw [Al (hC a ha)]; rfl)
 rw [e1,e2]
 congr 2
 unfold clN; rw [Ao rfl]
theorem aHj{st:Fs}(h:FV 24 st){y:Nd}(hy:y∈st.ai)(hc:y.af=false):FV 24 ⟨st.aj,st.ak,st.ai.map (clN y.ID),st.al++[y.ID]⟩∧st.al.length+1≤24:=by
 obtain ⟨r,hr⟩:=h.rk;have hln:=h.ln;have hlen:st.al.length+1≤24:=by
  obtain ⟨A,C,hN⟩:=BR hy;have h1:(A.filter (·.af)).length+(C.filter (·.af)).length=st.al.length:=by
   have:=aGH h;rw [hN,BO,Be (by rw [hc]; simp),AO] at this;exact this
  rw [hN] at hln;have h2:=Bs (·.af) A;have h3:=Bs (·.af) C;simp only [AO,AR] at hln;omega
 have hni:¬ y.ID∈st.al:=fun hm=>by have:=(h.en y hy).2 hm; rw [hc] at this; cases this
 have himg:∀ m∈st.ai.map (clN y.ID),∃ n∈st.ai,m=clN y.ID n:=fun m hm=>by
  obtain ⟨n,hn,e⟩:=Ak.1 hm;exact ⟨n,hn,e.symm⟩
 have hin:∀ p:Int,(∃ m∈st.ai,m.ID=p)→∃ m∈st.ai.map (clN y.ID),m.ID=p:=fun p ⟨m,hm,e⟩=>⟨_,Ak.2 ⟨m,hm,rfl⟩,(aCU _ _).trans e⟩
 refine ⟨⟨h.rm,h.kp,by show (st.ai.map _).length≤24; rw [An]; exact hln,by show ((st.al++[y.ID]).length:Int)≤24; rw [AO,BN]; omega,?_,fun m hm=>?_,fun m hm=>?_,⟨r,fun m hm hz=>?_⟩,fun m hm=>?_,?_,fun e he=>?_⟩,hlen⟩
 · show (st.ai.map _).Pairwise _
   rw [Bi];exact h.so.imp (fun hab=>by rw [aCU,aCU]; exact hab)
 · obtain ⟨n,hn,rfl⟩:=himg m hm;rw [aCU,clN_w]; exact h.ra n hn
 · obtain ⟨n,hn,rfl⟩:=himg m hm;rw [aH1]; exact (h.pa n hn).imp id (hin _)
 · obtain ⟨n,hn,rfl⟩:=himg m hm;rw [aH1] at hz ⊢;rw [aCU];exact hr n hn hz
 · obtain ⟨n,hn,rfl⟩:=himg m hm;have hen:=h.en n hn;rw [aCU]
   show _↔n.ID∈st.al++[y.ID]
   rw [AM,BE];unfold clN;split
   · rename_i e;exact ⟨fun _=>.inr e,fun _=>rfl⟩
   · rename_i e;rw [hen];exact ⟨.inl,fun hh=>hh.resolve_right e⟩
 · show (st.al++[y.ID]).Nodup
   rw [Cu];exact ⟨h.nd,by simp,fun a ha b hb=>by rw [BE.1 hb]; rintro rfl; exact hni ha⟩
 · have he:e∈st.al++[y.ID]:=he
   rcases AM.1 he with he | he
   · exact hin e (h.es e he)
   · exact hin e ⟨y,hy,(BE.1 he).symm⟩
end Go.Fn
open List renaming length → Em
open Go Go.IL
namespace Go.Fn
theorem aDE{K K':Int}{N:List Nd}{E:List Int}(h:FV K ⟨24,K,N,E⟩)(h1:0≤K'∧K'≤24)(h2:(E.length:Int)≤K'):FV K' ⟨24,K',N,E⟩ :=
 ⟨rfl,⟨rfl,h1⟩,h.ln,h2,h.so,h.ra,h.pa,h.rk,h.en,h.nd,h.es⟩
theorem TS.keep{A:AS}{ns:List Nk}{first:Int}{cl:List Int}{R K K':Int}{N:List Nd}{E:List Int}(h:TS A ns first cl R K N E)(h1:0≤K'∧K'≤24)(h2:(E.length:Int)≤K'):TS A ns first cl R K' N E :=
 ⟨h.rl,h.cn,aDE h.fv h1 h2,h.ln,h.rm⟩
def aGc(N:List Nd)(id:Int):Prop:=∃ m∈N,m.ID=id∧m.af=true
instance (N:List Nd) (id:Int):Decidable (aGc N id):=inferInstanceAs (Decidable (∃ m∈N,m.ID=id∧m.af=true))
def zR(K:Int)(N:List Nd)(E:List Int)(id:Int):Int×List Nd×List Int :=
 if hasN N id then (if aGc N id then (9,N,E) else if K<((E++[id]).length:Int) then (0,offT (N.map (clN id)) ((E++[id]).headD 0),(E++[id]).filter fun e=>!decide (e=(E++[id]).headD 0)) else (0,N.map (clN id),E++[id])) else (6,N,E)
theorem aJO{A:AS}{ns:List Nk}{first:Int}{cl:List Int}{R K:Int}{N:List Nd}{E:List Int}(h:TS A ns first cl R K N E)(id:Int) :
 ∃ A' ns' first' cl',nO id R K A.Cells A.Free A.Used ns first cl=some ((zR K N E id).1,R,K,A'.Cells,A'.Free,A'.Used,ns',first',cl')∧TS A' ns' first' cl' R K (zR K N E id).2.1 (zR K N E id).2.2:=by
 have hK:0≤K∧K≤24:=h.fv.kp.2;have hEl:(E.length:Int)≤K:=h.fv.el;unfold nO zR
 rcases aAN h id R K with ⟨f1,p,f2,f3,f4⟩ | ⟨f1,f4⟩
 · obtain ⟨sp,kids,hR,h0⟩:=h.rl;obtain ⟨cN,c1,c2,c3⟩:=h.cn;obtain ⟨v,n,k1,k2,k3,k4,k5⟩:=hR.up p f2;have hyid:(asN ns n v).ID=id:=(dW k2).symm.trans f3;have hshut:aGc N id↔n.closed=true:=by
    constructor
    · rintro ⟨m,hm,e1,e2⟩;have:=sT hR.so hm k5 (e1.trans hyid.symm);rw [this] at e2; exact e2
    · exact fun hc=>⟨_,k5,hyid,hc⟩
   rw [f4,bnoS,bndD,Ad (by omega),bJ,Ao f1,fM,k2,bnoS,chk,Ao hR.len,As,k2,bnoS]
   by_cases hs:aGc N id
   · rw [Ao hs,hshut.1 hs,bO];exact ⟨A,ns,first,cl,rfl,h⟩
   · have hcf:n.closed=false:=by
      cases hc:n.closed with
      | false=>rfl
      | true=>exact Ay (hshut.2 hc) hs
     have hcll:cl.length=E.length:=by rw [c1,c3]; unfold toI; simp
     rw [Al hs,hcf,bJ,bnoS,bnoS,bndD,kI (by simp; omega) (by simp; omega),bnoS,bndD];obtain ⟨s1,s2⟩:=aGe hR f2 k2 n.weight true;have hmap:N.map (setN (idP ns p) n.weight true)=N.map (clN id):=AF fun m hm=>by
      unfold setN clN;rw [f3]
      by_cases e:m.ID=id
      · have:=sT hR.so hm k5 (e.trans hyid.symm);rw [Ao e,Ao e,this]; 
        have hpid:(asN ns n v).aa=(asN ns n v).aa:=rfl;rfl
      · rw [Al e,Al e]
     rw [hmap] at s1;obtain ⟨w1,w2⟩:=aHj (aDE h.fv (K':=24) (by omega) (by omega)) k5 hcf;rw [hyid] at w1;have hts:TS A (ns.set p (⟨n.id,n.up,n.first,n.next,n.weight,true⟩:Nk)) first (cl++[(p:Int)]) R 24 (N.map (clN id)) (E++[id]):=by
      refine ⟨⟨sp,kids,s1,h0⟩,⟨cN++[p],by rw [c1]; unfold toI; simp,fun q hq=>?_,?_⟩,w1,by rw [An]; exact h.ln,h.rm⟩
      · rcases AM.1 hq with hq | hq
        · exact c2 q hq
        · rw [BE.1 hq]; exact f2
      · rw [AF (fun q _=>s2 q),Bq,c3]
        show _++[id]=_++[idP ns p]
        rw [f3]
     have hlen:(cl++[(p:Int)]).length=(E++[id]).length:=by simp [hcll]
     rw [hlen]
     by_cases hk:K<((E++[id]).length:Int)
     · rw [Ae hk,bO,Ao hk];obtain ⟨dN,d1,d2,d3⟩:=hts.cn;cases dN with
       | nil=>have:=AH Em d1; simp [toI] at this
       | cons q dN =>
         have hd1:cl++[(p:Int)]=(q:Int)::toI dN:=d1;have hd3:E++[id]=idP _ q::dN.map _:=d3;have hnd:(E++[id]).Nodup:=w1.nd;obtain ⟨L,y,Rr,ns1,first1,cl1,g1,g2,g3,g4,g5⟩:=aG0 hts (d2 q (by simp)) R K;have hT:=aG1 hts.fv.so g1 g2;rw [hT,g2] at g4;have hhead:(E++[id]).headD 0=idP (ns.set p (⟨n.id,n.up,n.first,n.next,n.weight,true⟩:Nk)) q:=by rw [hd3]; rfl
         rw [hhead];refine ⟨uH A q,ns1,first1,cl1,?_,g4.keep hK ?_⟩
         · rw [hd1]
           show (bno (hD (q:Int) R K A.Cells A.Free A.Used _ first ((q:Int)::toI dN)) _)=_
           rw [←hd1,g3,bnoS]
         · have hl:=AH Em hd3;rw [hd3,Be (by simp)];have:=Bs (fun e=>!decide (e=idP (ns.set p (⟨n.id,n.up,n.first,n.next,n.weight,true⟩:Nk)) q)) (dN.map (idP (ns.set p (⟨n.id,n.up,n.first,n.next,n.weight,true⟩:Nk))));simp at hl this ⊢;omega
     · rw [Ad hk,bJ,Al hk];exact ⟨A,_,first,_,rfl,hts.keep hK (by omega)⟩
 · rw [f4,bnoS,bndD,Ae rfl,bO,Al f1];exact ⟨A,ns,first,cl,rfl,h⟩
end Go.Fn
open List renaming length_replicate → CC,replicate → AK
open Go Go.IL
namespace Go.Fn
theorem new_ts{R K:Int}(hR:0≤R∧R≤24)(hK:0≤K∧K≤24):TS ⟨[],-1,0⟩ (AK 64 (⟨0,0,0,0,0,false⟩:Nk)) (-1) [] R K [] []:=by
 have hal:∀ p,¬jD ⟨[],-1,0⟩ p:=fun p ⟨c,hc,_⟩=>by cases hc
 refine ⟨⟨[],fun _=>[],⟨⟨by decide,(fun c hc=>by cases hc),qG.nil,Dc,rfl,rfl,fun i c hc=>by cases hc⟩,CC ..,⟨fun u hu=>?_,fun _ _=>Dc,fun u v p _ _ hp=>(by cases hp),fun p hp=>Ay hp (hal p)⟩,fun p hp=>Ay hp (hal p),fun u p _ hp=>(by cases hp),fun m hm=>(by cases hm),fun p q hp=>Ay hp (hal p),List.Pairwise.nil⟩,fun _ _=>rfl⟩,⟨[],rfl,fun p hp=>(by cases hp),rfl⟩,⟨rfl,⟨rfl,hK⟩,CZ _,hK.1,List.Pairwise.nil,fun n hn=>(by cases hn),fun n hn=>(by cases hn),⟨fun _=>0,fun n hn=>(by cases hn)⟩,fun n hn=>(by cases hn),Dc,fun e he=>(by cases he)⟩,hR.1,hR.2⟩;cases u with
 | none=>rfl
 | some p=>exact Ay hu (hal p)
end Go.Fn
open Go Go.IL
namespace Go.Fn
theorem aI1{A:AS}{sp:List Nat}{ns:List Nk}{first:Int}{kids:Ag Nat→List Nat}{N:List Nd}(h:RL A sp ns first kids N){u:Ag Nat}(hu:hdK A u)(room keep:Int)(C:List AC)(F U:Int)(cl:List Int):iA (upI u) room keep C F U ns first cl=some (idU ns u):=by
 unfold iA;rw [bndD];cases u with
 | none=>rfl
 | some p =>
   obtain ⟨v,n,k1,k2,k3,k4,k5⟩:=h.up p hu;rw [show decide (upI (some p) = -1)=false from Ad (show ¬(p:Int) = -1 by omega),bJ,show upI (some p)=(p:Int) from rfl,fM,k2,bnoS,chk,Ao h.len,As,k2,bnoS]
   show _=some (idP ns p)
   rw [dW k2]
end Go.Fn
open Go Go.IL
namespace Go.Fn
theorem aId{A:AS}{sp:List Nat}{ns:List Nk}{first:Int}{kids:Ag Nat→List Nat}{N:List Nd}(h:RL A sp ns first kids N)(room keep:Int)(C:List AC)(F U:Int)(cl:List Int):∀ (l:List Nat) (p:Nat) (acc:List Int) (f:Nat),Up ns p l→(∀ q∈l,jD A q)→acc.length+l.length≤1000→l.length<f→fO room keep C F U ns first cl f acc (p:Int)=some (acc++l.map (idP ns)):=by
 intro l
 induction l with
 | nil =>
   intro p acc f hu _ _ hf;obtain ⟨f,rfl⟩:∃ g,f=g+1:=⟨f-1,by simp at hf; omega⟩;obtain ⟨n,h1,h2⟩:=hu;rw [fO,bndD,Ad (by omega),AL,AQ,gdtt,fM,h1,bnoS,chk,Ao (fun _=>h.len),gdtt,As,h1,bnoS,bndD,h2,Ae rfl,AD,bndD,Ct,bJ,Aq,Ax]
 | cons q l ih =>
   intro p acc f hu hl ha hf;obtain ⟨f,rfl⟩:∃ g,f=g+1:=⟨f-1,by simp at hf; omega⟩;obtain ⟨⟨n,h1,h2⟩,h3⟩:=hu;have hid:iA (q:Int) room keep C F U ns first cl=some (idP ns q):=aI1 h (u:=some q) (hl q (by simp)) room keep C F U cl;simp at ha;rw [fO,bndD,Ad (by omega),AL,AQ,gdtt,fM,h1,bnoS,chk,Ao (fun _=>h.len),gdtt,As,h1,bnoS,bndD,h2,Ad (by omega),AL,bndD,Cn,bO,bnoS,chk,Ao h.len,bnoS,h2,hid,bnoS,kI (by simp; omega) (by simp; omega),bnoS];rw [ih q (acc++[idP ns q]) f h3 (fun z hz=>hl z (by simp [hz])) (by simp; omega) (by simpa using hf)];rw [Ai,AA]; rfl
theorem aII{A:AS}{ns:List Nk}{first:Int}{cl:List Int}{R K:Int}{N:List Nd}{E:List Int}(h:TS A ns first cl R K N E)(id:Int)(room keep:Int):mL id room keep A.Cells A.Free A.Used ns first cl=some (if hasN N id then fL N N.length id else []):=by
 obtain ⟨sp,kids,hR,h0⟩:=h.rl;obtain ⟨r,hr⟩:=h.fv.rk;have hN:N.length≤24:=h.fv.ln;unfold mL
 rcases aAN h id room keep with ⟨f1,p,f2,f3,f4⟩ | ⟨f1,f4⟩
 · obtain ⟨l,l1,l2,l3,l4⟩:=aEq hR (fun m hm=>(h.fv.ra m hm).1.1) hr h.fv.pa f2;rw [f4,bnoS,Ao f1,aId hR room keep A.Cells A.Free A.Used cl l p [] fuel l1 l2 (by simp; omega) (dK (by omega)),←f3,l4]; rfl
 · rw [f4,bnoS,Al f1];rfl
end Go.Fn
open Go Go.IL
namespace Go.Fn
def aB2(ns:List Nk)(p:Nat):Nd:=⟨(ns.getD p default).id,(if (ns.getD p default).up = -1 then 0 else idP ns (ns.getD p default).up.toNat),(ns.getD p default).weight,(ns.getD p default).closed⟩
theorem aBB{A:AS}{sp:List Nat}{ns:List Nk}{first:Int}{kids:Ag Nat→List Nat}{N:List Nd}(h:RL A sp ns first kids N){p:Nat}(hp:jD A p):aB2 ns p∈N∧(aB2 ns p).ID=idP ns p∧∃ n u,ns[p]? = some n∧n.up=upI u∧hdK A u∧aB2 ns p=asN ns n u:=by
 obtain ⟨u,n,k1,k2,k3,k4,k5⟩:=h.up p hp;have e:aB2 ns p=asN ns n u:=by
  unfold aB2 asN;rw [AB,k2]
  show (⟨n.id,(if n.up = -1 then 0 else idP ns n.up.toNat),n.weight,n.closed⟩:Nd)=_
  rw [k3];cases u with
  | none=>rfl
  | some q =>
    rw [show upI (some q)=(q:Int) from rfl,Al (by omega),As]; rfl
 rw [e];exact ⟨k5,(dW k2).symm,n,u,k2,k3,k1,rfl⟩
theorem aIR{A:AS}{sp:List Nat}{ns:List Nk}{first:Int}{kids:Ag Nat→List Nat}{N:List Nd}(h:RL A sp ns first kids N){lv:List Nat}(hl:lv.length≤1000)(hc:∀ p∈lv,jD A p)(room keep:Int)(C:List AC)(F U:Int)(cl:List Int)(r:List Nat):∀ (q:List Nat) (f:Nat),lv=q++r→r.length<f→gQ room keep C F U ns first cl (toI lv) f (q.map (aB2 ns)) (q.length:Int)=(bno (eI (lv.map (aB2 ns))) fun x31=>chk (x31.length=(lv.map (aB2 ns)).length)<|some x31):=by
 induction r with
 | nil =>
   intro q f h1 hf;obtain ⟨f,rfl⟩:∃ g,f=g+1:=⟨f-1,by simp at hf; omega⟩;rw [Ax] at h1;subst h1;rw [gQ,bndD,show (toI lv).length=lv.length by unfold toI; simp,Ad (by omega),bJ]
 | cons p r ih =>
   intro q f h1 hf;obtain ⟨f,rfl⟩:∃ g,f=g+1:=⟨f-1,by simp at hf; omega⟩;obtain ⟨e1,e2,e3,e4⟩:=gixI h1 hl;have hq:q.length≤1000:=by rw [h1] at hl; simp at hl; omega
   obtain ⟨_,_,n,u,k1,k2,k3,k4⟩:=aBB h (hc p (by rw [h1]; simp));rw [gQ,bndD,e1,bO,e2,bnoS,fM,k1,bnoS,chk,Ao h.len,As,k1,bnoS,k2,aI1 h k3,bnoS,kI (by simp; omega) (by simp; omega),bnoS,bndD,e4];have:=ih (q++[p]) f (by rw [h1]; simp) (by simpa using hf);rw [Bq,List.map_singleton,k4] at this;exact this
end Go.Fn
open Go Go.IL
namespace Go.Fn
theorem kids_L3{A:AS}{sp:List Nat}{ns:List Nk}{first:Int}{kids:Ag Nat→List Nat}{N:List Nd}(h:RL A sp ns first kids N)(room keep:Int)(C:List AC)(F U:Int)(cl:List Int):∀ (r:List Nat) (acc:List Int) (a:Int) (f:Nat),mD ns a r→(∀ p∈r,jD A p)→acc.length+r.length≤1000→r.length<f→iJ room keep C F U ns first cl f a acc=iM (acc++r.map (idP ns)):=by
 intro r
 induction r with
 | nil =>
   intro acc a f hc _ _ hf;obtain ⟨f,rfl⟩:∃ g,f=g+1:=⟨f-1,by simp at hf; omega⟩;have hc:a = -1:=hc;rw [iJ,bndD,hc,Ae rfl,AD,bJ,Aq,Ax]
 | cons p r ih =>
   intro acc a f hc hl ha hf;obtain ⟨f,rfl⟩:∃ g,f=g+1:=⟨f-1,by simp at hf; omega⟩;obtain ⟨h1,n,h2,h3⟩:=hc;have hid:iA (p:Int) room keep C F U ns first cl=some (idP ns p):=aI1 h (u:=some p) (hl p (by simp)) room keep C F U cl;simp at ha;rw [iJ,bndD,h1,Ad (by omega),AL,bO,fM,h2,bnoS,As,h2,bnoS,hid,bnoS,kI (by simp; omega) (by simp; omega),bnoS];rw [ih (acc++[idP ns p]) n.next f h3 (fun z hz=>hl z (by simp [hz])) (by simp; omega) (by simpa using hf),Ai,AA]; rfl
theorem kids_L4{A:AS}{sp:List Nat}{ns:List Nk}{first:Int}{kids:Ag Nat→List Nat}{N:List Nd}(h:RL A sp ns first kids N)(room keep:Int)(C:List AC)(F U:Int)(cl:List Int):∀ (r:List Nat) (acc:List Int) (a:Int) (f:Nat),mD ns a r→(∀ p∈r,jD A p)→acc.length+r.length≤1000→r.length<f→iI room keep C F U ns first cl f a acc=iM (acc++r.map (idP ns)):=by
 intro r
 induction r with
 | nil =>
   intro acc a f hc _ _ hf;obtain ⟨f,rfl⟩:∃ g,f=g+1:=⟨f-1,by simp at hf; omega⟩;have hc:a = -1:=hc;rw [iI,bndD,hc,Ae rfl,AD,bJ,Aq,Ax]
 | cons p r ih =>
   intro acc a f hc hl ha hf;obtain ⟨f,rfl⟩:∃ g,f=g+1:=⟨f-1,by simp at hf; omega⟩;obtain ⟨h1,n,h2,h3⟩:=hc;have hid:iA (p:Int) room keep C F U ns first cl=some (idP ns p):=aI1 h (u:=some p) (hl p (by simp)) room keep C F U cl;simp at ha;rw [iI,bndD,h1,Ad (by omega),AL,bO,fM,h2,bnoS,As,h2,bnoS,hid,bnoS,kI (by simp; omega) (by simp; omega),bnoS];rw [ih (acc++[idP ns p]) n.next f h3 (fun z hz=>hl z (by simp [hz])) (by simp; omega) (by simpa using hf),Ai,AA]; rfl
end Go.Fn
open Go Go.IL
namespace Go.Fn
theorem aJN{A:AS}{ns:List Nk}{first:Int}{cl:List Int}{R K:Int}{N:List Nd}{E:List Int}(h:TS A ns first cl R K N E)(id:Int)(room keep:Int) :
 (¬(hasN N id∨id=0)∧lE id room keep A.Cells A.Free A.Used ns first cl=some []) ∨
 (hasN N id∨id=0)∧∃ l:List Int,lE id room keep A.Cells A.Free A.Used ns first cl=iM l∧l.Nodup∧l.length≤64∧(∀ m∈N,(m.ID∈l↔m.aa=id))∧∀ i∈l,hasN N i:=by
 obtain ⟨sp,kids,hR,h0⟩:=h.rl;have hpos:∀ m∈N,1≤m.ID:=fun m hm=>(h.fv.ra m hm).1.1
 have hnd:∀ u,hdK A u→((kids u).map (idP ns)).Nodup:=fun u hu =>
  Bi.2 ((hR.lk.nd u hu).imp_of_mem fun {p q} hp hq hne e=>hne (hR.inj p q (hR.kid u p hu hp) (hR.kid u q hu hq) e))
 have hin:∀ u,hdK A u→∀ i∈(kids u).map (idP ns),hasN N i:=fun u hu i hi=>by
  obtain ⟨p,hp,rfl⟩:=Ak.1 hi;obtain ⟨v,n,k1,k2,k3,k4,k5⟩:=hR.up p (hR.kid u p hu hp);exact ⟨_,k5,(dW k2).symm⟩
 unfold lE
 rcases aAN h id room keep with ⟨f1,p,f2,f3,f4⟩ | ⟨f1,f4⟩
 · have hsz:=hR.lk.size hR.len (u:=some p) f2;obtain ⟨v,n,k1,k2,k3,k4,k5⟩:=hR.up p f2;have hch:=hR.lk.ch (some p) f2;rw [pS k2] at hch;refine .inr ⟨.inl f1,(kids (some p)).map (idP ns),?_,hnd (some p) f2,by rw [An]; exact hsz,fun m hm=>?_,hin (some p) f2⟩
   · rw [f4,bnoS,bndD,bndD,bndD,Ad (show ¬(p:Int) = -1 by omega),Bu,bJ,bndD,bJ,fM,k2,bnoS,chk,Ao hR.len,As,k2,bnoS];rw [kids_L4 hR room keep A.Cells A.Free A.Used cl (kids (some p)) [] n.first fuel hch (fun z hz=>hR.kid (some p) z f2 hz) (by simp; omega) (dK (by omega))]; rfl
   · rw [aAH hR hpos (u:=some p) f2 hm,←f3]; rfl
 · by_cases e:id=0
   · have hsz:=hR.lk.size hR.len (u:=none) trivial;refine .inr ⟨.inr e,(kids none).map (idP ns),?_,hnd none trivial,by rw [An]; exact hsz,fun m hm=>?_,hin none trivial⟩
     · rw [f4,bnoS,bndD,bndD,bndD,Ae e,AD,Ct,bJ,bndD,show decide ((-1:Int) = -1)=true from rfl,bO,chk,Ao hR.len];rw [kids_L3 hR room keep A.Cells A.Free A.Used cl (kids none) [] first fuel (hR.lk.ch none trivial) (fun z hz=>hR.kid none z trivial hz) (by simp; omega) (dK (by omega))]; rfl
     · rw [aAH hR hpos (u:=none) trivial hm,e]; rfl
   · refine .inl ⟨fun hh=>hh.elim f1 e,?_⟩;rw [f4,bnoS,bndD,bndD,bndD,Ad e,AL,Cn,show decide ((-1:Int) = -1)=true from rfl,bO]
end Go.Fn
open _root_ renaming decide_eq_true_iff → Cq
open Go Go.IL
namespace Go.Fn
theorem xW{α:Type}{k:α→Int}:∀ {w:List α},w.Pairwise (fun a b=>k a≤k b)→(w.map k).Nodup→w.Pairwise (fun a b=>k a<k b)
 | [],_,_=>.nil
 | x::w,h,hn=>by
   obtain ⟨h1,h2⟩:=AI.1 h;obtain ⟨n1,n2⟩:=Bl.1 hn;refine AI.2 ⟨fun y hy=>?_,xW h2 n2⟩;have:=h1 y hy;have:k x≠k y:=fun e=>n1 (Ak.2 ⟨y,hy,e.symm⟩)
   omega
theorem tsort_t{l:List Int}(hl:l.length≤24)(hn:l.Nodup):∃ w,aED l=some w∧w.Perm l∧w.Pairwise (· < ·):=by
 have hp:=rV id l;refine ⟨_,sortI_t (by omega),hp,?_⟩;refine xW (k:=id) (tF id l) ?_;rw [CH];exact (hp.nodup_iff).2 hn
theorem ksort_t{l:List Nd}(hl:l.length≤24)(hn:(l.map (·.ID)).Nodup)(hg:∀ m∈l,0≤m.ID∧m.ID≤1048576):∃ w,eI l=some w∧w.Perm l∧w.Pairwise (fun a b=>a.ID<b.ID):=by
 have hp:=rV (fun m:Nd=>m.ID) l;refine ⟨_,sortK_t (by omega) (fun m hm=>?_) hn,hp,xW (tF _ l) (((hp.map _).nodup_iff).2 hn)⟩;have:=hg m hm;rw [Av,Cq,Cq];exact this
end Go.Fn
open Go Go.IL
namespace Go.Fn
theorem Kids_ts{A:AS}{ns:List Nk}{first:Int}{cl:List Int}{R K:Int}{N:List Nd}{E:List Int}(h:TS A ns first cl R K N E)(id:Int)(room keep:Int) :
 ∃ w:List Int,lE id room keep A.Cells A.Free A.Used ns first cl=some w∧w.Pairwise (· < ·)∧(∀ i∈w,hasN N i)∧(¬(hasN N id∨id=0)→w=[])∧((hasN N id∨id=0)→∀ m∈N,(m.ID∈w↔m.aa=id)):=by
 rcases aJN h id room keep with ⟨h1,h2⟩ | ⟨h1,l,h2,h3,h4,h5,h6⟩
 · exact ⟨[],h2,List.Pairwise.nil,fun i hi=>(by cases hi),fun _=>rfl,fun hh=>Ay hh h1⟩
 · have hl:l.length≤24:=by
    have:=sD h3 (m:=N.map (·.ID)) fun i hi=>by
     obtain ⟨m,hm,e⟩:=h6 i hi;exact Ak.2 ⟨m,hm,e⟩
    rw [An] at this;have hN:N.length≤24:=h.fv.ln;omega
   obtain ⟨w,hw,hp,hs⟩:=tsort_t hl h3;refine ⟨w,?_,hs,fun i hi=>h6 i (hp.mem_iff.1 hi),fun hh=>Ay h1 hh,fun _ m hm=>?_⟩
   · rw [h2];unfold iM;unfold oP;rw [hw,bnoS,chk,Ao hp.length_eq]
   · rw [hp.mem_iff]; exact h5 m hm
end Go.Fn
open Go Go.IL
namespace Go.Fn
theorem aFE:∀ {l m:List Nd},l.Pairwise (fun a b=>a.ID<b.ID)→m.Pairwise (fun a b=>a.ID<b.ID)→(∀ x,x∈l↔x∈m)→l=m
 | [],[],_,_,_=>rfl
 | [],y::m,_,_,h=>by have:=(h y).2 (by simp); cases this
 | x::l,[],_,_,h=>by have:=(h x).1 (by simp); cases this
 | x :: l,y::m,h1,h2,h=>by
   obtain ⟨a1,a2⟩:=AI.1 h1;obtain ⟨b1,b2⟩:=AI.1 h2;have e:x=y:=by
    rcases Au.1 ((h x).1 (by simp)) with e | hx
    · exact e
    · rcases Au.1 ((h y).2 (by simp)) with e | hy
      · exact e.symm
      · have:=a1 y hy;have:=b1 x hx;omega
   subst e;rw [aFE a2 b2 fun z=>?_];constructor
   · intro hz
     rcases Au.1 ((h z).1 (Bg _ hz)) with e | hz2
     · have:=a1 z hz;rw [e] at this; omega
     · exact hz2
   · intro hz
     rcases Au.1 ((h z).2 (Bg _ hz)) with e | hz2
     · have:=b1 z hz;rw [e] at this; omega
     · exact hz2
theorem aFh{A:AS}{ns:List Nk}{first:Int}{cl:List Int}{R K:Int}{N:List Nd}{E:List Int}(h:TS A ns first cl R K N E)(room keep:Int):lT room keep A.Cells A.Free A.Used ns first cl=some N:=by
 obtain ⟨sp,kids,hR,h0⟩:=h.rl;have hN:N.length≤24:=h.fv.ln;have hlen:(qP A.Cells 0).length=N.length:=by
  have h1:=aCc hR;rw [hR.ga.used,←zA A.Cells 0] at h1;omega
 have hc:∀ p∈qP A.Cells 0,jD A p:=fun p hp=>rM.2 hp
 unfold lT;rw [aHD hR.ga,bnoS];have:=aIR hR (lv:=qP A.Cells 0) (by omega) hc room keep A.Cells A.Free A.Used cl (qP A.Cells 0) [] fuel rfl (dK (by omega));rw [show ((0:Int))=(([]:List Nat).length:Int) from rfl];refine Eq.trans this ?_;have hids:((qP A.Cells 0).map (aB2 ns)).map (·.ID)=(qP A.Cells 0).map (idP ns):=by
  rw [BM];exact AF fun p hp=>(aBB hR (hc p hp)).2.1
 obtain ⟨w,e,hp,hs⟩:=ksort_t (l:=(qP A.Cells 0).map (aB2 ns)) (by rw [An]; omega) (by
  rw [hids];exact Bi.2 ((xY A.Cells 0).imp_of_mem fun {p q} hp hq hne e=>hne (hR.inj p q (hc p hp) (hc q hq) e))) (fun m hm=>by
  obtain ⟨p,hp,rfl⟩:=Ak.1 hm;have:=(h.fv.ra _ (aBB hR (hc p hp)).1).1;omega)
 rw [e,bnoS,chk,Ao hp.length_eq]
 congr 1
 refine aFE hs hR.so fun x=>?_
 rw [hp.mem_iff];constructor
 · intro hx;obtain ⟨p,hp,rfl⟩:=Ak.1 hx;exact (aBB hR (hc p hp)).1
 · intro hx;obtain ⟨p,n,u,k1,k2,k3,k4,rfl⟩:=hR.bw x hx;obtain ⟨g1,g2,_⟩:=aBB hR k1;refine Ak.2 ⟨p,rM.1 k1,sT hR.so g1 hx ?_⟩;rw [g2,dW k3]; rfl
end Go.Fn
open Go Go.IL
namespace Go.Fn
end Go.Fn
open Go Go.IL
namespace Go.Fn
end Go.Fn
open Go Go.IL
namespace Go.Fn
end Go.Fn
open Go Go.IL
namespace Go.Fn
inductive Dsc (N:List Nd) (d:Int):Int→Prop
 | child (n:Nd) (hn:n∈N) (hp:n.aa=d):Dsc N d n.ID
 | up (n:Nd) (hn:n∈N) (hp:n.aa≠0) (h:Dsc N d n.aa):Dsc N d n.ID
structure Tr (N:List Nd) (r:Int→Nat):Prop where
 so:N.Pairwise (fun a b=>a.ID<b.ID)
 id:∀ n∈N,1≤n.ID
 pa:∀ n∈N,n.aa=0∨∃ m∈N,m.ID=n.aa
 rk:∀ n∈N,n.aa≠0→r n.aa<r n.ID
theorem FV.tr{K:Int}{st:Fs}(h:FV K st):∃ r,Tr st.ai r:=by
 obtain ⟨r,hr⟩:=h.rk;exact ⟨r,h.so,fun n hn=>(h.ra n hn).1.1,h.pa,hr⟩
section
variable {N:List Nd} {r:Int→Nat}
theorem xK(h:Tr N r){n:Nd}(hn:n∈N):fL N N.length n.ID=if n.aa=0 then [] else n.aa::fL N N.length n.aa:=by
 obtain ⟨k,hk⟩:∃ k,N.length=k+1:=⟨N.length-1,by have:=DN hn; omega⟩
 by_cases hz:n.aa=0
 · rw [Ao hz,hk,fL,yM h.so hn];simp only [Ao hz]
 · rw [Al hz];have e1:fL N N.length n.ID=n.aa::fL N k n.aa:=by
    rw [hk,fL,yM h.so hn];simp only [Al hz]
   obtain ⟨h1,h2⟩:=qU h.so h.rk h.pa N.length n.ID ⟨n,hn,rfl⟩;have h3:=sD h1 h2;rw [e1,AR,AR,An] at h3;have h4:=aBL (N:=N) k n.aa (by omega);rw [e1,hk,h4]
end
end Go.Fn
open Go Go.IL
namespace Go.Fn
end Go.Fn
open Go Go.IL
namespace Go.Fn
def GoodD(l:List dB):Prop:=∀ a∈l,0≤a.am∧a.am≤255
end Go.Fn
open Go Go.IL
namespace Go.Fn
def askI(N:List Nd)(l:List Int)(i:Int):Bool:=decide (i∈l)&&N.any fun m=>decide (m.ID=i) && !m.af
def aDV(N:List Nd)(l:List Int)(i:Int):Bool:=askI N l i && !((fL N N.length i).any (askI N l))
structure Marks19 (A:AS) (ns:List Nk) (q:List Int) (B:List Bool):Prop where
 len:B.length=64
 mr:∀ p:Nat,B[p]? = some true↔jD A p∧idP ns p∈q∧(ns.getD p default).closed=false
structure RdAcc (A:AS) (ns:List Nk) (N:List Nd) (l:List Int) (k:Nat) (acc:List Int):Prop where
 nd:acc.Nodup
 ln:acc.length≤k
 me:∀ i,i∈acc↔∃ p,p<k∧jD A p∧idP ns p=i∧aDV N l i=true
end Go.Fn
open Go Go.IL
namespace Go.Fn
end Go.Fn
open List renaming any_append → DK
open Go Go.IL
namespace Go.Fn
def askN(l:List Int)(n:Nd):Bool:=!n.af&&decide (n.ID∈l)
def actQ(N:List Nd)(l:List Int)(q:List Nd)(id:Int):Bool:=q.any fun n=>askN l n&&(decide (n.ID=id)||decide (id∈fL N N.length n.ID))
structure aGP (N:List Nd) (l:List Int) (q:List Nd) (v33:List (Int×aW)) (v34 v35:List (Int×Bool)):Prop where
 nd:∀ n∈q,mget v33 n.ID=some n
 no:∀ id,(∀ n∈q,n.ID≠id)→mget v33 id=none
 ct:∀ id,(mget v34 id).getD false=q.any fun n=>decide (n.ID=id)&&askN l n
 c0:v34.length=0↔∀ n∈q,askN l n=false
 ac:∀ id,(mget v35 id).getD false=actQ N l q id
theorem aHB(v32:Int)(kk:Int→List (Int×aW)→List (Int×Bool)→List (Int×Bool)→Ag (List Gr×Int))(x68:List (Int×aW))(x73:List (Int×Bool)){P:List Int}(hP:P.length≤1000000) :
 ∀ (r p:List Int) (f:Nat) (v:List (Int×Bool)),P=p++r→r.length<f→∃ w,(∀ id,(mget w id).getD false=((mget v id).getD false||decide (id∈r)))∧lN v32 kk x68 x73 P f (p.length:Int) v=kk (Af .i64 (v32+1)) x68 x73 w
 | _,_,0,_,_,hf=>Ay hf (by omega)
 | [],p,f+1,v,h,hf=>⟨v,fun id=>by simp,by rw [lN,bndD,oO h,bJ,bndD]⟩
 | x :: r,p,f+1,v,h,hf=>by
   obtain ⟨w,h1,h2⟩:=aHB v32 kk x68 x73 hP r (p++[x]) f (mput v x true) (eO h) (by simp at hf ⊢; omega);refine ⟨w,fun id=>?_,by rw [lN,bndD,lJ h,bO,dL h,bnoS,bndD,bndD,w_at h hP,h2]⟩;rw [h1 id,wM]
   by_cases hx:x=id
   · rw [Ao hx]; subst hx; simp
   · rw [Al hx]
     congr 1
     rw [decide_eq_decide];simp [Ne.symm hx]
def pickT(a0:List Gr)(a2 a3:Int)(a4:List aK)(a5 a6:Int)(a7:List aJ)(a8:Int)(a9:List Int)(x1:List Gr)(v33:List (Int×aW))(v34 v35:List (Int×Bool)):Ag (List Gr×Int) :=
 bno (nS a0) fun x94=>bnd (!decide (x94=0)) fun x95=>bnd (decide ((v34.length:Int)=0)) fun x96=>bnd (x95||x96) fun x97 =>
 bif x97 then some (x1,0) else bno (cY x1 v33 v34 v35 a2 a3 a4 a5 a6 a7 a8 a9) fun x99=>gF a2 a3 a4 a5 a6 a7 a8 a9 v33 v34 v35 fuel x99 0
theorem aCy{A:AS}{ns:List Nk}{first:Int}{cl:List Int}{R K:Int}{N:List Nd}{E:List Int}(h:TS A ns first cl R K N E)(room keep:Int){l:List Int}(hl:l.length≤1000)(a0 x1:List Gr) :
 ∀ (r q:List Nd) (f:Nat) (v33:List (Int×aW)) (v34 v35:List (Int×Bool)),N=q++r→r.length<f→aGP N l q v33 v34 v35 →
 ∃ w33 w34 w35,aGP N l N w33 w34 w35∧iU a0 l room keep A.Cells A.Free A.Used ns first cl x1 N f (q.length:Int) v33 v34 v35=pickT a0 room keep A.Cells A.Free A.Used ns first cl x1 w33 w34 w35
 | _,_,0,_,_,_,_,hf,_=>Ay hf (by omega)
 | [],q,f+1,v33,v34,v35,hN,hf,hI=>by
   refine ⟨v33,v34,v35,by rw [hN,Ax]; rw [hN,Ax] at hI; exact hI,?_⟩;rw [iU,bndD,oO hN,bJ]; rfl
 | n :: r,q,f+1,v33,v34,v35,hN,hf,hI=>by
   have hln:N.length≤24:=h.fv.ln;have hn:n∈N:=by rw [hN]; simp
   have hso:N.Pairwise (fun a b=>a.ID<b.ID):=h.fv.so;have hne:∀ m∈q,m.ID≠n.ID:=fun m hm=>by
    rw [hN,Bk] at hso;have:=hso.2.2 m hm n (by simp); omega
   have hw:Af .i64 ((q.length:Int)+1)=((q++[n]).length:Int):=w_at hN (by omega);have hnd:∀ m∈q++[n],mget (mput v33 n.ID n) m.ID=some m:=fun m hm=>by
    rw [wM]
    rcases AM.1 hm with hm | hm
    · rw [Al (fun e=>hne m hm e.symm)]; exact hI.nd m hm
    · rw [BE] at hm; subst hm; exact Ao rfl
   have hno:∀ id,(∀ m∈q++[n],m.ID≠id)→mget (mput v33 n.ID n) id=none:=fun id hid=>by
    rw [wM,Al (hid n (by simp))];exact hI.no id fun m hm=>hid m (by simp [hm])
   have hcont:bno (gd (n.af == false) (dJ l n.ID) default) (fun x69=>some (n.af||(!x69)))=some (!askN l n):=by
    unfold askN;rw [cint (by omega)];cases n.af
    · simp only [AQ,gdtt,bnoS,Cd,AL,BF]
    · rfl
   have hstep:∀ (F:Bool→Ag (List Gr×Int)),(bno (gd (n.af == false) (dJ l n.ID) default) fun x69=>bnd (n.af||(!x69)) fun x70=>F x70)=F (!askN l n):=fun F=>by
    have:(bno (gd (n.af == false) (dJ l n.ID) default) fun x69=>bnd (n.af||(!x69)) fun x70=>F x70)=bno (bno (gd (n.af == false) (dJ l n.ID) default) (fun x69=>some (n.af||(!x69)))) F:=by
     cases gd (n.af == false) (dJ l n.ID) default <;> rfl
    rw [this,hcont,bnoS]
   rw [iU,bndD,lJ hN,bO,dL hN,bnoS,bndD,hstep];cases hk:askN l n with
   | false =>
     rw [AL,bO,bndD,hw];refine aCy h room keep hl a0 x1 r (q++[n]) f _ v34 v35 (eO hN) (by simp at hf ⊢; omega) ⟨hnd,hno,fun id=>?_,?_,fun id=>?_⟩
     · rw [hI.ct id,DK]; simp [hk]
     · rw [hI.c0];constructor
       · intro h1 m hm
         rcases AM.1 hm with hm | hm
         · exact h1 m hm
         · rw [BE] at hm; subst hm; exact hk
       · exact fun h1 m hm=>h1 m (by simp [hm])
     · rw [hI.ac id]; unfold actQ; rw [DK]; simp [hk]
   | true =>
     rw [AD,bJ,bndD,bndD,aII h n.ID room keep,Ao ⟨n,hn,rfl⟩,bnoS];obtain ⟨w,h1,h2⟩:=aHB (q.length:Int) (iU a0 l room keep A.Cells A.Free A.Used ns first cl x1 N f) (mput v33 n.ID n) (mput v34 n.ID true) (P:=fL N N.length n.ID) (by have:=aAp N N.length n.ID; omega) (fL N N.length n.ID) [] fuel (mput v35 n.ID true) rfl (dK (by have:=aAp N N.length n.ID; omega));rw [show ((([]:List Int).length:Nat):Int)=0 from rfl] at h2;rw [h2,hw];refine aCy h room keep hl a0 x1 r (q++[n]) f _ _ w (eO hN) (by simp at hf ⊢; omega) ⟨hnd,hno,fun id=>?_,?_,fun id=>?_⟩
     · rw [wM,DK]
       by_cases hx:n.ID=id
       · rw [Ao hx]; simp [hx,hk]
       · rw [Al hx,hI.ct id]; simp [hx]
     · constructor
       · exact fun h0=>Ay h0 (mput_ne _ _ _)
       · intro h0;have:=h0 n (by simp);rw [hk] at this; cases this
     · rw [h1 id,wM];unfold actQ;rw [DK]
       by_cases hx:n.ID=id
       · rw [Ao hx]; simp [hx,hk]
       · rw [Al hx,hI.ac id]; unfold actQ; simp [hx,hk]
theorem aJi(N:List Nd)(l:List Int):aGP N l [] [] [] [] where
 nd:=fun n hn=>Ay hn Bc
 no:=fun _ _=>rfl
 ct:=fun _=>rfl
 c0:=⟨fun _ n hn=>Ay hn Bc,fun _=>rfl⟩
 ac:=fun _=>rfl
end Go.Fn
open List renaming filter_cons → CI
open Go Go.IL
namespace Go.Fn
def mkM(n:Nd):Mb:=⟨n.ID,n.ae,0⟩
def grpM(N:List Nd)(l:List Int)(at_:Int):List Mb:=(N.filter fun n=>decide (n.aa=at_)&&actQ N l N n.ID).map mkM
theorem aGF{α:Type}(p q:α→Bool):∀ l:List α,(l.filter p).filter q=l.filter fun x=>p x&&q x:=fun l=>by
 rw [List.filter_filter]; congr 1; funext x; exact Bool.and_comm _ _
theorem kids_eq{N:List Nd}(hs:N.Pairwise (fun a b=>a.ID<b.ID)){w:List Int}{at_:Int}(h1:w.Pairwise (· < ·))(h2:∀ i∈w,hasN N i)(h3:∀ m∈N,(m.ID∈w↔m.aa=at_)):w=(N.filter fun n=>decide (n.aa=at_)).map (·.ID):=by
 have hp:((N.filter fun n=>decide (n.aa=at_)).map (·.ID)).Pairwise (· < ·):=by
  rw [Bi]; exact hs.filter _
 have key:∀ {a b:List Int},a.Pairwise (· < ·)→b.Pairwise (· < ·)→(∀ x,x∈a↔x∈b)→a=b:=by
  intro a
  induction a with
  | nil =>
    intro b _ _ h;cases b with
    | nil=>rfl
    | cons y b=>have:=(h y).2 (by simp); cases this
  | cons x a ih =>
    intro b ha hb h;cases b with
    | nil=>have:=(h x).1 (by simp); cases this
    | cons y b =>
      obtain ⟨a1,a2⟩:=AI.1 ha;obtain ⟨b1,b2⟩:=AI.1 hb;have e:x=y:=by
       rcases Au.1 ((h x).1 (by simp)) with e | hx
       · exact e
       · rcases Au.1 ((h y).2 (by simp)) with e | hy
         · exact e.symm
         · have:=a1 y hy; have:=b1 x hx; omega
      subst e;rw [ih a2 b2 fun z=>?_];constructor
      · intro hz
        rcases Au.1 ((h z).1 (by simp [hz])) with e | hz2
        · have:=a1 z hz; omega
        · exact hz2
      · intro hz
        rcases Au.1 ((h z).2 (by simp [hz])) with e | hz2
        · have:=b1 z hz; omega
        · exact hz2
 refine key h1 hp fun x=>?_
 constructor
 · intro hx;obtain ⟨m,hm,rfl⟩:=h2 x hx;exact Ak.2 ⟨m,AN.2 ⟨hm,Ae ((h3 m hm).1 hx)⟩,rfl⟩
 · intro hx;obtain ⟨m,hm,rfl⟩:=Ak.1 hx;obtain ⟨hm1,hm2⟩:=AN.1 hm;exact (h3 m hm1).2 (of_decide_eq_true hm2)
def aIT(v34:List (Int×Bool))(out:List Gr)(at_:Int)(kk:List Gr→Int→Ag (List Gr×Int))(m:List Mb):Ag (List Gr×Int) :=
 bno (lR (⟨at_,m⟩:Gr) out) fun x206=>bno (jS x206 at_) fun x207=>bno (gix x206 x207.1) fun x208=>bno (x206[(x207.1:Int).toNat]?) fun x209 =>
 bno (mI x209) fun x210=>bnd ((mget v34 x210).getD false) fun x211=>bif x211 then some (x206,x210) else kk x206 x210
theorem aDC{N:List Nd}{l:List Int}{v33:List (Int×aW)}{v34 v35:List (Int×Bool)}(hI:aGP N l N v33 v34 v35)(out:List Gr)(at_:Int)(kk:List Gr→Int→Ag (List Gr×Int)){ks:List Nd}(hks:∀ n∈ks,n∈N)(hkl:ks.length≤1000) :
 ∀ (r q:List Nd) (acc:List Mb) (f:Nat),ks=q++r→r.length<f→acc.length≤q.length →
   kK v33 v34 v35 out at_ kk (ks.map (·.ID)) f (q.length:Int) acc=aIT v34 out at_ kk (acc++(r.filter fun n=>actQ N l N n.ID).map mkM)
 | _,_,_,0,_,hf,_=>Ay hf (by omega)
 | [],q,acc,f+1,h,hf,ha=>by
   have hm:ks.map (·.ID)=q.map (·.ID)++[]:=by rw [h]; simp
   have:=oO hm;rw [An] at this;rw [kK,bndD,this,bJ];simp only [EV,Aq,Ax];rfl
 | n :: r,q,acc,f+1,h,hf,ha=>by
   have hm:ks.map (·.ID)=q.map (·.ID)++n.ID::r.map (·.ID):=by rw [h]; simp
   have hn:n∈N:=hks n (by rw [h]; simp);have hql:q.length≤ks.length:=by rw [h]; simp
   have e1:=lJ hm;have e2:=dL hm;have e3:=w_at hm (by rw [An]; omega);rw [An] at e1 e2;rw [AO,An,BN] at e3;rw [kK,bndD,e1,bO,e2,bnoS,bndD,hI.ac,hI.nd n hn];rw [e3,show q.length+1=(q++[n]).length by simp];cases hk:actQ N l N n.ID with
   | false =>
     rw [bJ,bndD,aDC hI out at_ kk hks hkl r (q++[n]) acc f (eO h) (by simp at hf ⊢; omega) (by simp; omega),CI,hk];rfl
   | true =>
     rw [bO,bndD]
     show bno (app 24 acc [(⟨n.ID,n.ae,0⟩:Mb)]) _=_
     rw [kI (by simp; omega) (by simp; omega),bnoS,bndD,aDC hI out at_ kk hks hkl r (q++[n]) _ f (eO h) (by simp at hf ⊢; omega) (by simp; omega),CI,hk,AA];rfl
theorem aI4{A:AS}{ns:List Nk}{first:Int}{cl:List Int}{R K:Int}{N:List Nd}{E:List Int}(h:TS A ns first cl R K N E)(room keep:Int){l:List Int}{v33:List (Int×aW)}{v34 v35:List (Int×Bool)}(hI:aGP N l N v33 v34 v35)(out:List Gr){at_:Int}(hat:hasN N at_∨at_=0)(f:Nat) :
 gF room keep A.Cells A.Free A.Used ns first cl v33 v34 v35 (f+1) out at_=aIT v34 out at_ (gF room keep A.Cells A.Free A.Used ns first cl v33 v34 v35 f) (grpM N l at_):=by
 obtain ⟨w,h1,h2,h3,h4,h5⟩:=Kids_ts h at_ room keep;have hln:N.length≤24:=h.fv.ln;have hw:=kids_eq h.fv.so h2 h3 (h5 hat);have hfl:(N.filter fun n=>decide (n.aa=at_)).length≤N.length:=Bs _ _;rw [gF,h1,bnoS,hw];have:=aDC hI out at_ (gF room keep A.Cells A.Free A.Used ns first cl v33 v34 v35 f) (ks:=N.filter fun n=>decide (n.aa=at_)) (fun n hn=>(AN.1 hn).1) (by omega) (N.filter fun n=>decide (n.aa=at_)) [] [] fuel rfl (dK (by omega)) (AP _);rw [show ((([]:List Nd).length:Nat):Int)=0 from rfl] at this;rw [this,Bp,aGF]; rfl
theorem aCS{α:Type}(p:α→Bool):∀ l:List α,(l.filter p).length+(l.filter fun y=>!p y).length=l.length
 | []=>rfl
 | x::l=>by
   have:=aCS p l;rw [CI,CI];cases p x <;> simp <;> omega
theorem aFw{l:List Gr}(h:pH l){g:Gr}(hb:iQ g.ab=g.ab) :
 ∃ a x c,nC l g=a++x::c∧x.aa=g.aa∧iQ x.ab=g.ab∧(x=g∨x∈l)∧(∀ y∈a,y∈l∧y.aa<g.aa)∧(∀ y∈c,y∈l∧g.aa<y.aa)∧a.Pairwise (fun a b=>a.aa<b.aa)∧c.Pairwise (fun a b=>a.aa<b.aa)∧a.length+c.length≤l.length:=by
 have hp1:(l.filter fun y=>decide (y.aa<g.aa)).Pairwise (fun a b=>a.aa<b.aa):=h.so.filter _;have hp2:(l.filter fun y=>decide (g.aa≤y.aa)).Pairwise (fun a b=>a.aa<b.aa):=h.so.filter _;have hm1:∀ y∈l.filter fun y=>decide (y.aa<g.aa),y∈l∧y.aa<g.aa:=fun y hy=>by
  obtain ⟨h1,h2⟩:=AN.1 hy; exact ⟨h1,of_decide_eq_true h2⟩
 have hm2:∀ y∈l.filter fun y=>decide (g.aa≤y.aa),y∈l∧g.aa≤y.aa:=fun y hy=>by
  obtain ⟨h1,h2⟩:=AN.1 hy; exact ⟨h1,of_decide_eq_true h2⟩
 have hlen:(l.filter fun y=>decide (y.aa<g.aa)).length+(l.filter fun y=>decide (g.aa≤y.aa)).length=l.length:=by
  have e:(fun y:Gr=>decide (g.aa≤y.aa))=fun y=>!decide (y.aa<g.aa):=by
   funext y
   by_cases hy:y.aa<g.aa
   · rw [Ae hy,Ad (by omega)]; rfl
   · rw [Ad hy,Ae (by omega)]; rfl
  rw [e]; exact aCS _ l
 unfold nC
 revert hp2 hm2 hlen
 generalize l.filter (fun y=>decide (g.aa≤y.aa))=b;intro hp2 hm2 hlen;cases b with
 | nil=>exact ⟨_,g,[],rfl,rfl,hb,.inl rfl,hm1,fun y hy=>(by cases hy),hp1,List.Pairwise.nil,by rw [Cj] at hlen ⊢; omega⟩
 | cons y c =>
   obtain ⟨p1,p2⟩:=AI.1 hp2;have hy:=hm2 y (by simp)
   show ∃ a x c',_++(if y.aa=g.aa then (if iQ y.ab=g.ab then y::c else g::c) else g::y::c)=_∧_
   by_cases h1:y.aa=g.aa
   · have hc:∀ z∈c,z∈l∧g.aa<z.aa:=fun z hz=>⟨(hm2 z (by simp [hz])).1,by have:=p1 z hz; omega⟩
     rw [Ao h1]
     by_cases h2:iQ y.ab=g.ab
     · rw [Ao h2]; exact ⟨_,y,c,rfl,h1,h2,.inr hy.1,hm1,hc,hp1,p2,by simp at hlen; omega⟩
     · rw [Al h2]; exact ⟨_,g,c,rfl,rfl,hb,.inl rfl,hm1,hc,hp1,p2,by simp at hlen; omega⟩
   · rw [Al h1];refine ⟨_,g,y::c,rfl,rfl,hb,.inl rfl,hm1,fun z hz=>?_,hp1,hp2,by omega⟩
     rcases Au.1 hz with rfl | hz
     · exact ⟨hy.1,by omega⟩
     · exact ⟨(hm2 z (by simp [hz])).1,by have:=p1 z hz; omega⟩
def PIn(N:List Nd)(l:List Gr):Prop:=∀ g∈l,hasN N g.aa∨g.aa=0
theorem pin_len{N:List Nd}{l:List Gr}(hN:N.length≤24)(hp:PIn N l)(hs:l.Pairwise (fun a b=>a.aa<b.aa)):l.length≤25:=by
 have h1:(l.map (·.aa)).Nodup:=by
  unfold FF;rw [Bi];exact hs.imp fun h=>by omega
 have h2:=sD h1 (m:=0::N.map (·.ID)) fun x hx=>by
  obtain ⟨g,hg,rfl⟩:=Ak.1 hx
  rcases hp g hg with ⟨m,hm,e⟩ | e
  · exact Bg _ (Ak.2 ⟨m,hm,e⟩)
  · show g.aa∈_; rw [e]; simp
 simp at h2; omega
structure aAR (m:List Mb):Prop where
 ln:m.length≤24
 ok:∀ x∈m,okM x
 so:m.Pairwise (fun a b=>a.ID<b.ID)
theorem aDx{K:Int}{N:List Nd}{E:List Int}(h:FV K ⟨24,K,N,E⟩)(l:List Int)(at_:Int):aAR (grpM N l at_)∧iQ (grpM N l at_)=grpM N l at_:=by
 refine ⟨⟨?_,fun x hx=>?_,?_⟩,?_⟩
 · unfold grpM;rw [An];have:=Bs (fun n=>decide (n.aa=at_)&&actQ N l N n.ID) N;have:N.length≤24:=h.ln;omega
 · obtain ⟨n,hn,rfl⟩:=Ak.1 hx;have h1:=h.ra n (AN.1 hn).1;exact ⟨h1.1,h1.2,(by show (0:Int)≤0; omega),(by show (0:Int)≤_; omega)⟩
 · unfold grpM;rw [Bi];exact (h.so.filter _)
 · unfold iQ grpM; rw [BM]; rfl
def grpG(l:List Gr)(p:Int):List Mb:=((l.find? fun g=>decide (g.aa=p)).map (·.ab)).getD []
theorem aHf{a c:List Gr}{x:Gr}(ha:∀ y∈a,y.aa<x.aa):grpG (a++x::c) x.aa=x.ab:=by
 unfold grpG;rw [CX,Cc.2 (fun y hy=>by have:=ha y hy; simp; omega)]
 simp
def topM:List Mb→Int
 | []=>0
 | b::l=>(uI b l).ID
theorem aBZ{N:List Nd}(hN:N.length≤24){l:List Gr}(h:pH l)(hp:PIn N l){at_:Int}{m:List Mb}(hat:hasN N at_∨at_=0)(hr:0≤at_∧at_≤1048576)(hm:aAR m)(hb:iQ m=m) :
 pH (nC l ⟨at_,m⟩)∧PIn N (nC l ⟨at_,m⟩)∧∃ a x c,nC l ⟨at_,m⟩=a++x::c∧x.aa=at_∧iQ x.ab=m∧(∀ y∈a,y.aa<at_)∧(∀ y∈c,at_<y.aa):=by
 obtain ⟨a,x,c,h1,h2,h3,h4,h5,h6,h7,h8,h9⟩:=aFw h (g:=⟨at_,m⟩) hb;have hx:x.ab.length≤24∧(∀ y∈x.ab,okM y)∧x.ab.Pairwise (fun a b=>a.ID<b.ID):=by
  rcases h4 with rfl | h4
  · exact ⟨hm.ln,hm.ok,hm.so⟩
  · exact ⟨h.ml x h4,h.mr x h4,h.mo x h4⟩
 have hmem:∀ y∈a++x::c,y=x∨y∈l:=fun y hy=>by
  rcases AM.1 hy with hy | hy
  · exact .inr (h5 y hy).1
  · rcases Au.1 hy with hy | hy
    · exact .inl hy
    · exact .inr (h6 y hy).1
 have hso:(a++x::c).Pairwise (fun a b=>a.aa<b.aa):=by
  rw [Bk];refine ⟨h7,AI.2 ⟨fun y hy=>by have:=(h6 y hy).2; simp only at h2 this; omega,h8⟩,fun y hy z hz=>?_⟩;have e1:=(h5 y hy).2
  rcases Au.1 hz with rfl | hz
  · simp only at h2 e1; omega
  · have e2:=(h6 z hz).2; simp only at e1 e2; omega
 have hpin:PIn N (a++x::c):=fun y hy=>by
  rcases hmem y hy with rfl | hy
  · simp only at h2; rw [h2]; exact hat
  · exact hp y hy
 rw [h1];refine ⟨⟨pin_len hN hpin hso,fun y hy=>?_,fun y hy=>?_,fun y hy=>?_,fun y hy=>?_,hso⟩,hpin,a,x,c,rfl,h2,h3,fun y hy=>(h5 y hy).2,fun y hy=>(h6 y hy).2⟩
 · rcases hmem y hy with rfl | hy
   · exact hx.1
   · exact h.ml y hy
 · rcases hmem y hy with rfl | hy
   · simp only at h2; omega
   · exact h.pa y hy
 · rcases hmem y hy with rfl | hy
   · exact hx.2.1
   · exact h.mr y hy
 · rcases hmem y hy with rfl | hy
   · exact hx.2.2
   · exact h.mo y hy
theorem aIS{N:List Nd}(hN:N.length≤24){out:List Gr}(h:pH out)(hp:PIn N out){at_:Int}{m:List Mb}(hat:hasN N at_∨at_=0)(hr:0≤at_∧at_≤1048576)(hm:aAR m)(hb:iQ m=m)(hne:m≠[])(v34:List (Int×Bool))(kk:List Gr→Int→Ag (List Gr×Int)) :
 aIT v34 out at_ kk m=(bif (mget v34 (topM (grpG (nC out ⟨at_,m⟩) at_))).getD false then some (nC out ⟨at_,m⟩,topM (grpG (nC out ⟨at_,m⟩) at_)) else kk (nC out ⟨at_,m⟩) (topM (grpG (nC out ⟨at_,m⟩) at_))) ∧
  ∃ x∈m,topM (grpG (nC out ⟨at_,m⟩) at_)=x.ID:=by
 obtain ⟨g1,g2,a,x,c,g3,g4,g5,g6,g7⟩:=aBZ hN h hp hat hr hm hb;have hgr:grpG (nC out ⟨at_,m⟩) at_=x.ab:=by
  rw [g3,←g4]; exact aHf fun y hy=>by rw [g4]; exact g6 y hy
 have hx:x∈nC out ⟨at_,m⟩:=by rw [g3]; simp
 have hxl:=g1.ml x hx;unfold aIT;rw [aIo h hr,bnoS,hgr];obtain ⟨a',b',e1,e2,e3,e4⟩:=aFY g1 hr;have ea:a'=a:=by
  rw [e2,g3,BO,CI,BP.2 (fun y hy=>Ae (g6 y hy)),Ad (show ¬x.aa<at_ by omega),Cs.2 (fun y hy=>by have:=g7 y hy; simp; omega)]
  simp
 rcases e4 with ⟨y,c',f1,f2,f3⟩ | ⟨f1,_⟩
 · rw [f3,bnoS,ea,dL g3,bnoS,sP g3,bnoS];cases hm2:x.ab with
   | nil =>
     rw [hm2] at g5;exact Ay g5.symm hne
   | cons b r =>
     have hlr:r.length≤1000:=by rw [hm2] at hxl; simp at hxl; omega
     rw [aHp hm2 hlr (g1.mr x hx),bnoS,bndD];refine ⟨rfl,?_⟩;have hbm:uI b r∈x.ab:=by
      rw [hm2]
      rcases aA0 r b with e | e
      · rw [e]; simp
      · exact Bg _ e
     refine ⟨⟨(uI b r).ID,(uI b r).ae,0⟩,?_,rfl⟩;rw [←g5];exact Ak.2 ⟨_,hbm,rfl⟩
 · exact Ay g4 (f1 x hx)
end Go.Fn
open Bool renaming or_false → CJ
open List renaming any_cons → DL
open Nat renaming le_of_lt → FL
open Go Go.IL
namespace Go.Fn
def zX(N:List Nd)(l:List Int):Nat→List Gr→Int→Ag (List Gr×Int)
 | 0,_,_=>none
 | k+1,out,at_ =>
   let out':=nC out ⟨at_,grpM N l at_⟩
   let id:=topM (grpG out' at_)
   bif N.any (fun n=>decide (n.ID=id)&&askN l n) then some (out',id) else zX N l k out' id
def askB(N:List Nd)(l:List Int)(id:Int):Bool:=N.any fun n=>decide (n.ID=id)&&askN l n
theorem aIA(N:List Nd)(l:List Int)(id:Int):askB N l id=askI N l id:=by
 unfold askB askI askN;rw [DI];simp only [Bv,Av,decide_eq_true_eq,DR];constructor
 · rintro ⟨n,h1,h2,h3,h4⟩; exact ⟨h2 ▸ h4,n,h1,h2,h3⟩
 · rintro ⟨h1,n,h2,h3,h4⟩; exact ⟨n,h2,h3,h4,h3.symm ▸ h1⟩
theorem aIE{N:List Nd}{r:Int→Nat}(h:Tr N r){l:List Int}{at_:Int}(ha:actQ N l N at_=true)(hk:askB N l at_=false):∃ m∈N,m.aa=at_∧actQ N l N m.ID=true:=by
 obtain ⟨n,hn,h1⟩:=Bv.1 ha;rw [Av,BB,decide_eq_true_eq,decide_eq_true_eq] at h1;obtain ⟨h1,h2⟩:=h1
 rcases h2 with h2 | h2
 · exfalso;have:askB N l at_=true:=Bv.2 ⟨n,hn,by rw [h1,Ae h2]; rfl⟩;rw [hk] at this; cases this
 · have key : ∀ (j:Nat) (z:Nd),z∈N→r z.ID≤j→at_∈fL N N.length z.ID→∃ m∈N,m.aa=at_∧(m.ID=z.ID∨m.ID∈fL N N.length z.ID):=by
    intro j
    induction j with
    | zero =>
      intro z hz hj hat;rw [xK h hz] at hat
      by_cases h0:z.aa=0
      · rw [Ao h0] at hat; cases hat
      · have:=h.rk z hz h0; omega
    | succ j ih =>
      intro z hz hj hat;rw [xK h hz] at hat ⊢
      by_cases h0:z.aa=0
      · rw [Ao h0] at hat; cases hat
      · rw [Al h0] at hat ⊢
        rcases Au.1 hat with e | hat
        · exact ⟨z,hz,e.symm,.inl rfl⟩
        · rcases h.pa z hz with e | ⟨p,hp,e⟩
          · exact Ay e h0
          · have hr:=h.rk z hz h0;rw [←e] at hat hr ⊢;obtain ⟨m,hm1,hm2,hm3⟩:=ih p hp (by omega) hat;exact ⟨m,hm1,hm2,.inr (by rcases hm3 with e2 | e2 <;> simp [e2])⟩
   obtain ⟨m,hm1,hm2,hm3⟩:=key (r n.ID) n hn (AP _) h2;refine ⟨m,hm1,hm2,Bv.2 ⟨n,hn,?_⟩⟩;rw [h1,BF,BB,decide_eq_true_eq,decide_eq_true_eq]
   rcases hm3 with e | e
   · exact .inl e.symm
   · exact .inr e
theorem aDK{N:List Nd}{r:Int→Nat}(h:Tr N r){l:List Int}(ha:∃ n∈N,askN l n=true):∃ m∈N,m.aa=0∧actQ N l N m.ID=true:=by
 obtain ⟨n,hn,hk⟩:=ha;have key:∀ (j:Nat) (z:Nd),z∈N→r z.ID≤j→∃ m∈N,m.aa=0∧(m.ID=z.ID∨m.ID∈fL N N.length z.ID):=by
  intro j
  induction j with
  | zero =>
    intro z hz hj
    by_cases h0:z.aa=0
    · exact ⟨z,hz,h0,.inl rfl⟩
    · have:=h.rk z hz h0; omega
  | succ j ih =>
    intro z hz hj
    by_cases h0:z.aa=0
    · exact ⟨z,hz,h0,.inl rfl⟩
    · rcases h.pa z hz with e | ⟨p,hp,e⟩
      · exact Ay e h0
      · have hr:=h.rk z hz h0;rw [xK h hz,Al h0];rw [←e] at hr ⊢;obtain ⟨m,hm1,hm2,hm3⟩:=ih p hp (by omega);exact ⟨m,hm1,hm2,.inr (by rcases hm3 with e2 | e2 <;> simp [e2])⟩
 obtain ⟨m,hm1,hm2,hm3⟩:=key (r n.ID) n hn (AP _);refine ⟨m,hm1,hm2,Bv.2 ⟨n,hn,?_⟩⟩;rw [hk,BF,BB,decide_eq_true_eq,decide_eq_true_eq]
 rcases hm3 with e | e
 · exact .inl e.symm
 · exact .inr e
structure AtI (N:List Nd) (l:List Int) (at_:Int):Prop where
 nd:at_≠0→∃ n∈N,n.ID=at_
 ac:∃ m∈N,m.aa=at_∧actQ N l N m.ID=true
 nk:at_≠0→askI N l at_=false∧(fL N N.length at_).any (askI N l)=false
def muR(N:List Nd)(r:Int→Nat)(at_:Int):Nat:=if at_=0 then N.length+1 else (N.countP fun n=>decide (r at_<r n.ID))+1
theorem aJg(N:List Nd)(r:Int→Nat)(at_:Int):muR N r at_≤N.length+1:=by
 unfold muR; split
 · omega
 · have:=Dl (p:=fun n=>decide (r at_<r n.ID)) (l:=N); omega
theorem aJf{N:List Nd}{r:Int→Nat}(h:Tr N r){m:Nd}(hm:m∈N):muR N r m.ID<muR N r m.aa:=by
 have h0:m.ID≠0:=by have:=h.id m hm; omega
 unfold muR;rw [Al h0];have hlt:∀ (p:Nd→Bool),p m=false→N.countP p<N.length:=fun p hp=>by
  have:∀ (L:List Nd),m∈L→L.countP p<L.length:=by
   intro L
   induction L with
   | nil=>intro hL; cases hL
   | cons x L ih =>
     intro hL;rw [Dw,AR];have hle:=Dl (p:=p) (l:=L)
     rcases Au.1 hL with e | hL
     · rw [←e,hp]; simp; omega
     · have:=ih hL; split <;> omega
  exact this N hm
 by_cases hp:m.aa=0
 · rw [Ao hp];have:=hlt (fun n=>decide (r m.ID<r n.ID)) (by simp);omega
 · rw [Al hp];have hr:=h.rk m hm hp;have : ∀ (L:List Nd),m∈L→L.countP (fun n=>decide (r m.ID<r n.ID))<L.countP (fun n=>decide (r m.aa<r n.ID)):=by
    intro L;have hmono:∀ (L:List Nd),L.countP (fun n=>decide (r m.ID<r n.ID))≤L.countP (fun n=>decide (r m.aa<r n.ID)):=fun L=>List.countP_mono_left fun n _ hn=>by
     rw [decide_eq_true_eq] at hn ⊢; omega
    induction L with
    | nil=>intro hL; cases hL
    | cons x L ih =>
      intro hL;rw [Dw,Dw];have hle:=hmono L
      rcases Au.1 hL with e | hL
      · rw [←e,Al (by simp),Ao (Ae hr)]; omega
      · have:=ih hL
        by_cases hx:r m.ID<r x.ID
        · rw [Ao (Ae hx),Ao (Ae (by omega))]; omega
        · rw [Al (by simpa using hx)]; split <;> omega
   have:=this N hm;omega
theorem aEJ{A:AS}{ns:List Nk}{first:Int}{cl:List Int}{R K:Int}{N:List Nd}{E:List Int}(h:TS A ns first cl R K N E){r:Int→Nat}(hT:Tr N r)(room keep:Int){l:List Int}{v33:List (Int×aW)}{v34 v35:List (Int×Bool)}(hI:aGP N l N v33 v34 v35) :
 ∀ (k f:Nat) (out:List Gr) (at_:Int),pH out→PIn N out→AtI N l at_→muR N r at_≤k→muR N r at_≤f →
 ∃ out' id,gF room keep A.Cells A.Free A.Used ns first cl v33 v34 v35 f out at_=some (out',id)∧zX N l k out at_=some (out',id)∧pH out'∧PIn N out'∧hasN N id∧aDV N l id=true
 | 0,f,out,at_,_,_,_,hk,_=>by exfalso; unfold muR at hk; split at hk <;> omega
 | k+1,0,out,at_,_,_,_,_,hf=>by exfalso; unfold muR at hf; split at hf <;> omega
 | k + 1,f+1,out,at_,hg,hp,ha,hk,hf=>by
   have hln:N.length≤24:=h.fv.ln;have hat:hasN N at_∨at_=0:=by
    by_cases h0:at_=0
    · exact .inr h0
    · exact .inl (ha.nd h0)
   have hr:0≤at_∧at_≤1048576:=by
    rcases hat with ⟨m,hm,e⟩ | e
    · have:=(h.fv.ra m hm).1; omega
    · omega
   obtain ⟨hm1,hm2⟩:=aDx h.fv l at_;have hne:grpM N l at_≠[]:=by
    obtain ⟨m,h1,h2,h3⟩:=ha.ac;intro h0;have:mkM m∈grpM N l at_:=Ak.2 ⟨m,AN.2 ⟨h1,by rw [Ae h2,h3]; rfl⟩,rfl⟩;rw [h0] at this; cases this
   obtain ⟨s1,x,hx,s2⟩:=aIS hln hg hp hat hr hm1 hm2 hne v34 (gF room keep A.Cells A.Free A.Used ns first cl v33 v34 v35 f);obtain ⟨g1,g2,_⟩:=aBZ hln hg hp hat hr hm1 hm2;obtain ⟨m,hmN,rfl⟩:=Ak.1 hx;obtain ⟨hmN,hmP⟩:=AN.1 hmN;rw [Av,decide_eq_true_eq] at hmP;have hid:topM (grpG (nC out ⟨at_,grpM N l at_⟩) at_)=m.ID:=s2;rw [aI4 h room keep hI out hat,s1]
   show ∃ out' id,_∧(bif N.any (fun n=>decide (n.ID=topM (grpG (nC out ⟨at_,grpM N l at_⟩) at_))&&askN l n) then some (nC out ⟨at_,grpM N l at_⟩,topM (grpG (nC out ⟨at_,grpM N l at_⟩) at_)) else zX N l k (nC out ⟨at_,grpM N l at_⟩) (topM (grpG (nC out ⟨at_,grpM N l at_⟩) at_)))=_∧_
   rw [hid,hI.ct m.ID,show (N.any fun n=>decide (n.ID=m.ID)&&askN l n)=askI N l m.ID from aIA N l m.ID];have hpath:(fL N N.length m.ID).any (askI N l)=false:=by
    rw [xK hT hmN,hmP.1]
    by_cases h0:at_=0
    · rw [Ao h0]; rfl
    · obtain ⟨n1,n2⟩:=ha.nk h0;rw [Al h0,DL,n1,n2]; rfl
   cases hq:askI N l m.ID with
   | true =>
     rw [bO];refine ⟨_,_,rfl,by rw [bO],g1,g2,⟨m,hmN,rfl⟩,?_⟩;unfold aDV; rw [hq,hpath]; rfl
   | false =>
     rw [bJ,bJ];have hmu:=aJf hT hmN;rw [hmP.1] at hmu;exact aEJ h hT room keep hI k f _ m.ID g1 g2 ⟨fun _=>⟨m,hmN,rfl⟩,aIE hT hmP.2 (by rw [aIA]; exact hq),fun _=>⟨hq,hpath⟩⟩ (by omega) (by omega)
def wC(N:List Nd)(l:List Gr):List Gr:=l.filter fun g=>!(!decide (g.aa=0) && !(N.any fun n=>decide (n.ID=g.aa)))
def aIH(N:List Nd)(l:List Int)(st:List Gr):Ag (List Gr×Int) :=
 bif !decide (uD st=0) || !(N.any (askN l)) then some (st,0) else zX N l 25 (wC N st) 0
theorem aDl{N:List Nd}{st:List Gr}(h:pH st):pH (wC N st)∧PIn N (wC N st):=by
 have hm:∀ g∈wC N st,g∈st:=fun g hg=>(AN.1 hg).1
 refine ⟨⟨?_,fun g hg=>h.ml g (hm g hg),fun g hg=>h.pa g (hm g hg),fun g hg=>h.mr g (hm g hg),fun g hg=>h.mo g (hm g hg),h.so.filter _⟩,fun g hg=>?_⟩
 · have:=Bs (fun g=>!(!decide (g.aa=0) && !(N.any fun n=>decide (n.ID=g.aa)))) st;have:=h.ln;unfold wC; omega
 · have:=(AN.1 hg).2;simp only [Bool.not_and,Bool.not_not,BB,decide_eq_true_eq,Bv] at this
   rcases this with e | ⟨n,hn,e⟩
   · exact .inr e
   · exact .inl ⟨n,hn,e⟩
theorem aDM{A:AS}{ns:List Nk}{first:Int}{cl:List Int}{R K:Int}{N:List Nd}{E:List Int}(h:TS A ns first cl R K N E)(room keep:Int){l:List Int}(hl:l.length≤1000){st:List Gr}(hst:fitG st) :
 ∃ out id,oN st l room keep A.Cells A.Free A.Used ns first cl=some (out,id)∧aIH N l st=some (out,id) ∧
   ((pH st∧(∃ n∈N,askN l n=true)∧pH out∧PIn N out∧hasN N id∧aDV N l id=true)∨(out=st∧id=0∧(¬pH st∨∀ n∈N,askN l n=false))):=by
 obtain ⟨w33,w34,w35,hI,hL⟩:=aCy h room keep hl st st N [] fuel [] [] [] rfl (dK (by have:N.length≤24:=h.fv.ln; omega)) (aJi N l);rw [show ((([]:List Nd).length:Nat):Int)=0 from rfl] at hL;obtain ⟨r,hT⟩:∃ r,Tr N r:=h.fv.tr;unfold oN;rw [aIe hst,bnoS,aFh h room keep,bnoS,hL];unfold pickT aIH;rw [aBu hst,bnoS,bndD,bndD,bndD];have hc:decide ((w34.length:Int)=0) = !(N.any (askN l)):=by
  cases hq:N.any (askN l) with
  | true =>
    obtain ⟨n,hn,hk⟩:=Bv.1 hq;refine Ad fun h0=>?_
    have:=hI.c0.1 (by omega) n hn;rw [hk] at this; cases this
  | false =>
    refine Ae ?_;rw [BJ] at hq;have:=hI.c0.2 fun n hn=>by simpa using hq n hn
    omega
 rw [hc]
 by_cases hg:uD st=0
 · have hgood:=pT.1 hg;cases hq:N.any (askN l) with
   | false =>
     rw [Ae hg];refine ⟨st,0,rfl,rfl,.inr ⟨rfl,rfl,.inr fun n hn=>?_⟩⟩;rw [BJ] at hq;simpa using hq n hn
   | true =>
     rw [Ae hg];simp only [AD,CJ,bJ];rw [del20 (by have:=hst.1; omega),bnoS];have hex:∃ n∈N,askN l n=true:=Bv.1 hq;have hk:(st.filter fun g=>!(!decide (g.aa=0) && !(mget w33 g.aa).isSome))=wC N st:=by
      unfold wC
      congr 1
      funext g
      congr 3
      cases hm:(N.any fun n=>decide (n.ID=g.aa)) with
      | true =>
        obtain ⟨n,hn,e⟩:=Bv.1 hm;rw [decide_eq_true_eq] at e;rw [←e,hI.nd n hn]; rfl
      | false =>
        rw [BJ] at hm;rw [hI.no g.aa fun n hn=>by simpa using hm n hn]; rfl
     rw [hk];obtain ⟨k1,k2⟩:=aDl (N:=N) hgood;have hln:N.length≤24:=h.fv.ln;have hmu:=aJg N r 0;obtain ⟨out,id,p1,p2,p3,p4,p5,p6⟩:=aEJ h hT room keep hI 25 fuel (wC N st) 0 k1 k2 ⟨fun h0=>Ay rfl h0,aDK hT hex,fun h0=>Ay rfl h0⟩ (by omega) (FL (dK (by omega)));exact ⟨out,id,p1,p2,.inl ⟨hgood,hex,p3,p4,p5,p6⟩⟩
 · rw [Ad hg];exact ⟨st,0,rfl,rfl,.inr ⟨rfl,rfl,.inl fun hgood=>hg (pT.2 hgood)⟩⟩
end Go.Fn
open Go Go.IL
namespace Go.Fn
theorem aI0{l:List Mb}(hl:l.length≤1000)(id:Int):(bW l id=some (-1)∧∀ y∈l,y.ID≠id)∨∃ a x t,l=a++x::t∧(∀ y∈a,y.ID≠id)∧x.ID=id∧bW l id=some (a.length:Int):=by
 unfold bW
 rcases aAu (L:=cA l id) (q:=fun y=>decide (y.ID=id)) (l:=l) (fun p x r f h=>by
  rw [cA]; simp only [pI,bndD,lJ h,bO,dL h,bnoS,w_at h (show l.length≤1000000 by omega)]) (fun f=>by
  rw [cA]; simp only [bndD,pQ,bJ]) l [] fuel rfl (dK (by omega)) (fun _ h=>(Bc h).elim) with ⟨h1,h2⟩ | ⟨a,x,t,h1,h2,h3,h4⟩
 · exact .inl ⟨h1,fun y hy=>of_decide_eq_false (h2 y hy)⟩
 · exact .inr ⟨a,x,t,h1,fun y hy=>of_decide_eq_false (h2 y hy),of_decide_eq_true h3,h4⟩
def addM(l:List Mb)(id b:Int):List Mb:=l.map fun m=>if m.ID=id then ⟨m.ID,m.ae,m.ag+b⟩ else m
def aAD(l:List Mb)(id b:Int):List Mb:=match l.find? fun m=>decide (m.ID=id) with | none=>l | some m=>addM (if 1099511627776-b<m.ag then iQ l else l) id b
theorem mb_uniq{l:List Mb}(h:l.Pairwise (fun a b=>a.ID<b.ID)){x y:Mb}(hx:x∈l)(hy:y∈l)(e:x.ID=y.ID):x=y:=by
 induction l with
 | nil=>cases hx
 | cons z l ih =>
   obtain ⟨h1,h2⟩:=AI.1 h
   rcases Au.1 hx with e1 | k1 <;> rcases Au.1 hy with e2 | k2
   · rw [e1,e2]
   · have:=h1 y k2; rw [←e1] at this; omega
   · have:=h1 x k1; rw [←e2] at this; omega
   · exact ih h2 k1 k2
theorem uA{α:Type}{f:α→α}{l:List α}(h:∀ y∈l,f y=y):l.map f=l:=by
 induction l with
 | nil=>rfl
 | cons x l ih=>rw [Ai,h x (by simp),ih fun y hy=>h y (by simp [hy])]
theorem aCY{a t:List Mb}{x:Mb}(ha:∀ y∈a,y.ID≠x.ID)(ht:∀ y∈t,y.ID≠x.ID)(b:Int):addM (a++x::t) x.ID b=a++⟨x.ID,x.ae,x.ag+b⟩::t:=by
 unfold addM;rw [Bq,Ai,Ao rfl,uA (fun y hy=>Al (ha y hy)),uA (fun y hy=>Al (ht y hy))]
theorem aBw(a t:List Mb)(x:Mb):iQ (a++x::t)=iQ a++⟨x.ID,x.ae,0⟩::iQ t:=by unfold iQ; rw [Bq,Ai]
theorem aA1{a:List Mb}{id:Int}(h:∀ y∈a,y.ID≠id):∀ y∈iQ a,y.ID≠id:=fun y hy=>by
 obtain ⟨z,hz,rfl⟩:=Ak.1 hy;exact h z hz
theorem aFG{a t:List Mb}{x:Mb}{b:Int}(ha:∀ y∈a,y.ID≠x.ID)(ht:∀ y∈t,y.ID≠x.ID)(h1:0≤x.ag+b)(h2:x.ag+b≤1099511627776){k:Nat}(hk:k=a.length):gK (a++x::t) (k:Int) b=some (addM (a++x::t) x.ID b):=by
 subst hk;unfold gK;rw [dL rfl,bnoS,bndD,w64 (by omega) (by omega),aCY ha ht,uE]
theorem aIk{l:List Mb}(h:aAR l)(p id:Int){b:Int}(hb:0≤b∧b≤1048576):jT ⟨p,l⟩ id b=some (aAD l id b):=by
 have hln:=h.ln;unfold jT aAD
 show bno (bW l id) _=_
 rcases aI0 (l:=l) (by omega) id with ⟨h1,h2⟩ | ⟨a,x,t,h1,h2,h3,h4⟩
 · rw [h1,bnoS,bndD,show decide ((-1:Int)<0)=true from rfl,bO,Cc.2 (fun y hy=>by simp [h2 y hy])]
 · have hx:x∈l:=by rw [h1]; simp
   have hok:=h.ok x hx;have hso:=h.so;rw [h1,Bk] at hso;have ht:∀ y∈t,y.ID≠x.ID:=fun y hy=>by have:=(AI.1 hso.2.1).1 y hy; omega
   have ha:∀ y∈a,y.ID≠x.ID:=by rw [h3]; exact h2
   have hf:l.find? (fun m=>decide (m.ID=id))=some x:=by
    rw [h1,CX,Cc.2 (fun y hy=>by simpa using h2 y hy)]; simp [h3]
   rw [h4,bnoS,bndD,Ad (by omega),bJ,hf]
   show bno (gix l (a.length:Int)) _=some (addM (if 1099511627776-b<x.ag then iQ l else l) id b)
   obtain ⟨_,_,hs1,hs2⟩:=hok;rw [dL h1,bnoS,bndD,bndD,w64 (by omega) (by omega),←h3]
   by_cases hc:1099511627776-b<x.ag
   · rw [Ae hc,bO,aH6 (by show l.length≤_; omega),bnoS,Ao hc]
     show gK (iQ l) _ b=_
     rw [h1,aBw];exact aFG (x:=⟨x.ID,x.ae,0⟩) (aA1 ha) (aA1 ht) (by show 0≤0+b; omega) (by show 0+b≤_; omega) (by simp [iQ])
   · rw [Ad hc,bJ,Al hc]
     show gK l _ b=_
     rw [h1];exact aFG ha ht (by omega) (by omega) rfl
theorem aD6{l:List Mb}(h:aAR l){id b:Int}(hb:0≤b)(hs:∀ m∈l,m.ID=id→m.ag+b≤1099511627776):aAR (addM l id b):=by
 refine ⟨by unfold addM; rw [An]; exact h.ln,fun y hy=>?_,?_⟩
 · obtain ⟨m,hm,rfl⟩:=Ak.1 hy;obtain ⟨o1,o2,o3⟩:=h.ok m hm
   by_cases e:m.ID=id
   · simp only [Ao e]; exact ⟨o1,o2,(by show 0≤m.ag+b; omega),hs m hm e⟩
   · simp only [Al e]; exact ⟨o1,o2,o3⟩
 · unfold addM;rw [Bi];refine h.so.imp fun {x y} hxy=>?_
   split <;> split <;> exact hxy
theorem aGM{l:List Mb}(h:aAR l):aAR (iQ l):=by
 refine ⟨by unfold iQ; rw [An]; exact h.ln,fun y hy=>?_,?_⟩
 · obtain ⟨m,hm,rfl⟩:=Ak.1 hy;obtain ⟨o1,o2,o3⟩:=h.ok m hm;exact ⟨o1,o2,(by show (0:Int)≤0; omega),(by show (0:Int)≤_; omega)⟩
 · unfold iQ;rw [Bi];exact h.so
theorem aFv{l:List Mb}(h:aAR l)(id:Int){b:Int}(hb:0≤b∧b≤1048576):aAR (aAD l id b):=by
 unfold aAD;cases hf:l.find? (fun m=>decide (m.ID=id)) with
 | none=>exact h
 | some x =>
   have hx:=Dt hf;have hi:x.ID=id:=by have:=ET hf; simpa using this
   show aAR (addM (if 1099511627776-b<x.ag then iQ l else l) id b)
   by_cases hc:1099511627776-b<x.ag
   · rw [Ao hc];refine aD6 (aGM h) hb.1 fun m hm _=>?_
     obtain ⟨z,_,rfl⟩:=Ak.1 hm
     show 0+b≤_; omega
   · rw [Al hc];refine aD6 h hb.1 fun m hm e=>?_
     have:=mb_uniq h.so hm hx (by rw [e,hi]);rw [this]; omega
theorem pH.mem{l:List Gr}(h:pH l){g:Gr}(hg:g∈l):aAR g.ab:=⟨h.ml g hg,h.mr g hg,h.mo g hg⟩
def yX(l:List Gr)(p id b:Int):List Gr:=l.map fun g=>if g.aa=p then ⟨g.aa,aAD g.ab id b⟩ else g
theorem aAE{l:List Gr}(h:pH l)(p id:Int){b:Int}(hb:0≤b∧b≤1048576):pH (yX l p id b):=by
 have key:∀ g∈yX l p id b,∃ z∈l,g.aa=z.aa∧aAR g.ab:=fun g hg=>by
  obtain ⟨z,hz,rfl⟩:=Ak.1 hg;refine ⟨z,hz,?_⟩
  by_cases e:z.aa=p
  · simp only [Ao e]; exact ⟨trivial,aFv (h.mem hz) id hb⟩
  · simp only [Al e]; exact ⟨trivial,h.mem hz⟩
 refine ⟨by unfold yX; rw [An]; exact h.ln,fun g hg=>?_,fun g hg=>?_,fun g hg=>?_,fun g hg=>?_,?_⟩
 · obtain ⟨z,hz,e,k⟩:=key g hg; exact k.ln
 · obtain ⟨z,hz,e,k⟩:=key g hg; rw [e]; exact h.pa z hz
 · obtain ⟨z,hz,e,k⟩:=key g hg; exact k.ok
 · obtain ⟨z,hz,e,k⟩:=key g hg; exact k.so
 · unfold yX;rw [Bi];refine h.so.imp fun {x y} hxy=>?_
   split <;> split <;> exact hxy
def yC(b:Int):List Gr→Int→List Int→List Gr
 | st,_,[]=>st
 | st,id,p::r=>yC b (yX st p id b) p r
theorem aAc{b:Int}(hb:0≤b∧b≤1048576):∀ (r:List Int) (st:List Gr) (id:Int),pH st→pH (yC b st id r)
 | [],_,_,h=>h
 | p::r,st,id,h=>aAc hb r _ p (aAE h p id hb)
theorem aFc{b:Int}(hb:0≤b∧b≤1048576){P:List Int}(hP:P.length≤1000000)(hpr:∀ p∈P,0≤p∧p≤1048576) :
 ∀ (r q:List Int) (f:Nat) (gs:List Gr) (id:Int),P=q++r→r.length<f→pH gs→gH P b f gs (q.length:Int) id=some (yC b gs id r)
 | _,_,0,_,_,_,hf,_=>Ay hf (by omega)
 | [],q,f+1,gs,id,h,hf,hg=>by rw [gH,bndD,oO h,bJ]; rfl
 | x :: r,q,f+1,gs,id,h,hf,hg=>by
   have hm:=aAE hg x id hb;have hrec:=aFc hb hP hpr r (q++[x]) f (yX gs x id b) x (eO h) (by simp at hf ⊢; omega) hm;rw [gH,bndD,lJ h,bO,dL h,bnoS,sP h,bnoS];obtain ⟨a,c,h1,h2,h3,h4⟩:=aFY hg (hpr x (by rw [h]; simp))
   rcases h4 with ⟨y,c',e1,e2,e3⟩ | ⟨e1,e3⟩
   · have hl:gs=a++y::c':=by rw [h1,e1]
     have hy:y∈gs:=by rw [hl]; simp
     have hs:gs.set ((a.length:Nat):Int).toNat (⟨y.aa,aAD y.ab id b⟩:aH)=yX gs x id b:=by
      have hso:=hg.so;rw [hl,Bk] at hso;rw [hl,uE];unfold yX;rw [Bq,Ai,Ao e2,uA (fun z hz=>Al (by have:=hso.2.2 z hz y (by simp); omega)),uA (fun z hz=>Al (by have:=(AI.1 hso.2.1).1 z hz; omega))]
     rw [e3,bnoS]
     show bno (gix gs (a.length:Int)) _=_
     rw [dL hl,bnoS,show y=⟨y.aa,y.ab⟩ from rfl,aIk (hg.mem hy) _ _ hb,bnoS,bndD,bndD,w_at h hP]
     show gH P b f (gs.set ((a.length:Nat):Int).toNat (⟨y.aa,aAD y.ab id b⟩:aH)) _ x=_
     rw [hs,hrec]; rfl
   · rw [e3,bnoS]
     show (bnd (Af .i64 ((q.length:Int)+1)) fun x37=>gH P b f gs x37 x)=_
     rw [bndD,w_at h hP];have hs:yX gs x id b=gs:=uA fun z hz=>Al (e1 z hz)
     show _=some (yC b (yX gs x id b) x r)
     rw [←hrec,hs]
def rZ(N:List Nd)(st:List Gr)(id b:Int):List Gr :=
 bif decide (uD st=0)&&inB b 0 1048576&&N.any (fun n=>decide (n.ID=id)) then yC b st id (fL N N.length id++[0]) else st
theorem aE8(a1 a2:Int)(a3:List AC)(a4 a5:Int)(a6:List Nk)(a7:Int)(a8:List Int):∀ (f:Nat) (v:List Int) (w:Int),gX a1 a2 a3 a4 a5 a6 a7 a8 f v w=fO a1 a2 a3 a4 a5 a6 a7 a8 f v w
 | 0,_,_=>rfl
 | f+1,v,w=>by
   rw [gX,fO];simp only [aE8 a1 a2 a3 a4 a5 a6 a7 a8 f]
theorem aGO{A:AS}{ns:List Nk}{first:Int}{cl:List Int}{R K:Int}{N:List Nd}{E:List Int}(h:TS A ns first cl R K N E)(id:Int)(room keep:Int):mA id room keep A.Cells A.Free A.Used ns first cl=some (if hasN N id then fL N N.length id else []):=by
 rw [←aII h id room keep];unfold mA mL;simp only [aE8]
theorem aEi{N:List Nd}(hN:N.length≤1000000)(id:Int):dG N id=some (N.any fun n=>decide (n.ID=id)):=by
 unfold dG eK;exact sQ (P:=fun n=>sA n id) (q:=fun n=>decide (n.ID=id)) (fun g=>rfl) (I:=cX N id) (fun f v=>rfl) hN
theorem aBy(N:List Nd)(id:Int):N.any (fun n=>decide (n.ID=id))=true↔hasN N id:=by
 rw [Bv];exact ⟨fun ⟨n,h1,h2⟩=>⟨n,h1,of_decide_eq_true h2⟩,fun ⟨n,h1,h2⟩=>⟨n,h1,Ae h2⟩⟩
theorem aAd{N:List Nd}{st:List Gr}(h:pH st)(id b:Int):pH (rZ N st id b):=by
 unfold rZ;cases hc:(decide (uD st=0)&&inB b 0 1048576&&N.any (fun n=>decide (n.ID=id))) with
 | false=>exact h
 | true =>
   rw [Av,Av] at hc;exact aAc (yB.1 hc.1.2) _ _ _ h
theorem aD8{A:AS}{ns:List Nk}{first:Int}{cl:List Int}{R K:Int}{N:List Nd}{E:List Int}(h:TS A ns first cl R K N E)(room keep:Int){st:List Gr}(hst:fitG st)(id b:Int):nT st id b room keep A.Cells A.Free A.Used ns first cl=some (rZ N st id b):=by
 have hln:N.length≤24:=h.fv.ln;unfold nT rZ;rw [aJc hst,bnoS,aBu hst,bnoS,bndD]
 by_cases hg:uD st=0
 · have hgood:=pT.1 hg;rw [Ae hg,show ((!true) == false)=true from rfl,gdtt,xG,bnoS,bndD];cases hb:inB b 0 1048576 with
   | false=>rfl
   | true =>
     have hbr:=yB.1 hb;simp only [AD,CJ,bJ,BF];rw [aGO h,bnoS,aFh h,bnoS,aEi (by omega),bnoS];cases ha:N.any (fun n=>decide (n.ID=id)) with
     | false=>rfl
     | true =>
       have hh:=(aBy N id).1 ha;obtain ⟨rk,htr⟩:∃ rk,Tr N rk:=h.fv.tr;obtain ⟨p1,p2⟩:=qU htr.so htr.rk htr.pa N.length id hh;have p3:=sD p1 p2;rw [AR,An] at p3;rw [Ao hh,bO];simp only [AD,bJ];rw [kI (by simp; omega) (by simp; omega),bnoS];exact aFc hbr (by simp; omega) (fun p hp=>by
        rcases AM.1 hp with hp | hp
        · obtain ⟨m,hm,e⟩:=Ak.1 (p2 p (Bg _ hp));have:=(h.fv.ra m hm).1; omega
        · rw [BE.1 hp]; omega) (fL N N.length id++[0]) [] fuel st id rfl (dK (by simp; omega)) hgood
 · rw [Ad hg]
   show bno (gd false _ default) _=_
   rw [gdff,bnoS]; rfl
def aJM(N:List Nd)(l:List Int)(b:Int)(st:List Gr):Ag (List Gr×Int) :=
 bno (aIH N l st) fun x=>bif decide (x.2=0) then some (x.1,0) else some (rZ N x.1 x.2 b,x.2)
theorem Next_ts{A:AS}{ns:List Nk}{first:Int}{cl:List Int}{R K:Int}{N:List Nd}{E:List Int}(h:TS A ns first cl R K N E)(room keep:Int){l:List Int}(hl:l.length≤1000){st:List Gr}(hst:fitG st)(b:Int) :
 ∃ out id,qT st l b room keep A.Cells A.Free A.Used ns first cl=some (out,id)∧aJM N l b st=some (out,id) ∧
   ((pH st∧(∃ n∈N,askN l n=true)∧pH out∧hasN N id∧id≠0∧aDV N l id=true)∨(out=st∧id=0∧(¬pH st∨∀ n∈N,askN l n=false))):=by
 obtain ⟨out,id,h1,h2,h3⟩:=aDM h room keep hl hst;unfold qT aJM;rw [h1,bnoS,bndD,h2,bnoS]
 rcases h3 with ⟨k1,k2,k3,k4,k5,k6⟩ | ⟨k1,k2,k3⟩
 · have h0:id≠0:=by
    obtain ⟨m,hm,e⟩:=k5;have:=(h.fv.ra m hm).1; omega
   rw [Ad h0];refine ⟨rZ N out id b,id,?_,rfl,.inl ⟨k1,k2,aAd k3 id b,k5,h0,k6⟩⟩
   show bno (nT out id b room keep A.Cells A.Free A.Used ns first cl) _=_
   rw [aD8 h room keep k3.fit,bnoS]
 · rw [k1,k2];exact ⟨st,0,rfl,rfl,.inr ⟨rfl,rfl,k3⟩⟩
end Go.Fn
open Go Go.IL
namespace Go.Fn
def In(M:List Int)(n:Nat)(l:List Int):Prop:=l.length=n∧∀ x∈l,x∈M
section
variable {α β:Type} {Q:α→Prop} {M:List Int} {n:Nat} {l:List Int}
end
section
variable {M:List Int} {n:Nat}
end
end Go.Fn
open Go Go.IL
namespace Go.Fn
section
variable {M:List Int} {n:Nat}
end
section
variable {M:List Int} {n:Nat} {rec0:Int→Int→Int→List Int→Ag (List Int)} {kk:List Int→Int→Int→Int→Bool→Bool→Ag (List Int)} {a b lim:Int} {c d:Bool}
end
section
variable {M:List Int} {n:Nat} {rec0:Int→Int→Int→List Int→Ag (List Int)}
end
end Go.Fn
open Go Go.IL
namespace Go.Fn
end Go.Fn
open Go Go.IL
namespace Go.Fn
abbrev T19:=aM
inductive Pl (N:List Nd) (id:Int):Int→Prop
 | yes (A:List Nd) (y:Nd) (C:List Nd) (h:N=A++y::C) (e:y.ID=id) (ha:∀ a∈A,a.ID≠id):Pl N id (A.length:Int)
 | no (h:∀ n∈N,n.ID≠id):Pl N id (-1)
theorem pl_L{t:T19}{id:Int}(hl:t.L.length≤1000):∀ (r p:List Nd) (f:Nat),t.L=p++r→(∀ a∈p,a.ID≠id)→r.length<f→∃ i,dO t id f (p.length:Int)=some i∧Pl t.L id i
 | [],p,f+1,hN,ha,_=>by
   rw [Ax] at hN;rw [dO];simp only [bndD,hN,pQ,bJ];exact ⟨_,rfl,.no ha⟩
 | n :: r,p,f+1,hN,ha,hf=>by
   rw [dO];simp only [bndD,lJ hN,bO,dL hN,bnoS,w_at hN (show t.L.length≤1000000 by omega)]
   by_cases h:n.ID=id
   · rw [Ae h,bO];exact ⟨_,rfl,.yes p n r hN h ha⟩
   · rw [Ad h,bJ];exact pl_L hl r (p++[n]) f (eO hN) (fun a hm=>by
      rcases AM.1 hm with hm | hm
      · exact ha a hm
      · rw [BE.1 hm]; exact h) (by simpa using hf)
theorem aBK{t:T19}(hl:t.L.length≤1000)(id:Int):∃ i,bP t id=some i∧Pl t.L id i :=
 pl_L hl t.L [] fuel rfl (fun _ h=>(Bc h).elim) (dK (by omega))
theorem pl_no{t:T19}(hl:t.L.length≤1000){id:Int}(h:∀ n∈t.L,n.ID≠id):bP t id=some (-1):=by
 obtain ⟨i,h1,h2⟩:=aBK hl id;cases h2 with
 | yes A y C hN e _=>exact Ay e (h y (by rw [hN]; simp))
 | no _=>exact h1
theorem aDa{t:T19}(hl:t.L.length≤1000){id:Int}{A C:List Nd}{y:Nd}(h:t.L=A++y::C)(e:y.ID=id)(ha:∀ a∈A,a.ID≠id):bP t id=some (A.length:Int):=by
 have key:∀ (B p:List Nd) (f:Nat),t.L=p++(B++y::C)→(∀ a∈B,a.ID≠id)→B.length<f→dO t id f (p.length:Int)=some (((p++B).length:Nat):Int):=fun B=>by
  induction B with
  | nil =>
    intro p f hN _ hf;obtain ⟨f,rfl⟩:∃ g,f=g+1:=⟨f-1,by omega⟩;have hN:t.L=p++y::C:=hN;rw [dO];simp only [bndD,lJ hN,bO,dL hN,bnoS,Ae e,Ax]
  | cons b B ih =>
    intro p f hN hb hf;obtain ⟨f,rfl⟩:∃ g,f=g+1:=⟨f-1,by omega⟩;have hN:t.L=p++b::(B++y::C):=hN;have hr:=ih (p++[b]) f (eO hN) (fun a ha=>hb a (by simp [ha])) (by simpa using hf);rw [dO];simp only [bndD,lJ hN,bO,dL hN,bnoS,Ad (hb b (by simp)),bJ,w_at hN (show t.L.length≤1000000 by omega)];rw [hr]; simp
 have hA:A.length≤1000:=by rw [h] at hl; simp at hl; omega
 exact key A [] fuel h ha (dK (by omega))
theorem par_pl{N A C:List Nd}{y:Nd}{id:Int}(h:N=A++y::C)(e:y.ID=id)(ha:∀ a∈A,a.ID≠id):tD N id=some y.aa:=by
 unfold tD;rw [h,CX];have h1:A.find? (fun n=>decide (n.ID=id))=none:=Cc.2 (fun a hm=>by simpa using ha a hm);rw [h1];simp [e]
theorem aEF{t:T19}(hl:t.L.length≤1000)(h0:∀ n∈t.L,n.ID≠0):∀ (k f turn:Nat) (id i:Int) (acc:List Int),Pl t.L id i→turn+k=t.L.length+1→k<f→acc.length≤turn→dT t f acc i (turn:Int)=some (acc++fL t.L k id)
 | k,0,_,_,_,_,_,_,hf,_=>Ay hf (by omega)
 | 0,f+1,turn,id,i,acc,_,ht,_,_=>by
   rw [dT];simp only [bndD,Ad (show ¬(turn:Int)≤(t.L.length:Int) by omega),Bu,bJ];unfold fL; rw [Ax]
 | k + 1,f+1,turn,id,i,acc,hp,ht,hf,ha=>by
   rw [dT];unfold fL;cases hp with
   | no h =>
     rw [aFA h];simp only [bndD,show decide (0≤(-1:Int))=false from rfl,Ct,bJ,Ax]
   | yes A y C hN e hA =>
     have hg:gix t.L (A.length:Int)=some y:=dL hN;obtain ⟨j,hj,hp2⟩:=aBK hl y.aa;rw [par_pl hN e hA];simp only [bndD,Ae (show (turn:Int)≤(t.L.length:Int) by omega),Ae (show (0:Int)≤(A.length:Int) by omega),Dm,bO,hg,bnoS];have hw:Af .i64 ((turn:Int)+1)=((turn+1:Nat):Int):=by rw [w64 (by omega) (by omega)]; omega
     by_cases hz:y.aa=0
     · have hr:=aEF hl h0 k f (turn+1) y.aa j acc hp2 (by omega) (by omega) (by omega);have hnil:fL t.L k y.aa=[]:=by
        cases k with
        | zero=>rfl
        | succ k=>unfold fL; rw [aFA (fun n hn=>by rw [hz]; exact h0 n hn)]
       rw [hnil] at hr;rw [Ae hz]
       show gI t (turn:Int) (dT t f) y acc=_
       unfold gI;rw [hj,bnoS,bndD,hw,hr,Ao hz]
     · have hr:=aEF hl h0 k f (turn+1) y.aa j (acc++[y.aa]) hp2 (by omega) (by omega) (by rw [AO,BN]; omega);rw [Ad hz]
       show bno (app 8 acc [y.aa]) _=_
       rw [kI (by rw [BN]; omega) (by rw [BN]; omega),bnoS];unfold gI;rw [hj,bnoS,bndD,hw,hr,Al hz,AA]; rfl
theorem rpath{t:T19}(hl:t.L.length≤1000)(h0:∀ n∈t.L,n.ID≠0)(id:Int):gN t id=some (fL t.L (t.L.length+1) id):=by
 obtain ⟨i,hi,hp⟩:=aBK hl id;have:=aEF hl h0 (t.L.length+1) fuel 0 id i [] hp (by omega) (dK (by omega)) (AP _);unfold gN;rw [hi,bnoS];exact this
theorem in_L{l:List Int}{x:Int}(hl:l.length≤1000000):∀ (r p:List Int) (f:Nat),l=p++r→r.length<f→jZ l x f (p.length:Int)=some (decide (x∈r))
 | [],p,f+1,h,_=>by
   rw [Ax] at h;rw [jZ];simp only [bndD,h,pQ,bJ]
   simp
 | y :: r,p,f+1,h,hf=>by
   have hr:=in_L (x:=x) hl r (p++[y]) f (eO h) (by simpa using hf);rw [jZ];simp only [bndD,lJ h,bO,dL h,bnoS,w_at h hl]
   by_cases e:y=x
   · rw [Ae e,bO,Ae (show x∈y::r by rw [e]; simp)]
   · rw [Ad e,bJ,hr];have:x∈y::r↔x∈r:=by
      constructor
      · intro h; exact (Au.1 h).resolve_left (fun e2=>e e2.symm)
      · intro h; exact Bg _ h
     simp only [this]
theorem in19{l:List Int}{x:Int}(hl:l.length≤1000000):nU l x=some (decide (x∈l)):=in_L hl l [] fuel rfl (dK (by omega))
def zB(N:List Nd)(id:Int):List Int:=(N.filter fun n=>decide (n.aa=id)).map (·.ID)
theorem aJj{t:T19}(hl:t.L.length≤1000){id:Int}:∀ (r p:List Nd) (f:Nat),t.L=p++r→r.length<f→eT t id f (zB p id) (p.length:Int)=some (zB t.L id)
 | [],p,f+1,h,_=>by
   rw [Ax] at h;rw [eT];simp only [bndD,h,pQ,bJ]
 | n :: r,p,f+1,h,hf=>by
   have hr:=aJj hl (id:=id) r (p++[n]) f (eO h) (by simpa using hf);have hk:(zB p id).length≤1000:=by
    unfold zB;rw [An];have:=Bs (fun n=>decide (n.aa=id)) p;rw [h] at hl; simp at hl; omega
   have e:zB (p++[n]) id=if n.aa=id then zB p id++[n.ID] else zB p id:=by
    unfold zB;rw [BO,Bq]
    by_cases hn:n.aa=id <;> simp [hn]
   rw [e] at hr;rw [eT];simp only [bndD,lJ h,bO,dL h,bnoS,w_at h (show t.L.length≤1000000 by omega)]
   by_cases hn:n.aa=id
   · rw [Ao hn] at hr;rw [Ae hn,bO,kI (by simp; omega) (by simp; omega),bnoS];exact hr
   · rw [Al hn] at hr;rw [Ad hn,bJ];exact hr
theorem aJk{t:T19}(hl:t.L.length≤1000)(id:Int):lO t id=some (zB t.L id) :=
 aJj hl t.L [] fuel rfl (dK (by omega))
theorem wo_L{l:List Int}{x:Int}(hl:l.length≤1000):∀ (r p:List Int) (f:Nat),l=p++r→r.length<f→fJ l x f (p.filter fun y=>!decide (y=x)) (p.length:Int)=some (l.filter fun y=>!decide (y=x))
 | [],p,f+1,h,_=>by
   rw [Ax] at h;rw [fJ];simp only [bndD,h,pQ,bJ]
 | y :: r,p,f+1,h,hf=>by
   have hr:=wo_L (x:=x) hl r (p++[y]) f (eO h) (by simpa using hf);have hk:(p.filter fun y=>!decide (y=x)).length≤1000:=by
    have:=Bs (fun y=>!decide (y=x)) p;rw [h] at hl; simp at hl; omega
   rw [BO] at hr;rw [fJ];simp only [bndD,lJ h,bO,dL h,bnoS,w_at h (show l.length≤1000000 by omega)]
   by_cases e:y=x
   · rw [show [y].filter (fun y=>!decide (y=x))=[] by simp [e],Ax] at hr;rw [Ae e];exact hr
   · rw [show [y].filter (fun y=>!decide (y=x))=[y] by simp [e]] at hr;rw [Ad e]
     show bno (app 8 (p.filter fun y=>!decide (y=x)) [y]) _=_
     rw [kI (by simp; omega) (by simp; omega),bnoS];exact hr
theorem wo19{l:List Int}{x:Int}(hl:l.length≤1000):lA l x=some (l.filter fun y=>!decide (y=x)):=wo_L hl l [] fuel rfl (dK (by omega))
theorem aJR{t:T19}(hl:t.L.length≤1000){A C:List Nd}{y z:Nd}(h:t.L=A++y::C)(e:y.ID=z.ID)(ha:∀ a∈A,a.ID≠z.ID):eN t z=some ⟨t.aj,t.ak,A++z::C,t.af⟩:=by
 unfold eN;rw [kI (by simp; omega) (by simp; omega),bnoS,Bp,aDa hl h e ha,bnoS,dL h,bnoS,sP h,bnoS,bndD];rw [show t.L.set ((A.length:Nat):Int).toNat z=A++z::C by rw [h]; exact uE]
end Go.Fn
open Go Go.IL
namespace Go.Fn
section
variable {st:Fs}
end
end Go.Fn
open Go Go.IL
namespace Go.Fn
section
variable {N:List Nd}
end
structure GV (st:Fs):Prop where
 rm:1≤st.aj∧st.aj≤24
 kp:0≤st.ak∧st.ak≤st.aj
 ln:(st.ai.length:Int)≤st.aj
 el:(st.al.length:Int)≤st.ak
 fv:FV 24 ⟨24,24,st.ai,st.al⟩
end Go.Fn
open Int renaming ediv_le_self → FP,tdiv_eq_ediv_of_nonneg → En
open Go Go.IL
namespace Go.Fn
def sel(h:Nd→Nd)(ks:List Int)(n:Nd):Nd:=if n.ID∈ks then h n else n
theorem aEr{h:Nd→Nd}(hid:∀ n,(h n).ID=n.ID)(ks:List Int)(n:Nd):(sel h ks n).ID=n.ID:=by unfold sel; split; exact hid n; rfl
theorem aBA{h:Nd→Nd}(N:List Nd):N.map (sel h [])=N:=by
 conv=>rhs; rw [←CH N]
 exact AF (fun n _=>by unfold sel; simp)
section
variable {N:List Nd} {R K:Int} {E:List Int}
theorem yI{h:Nd→Nd}(hid:∀ n,(h n).ID=n.ID)(hs:N.Pairwise (fun a b=>a.ID<b.ID))(hl:N.length≤1000){y:Nd}(hy:y∈N){pre:List Int}(hp:y.ID ∉ pre) :
 ∃ A C,N.map (sel h pre)=A++y::C∧bP ⟨R,K,N.map (sel h pre),E⟩ y.ID=some (A.length:Int)∧∀ z:Nd,z.ID=y.ID→z=h y→eN ⟨R,K,N.map (sel h pre),E⟩ z=some ⟨R,K,N.map (sel h (pre++[y.ID])),E⟩:=by
 obtain ⟨A,C,hN⟩:=BR hy;have hs2:=hs;rw [hN] at hs2;obtain ⟨hA,hC⟩:=aBx hs2;have hys:sel h pre y=y:=by unfold sel; rw [Al hp]
 have hsame:∀ n,n.ID≠y.ID→sel h (pre++[y.ID]) n=sel h pre n:=fun n hn=>by
  unfold sel;have:n.ID∈pre++[y.ID]↔n.ID∈pre:=by simp [hn]
  simp only [this]
 have h1:N.map (sel h pre)=A.map (sel h pre)++y::C.map (sel h pre):=by
  rw [hN,Bq,Ai,hys]
 have h2:N.map (sel h (pre++[y.ID]))=A.map (sel h pre)++h y::C.map (sel h pre):=by
  rw [hN,Bq,Ai,AF (fun n hn=>hsame n (hA n hn)),AF (fun n hn=>hsame n (hC n hn))]
  congr 2
  unfold sel;rw [Ao (by simp)]
 have hA2:∀ a∈A.map (sel h pre),a.ID≠y.ID:=fun a ha=>by
  obtain ⟨n,hn,e⟩:=Ak.1 ha;rw [←e,aEr hid];exact hA n hn
 have hl2:(⟨R,K,N.map (sel h pre),E⟩:T19).L.length≤1000:=by show (N.map (sel h pre)).length≤1000; rw [An]; exact hl
 refine ⟨_,_,h1,aDa hl2 h1 rfl hA2,fun z hz1 hz2=>?_⟩;rw [aJR hl2 h1 hz1.symm (fun a ha=>by rw [hz1]; exact hA2 a ha),h2,hz2]
end
def wS:List Nd→Int
 | []=>0
 | n::r=>n.ae+wS r
theorem aJS:∀ a b:List Nd,wS (a++b)=wS a+wS b
 | [],b=>by show wS b=0+wS b; omega
 | n::a,b=>by
   have:=aJS a b
   show n.ae+wS (a++b)=n.ae+wS a+wS b
   omega
theorem aGS(id:Int):∀ N:List Nd,wS (N.filter fun n=>decide (n.aa=id))=sumS N id
 | []=>rfl
 | n :: N=>by
   have:=aGS id N;have e:sumS (n::N) id=(if n.aa=id then n.ae else 0)+sumS N id:=rfl;rw [e]
   by_cases h:n.aa=id
   · rw [BC (by simp [h]),Ao h]
     show n.ae+wS _=_
     rw [this]
   · rw [Be (by simp [h]),Al h,this]; omega
theorem wS_bd:∀ {M:List Nd},(∀ n∈M,1≤n.ae∧n.ae≤256)→0≤wS M∧wS M≤256*M.length
 | [],_=>⟨Dj _,Dj _⟩
 | n::M,h=>by
   have h1:=wS_bd (M:=M) (fun x hx=>h x (by simp [hx]));have h2:=h n (by simp)
   show 0≤n.ae+wS M∧n.ae+wS M≤256*((M.length+1:Nat):Int)
   omega
section
variable {N:List Nd} {R K:Int} {E:List Int}
theorem aFH{M p r:List Nd}{n:Nd}(h:M=p++n::r):M.map (·.ID)=p.map (·.ID)++n.ID::r.map (·.ID):=by rw [h]; simp
theorem aGk(hs:N.Pairwise (fun a b=>a.ID<b.ID))(hl:N.length≤1000)(hw:∀ n∈N,1≤n.ae∧n.ae≤256){id:Int}{x2:Nd}{M:List Nd}(hM:∀ n∈M,n∈N)(hml:M.length≤1000){res:Ag T19}(hres:fA id x2 (M.map (·.ID)) (wS M) fuel 0 R K N E=res):∀ (r p:List Nd) (f:Nat),M=p++r→r.length<f→fQ ⟨R,K,N,E⟩ id x2 (M.map (·.ID)) f (wS p) (p.length:Int)=res
 | [],p,f+1,h,_=>by
   rw [Ax] at h;subst h;rw [fQ];have:decide ((M.length:Int)<((M.map (·.ID)).length:Int))=false:=by rw [An]; exact pQ
   simp only [bndD,this,bJ];exact hres
 | n::r,p,f+1,h,hf=>by
   have hrec:=aGk hs hl hw hM hml hres r (p++[n]) f (eO h) (by simpa using hf);have hn:=hM n (by rw [h]; simp);have hwn:=hw n hn;have hpb:=wS_bd (M:=p) (fun x hx=>hw x (hM x (by rw [h]; simp [hx])));have hpl:p.length≤1000:=by rw [h] at hml; simp at hml; omega
   have hmp:=aFH h;have hlen:(p.map (·.ID)).length=p.length:=An ..
   obtain ⟨A,C,hA,hpl2,_⟩:=yI (h:=fun n=>n) (fun _=>rfl) hs hl (R:=R) (K:=K) (E:=E) hn (pre:=[]) Bc;rw [aBA] at hA hpl2;have h1:=lJ hmp;have h2:=dL hmp;have h3:=w_at hmp (by rw [An]; omega);rw [hlen] at h1 h2 h3;rw [AO,hlen,←hlen,←AO] at h3;have h3:Af .i64 ((p.length:Int)+1)=((p++[n]).length:Int):=w_at h (by omega);rw [aJS,show wS [n]=n.ae+0 from rfl,Int.add_zero] at hrec;rw [fQ];simp only [bndD,h1,bO,h2,bnoS,hpl2,dL hA,w64 (show -9223372036854775808≤wS p+n.ae by omega) (by omega),h3];exact hrec
theorem aGi{id:Int}(hl:N.length≤1000)(he:E.length≤1000):∀ (r p:List Nd) (f:Nat),N=p++r→r.length<f→eZ id R K N E f (p.filter fun n=>!decide (n.ID=id)) (p.length:Int)=some ⟨R,K,N.filter fun n=>!decide (n.ID=id),E.filter fun y=>!decide (y=id)⟩
 | [],p,f+1,h,_=>by
   rw [Ax] at h;rw [eZ];simp only [bndD,h,pQ,bJ,wo19 he,bnoS]
 | n :: r,p,f+1,h,hf=>by
   have hr:=aGi (id:=id) hl he r (p++[n]) f (eO h) (by simpa using hf);have hk:(p.filter fun n=>!decide (n.ID=id)).length≤1000:=by
    have:=Bs (fun n:Nd=>!decide (n.ID=id)) p;rw [h] at hl; simp at hl; omega
   rw [BO] at hr;rw [eZ];simp only [bndD,lJ h,bO,dL h,bnoS,w_at h (show N.length≤1000000 by omega)]
   by_cases e:n.ID=id
   · rw [show [n].filter (fun n:Nd=>!decide (n.ID=id))=[] by simp [e],Ax] at hr;rw [Ae e];exact hr
   · rw [show [n].filter (fun n:Nd=>!decide (n.ID=id))=[n] by simp [e]] at hr;rw [Ad e]
     show bno (app 32 (p.filter fun n=>!decide (n.ID=id)) [n]) _=_
     rw [kI (by rw [BN]; omega) (by rw [BN]; omega),bnoS];exact hr
def goN(y:Nd)(S:Int)(n:Nd):Nd:=⟨n.ID,y.aa,max 1 (y.ae*n.ae / S),n.af⟩
theorem aGj(hs:N.Pairwise (fun a b=>a.ID<b.ID))(hl:N.length≤1000)(he:E.length≤1000)(hw:∀ n∈N,1≤n.ae∧n.ae≤256){id:Int}{y:Nd}(hy:1≤y.ae∧y.ae≤256){M:List Nd}(hM:∀ n∈M,n∈N)(hml:M.length≤1000){S:Int}(hS:∀ n∈M,n.ae≤S)(hnd:(M.map (·.ID)).Nodup):∀ (r p:List Nd) (f:Nat),M=p++r→r.length<f→fA id y (M.map (·.ID)) S f (p.length:Int) R K (N.map (sel (goN y S) (p.map (·.ID)))) E=some ⟨R,K,(N.map (sel (goN y S) (M.map (·.ID)))).filter fun n=>!decide (n.ID=id),E.filter fun y=>!decide (y=id)⟩
 | [],p,f+1,h,_=>by
   rw [Ax] at h;subst h;rw [fA];have:decide ((M.length:Int)<((M.map (·.ID)).length:Int))=false:=by rw [An]; exact pQ
   simp only [bndD,this,bJ];exact aGi (by rw [An]; exact hl) he _ [] fuel rfl (dK (by rw [An]; omega))
 | n::r,p,f+1,h,hf=>by
   have hrec:=aGj hs hl he hw (id:=id) hy hM hml hS hnd r (p++[n]) f (eO h) (by simpa using hf);have hnM:n∈M:=by rw [h]; simp
   have hn:=hM n hnM;have hwn:=hw n hn;have hSn:=hS n hnM;have hmp:=aFH h;have hlen:(p.map (·.ID)).length=p.length:=An ..
   have hnp:n.ID ∉ p.map (·.ID):=fun hh=>by
    rw [hmp] at hnd;exact (Cu.1 hnd).2.2 n.ID hh n.ID (by simp) rfl
   obtain ⟨A,C,hA,hpl2,hwith⟩:=yI (h:=goN y S) (fun _=>rfl) hs hl (R:=R) (K:=K) (E:=E) hn hnp;have h1:=lJ hmp;have h2:=dL hmp;rw [hlen] at h1 h2;have h3:Af .i64 ((p.length:Int)+1)=((p++[n]).length:Int):=w_at h (by omega);have g1:1≤y.ae*n.ae:=by
    have:=DU hy.1 hwn.1 (by decide) (by omega);simpa using this
   have g2:y.ae*n.ae≤65536:=by
    have:=DU hy.2 hwn.2 (by omega) (by decide);simpa using this
   have hd0:0≤y.ae*n.ae / S:=Int.ediv_nonneg (by omega) (by omega);have hd1:y.ae*n.ae / S≤y.ae*n.ae:=FP _ (by omega);have hquo:quoI .i64 (y.ae*n.ae) S=some (y.ae*n.ae / S):=by
    unfold quoI;rw [Al (by omega),En (by omega),w64 (by omega) (by omega)]
   have hwi:=hwith ⟨n.ID,y.aa,max 1 (y.ae*n.ae / S),n.af⟩ rfl rfl;rw [Bq,show [n].map (·.ID)=[n.ID] from rfl] at hrec;rw [fA];simp only [bndD,h1,bO,h2,bnoS,hpl2,dL hA,w64 (show -9223372036854775808≤y.ae*n.ae by omega) (by omega),hquo,hwi,h3];exact hrec
theorem roff19(hs:N.Pairwise (fun a b=>a.ID<b.ID))(hl:N.length≤1000)(he:E.length≤1000)(hw:∀ n∈N,1≤n.ae∧n.ae≤256){A C:List Nd}{y:Nd}(hN:N=A++y::C)(hp:y.aa≠y.ID):fN ⟨R,K,N,E⟩ y.ID=some ⟨R,K,offS A y C,E.filter fun e=>!decide (e=y.ID)⟩:=by
 have hy:y∈N:=by rw [hN]; simp
 have hs2:=hs;rw [hN] at hs2;obtain ⟨hA,hC⟩:=aBx hs2;have hM:∀ n∈N.filter (fun n=>decide (n.aa=y.ID)),n∈N:=fun n hn=>(AN.1 hn).1
 have hml:(N.filter fun n=>decide (n.aa=y.ID)).length≤1000:=by
  have:=Bs (fun n:Nd=>decide (n.aa=y.ID)) N;omega
 have hsum:sumS N y.ID=sumS (A++C) y.ID:=by
  rw [hN,aA6,aA6];have e:sumS (y::C) y.ID=(if y.aa=y.ID then y.ae else 0)+sumS C y.ID:=rfl;rw [e,Al hp]; omega
 have hS:∀ n∈N.filter (fun n=>decide (n.aa=y.ID)),n.ae≤sumS (A++C) y.ID:=fun n hn=>by
  obtain ⟨h1,h2⟩:=AN.1 hn;have h2:n.aa=y.ID:=of_decide_eq_true h2;have:=aDR hw h1;rw [h2,hsum] at this;exact this
 have hnd:=zH (List.Pairwise.sublist (DA (p:=fun n=>decide (n.aa=y.ID))) hs);have h1:=aGj (R:=R) (K:=K) hs hl he hw (id:=y.ID) (hw y hy) hM hml hS hnd (N.filter fun n=>decide (n.aa=y.ID)) [] fuel rfl (dK (by omega));rw [show List.map (fun x:Nd=>x.ID) []=[] from rfl,aBA] at h1;have hwk:=aGS y.ID N;rw [hsum] at hwk;rw [←hwk] at h1;have h0:=aGk (R:=R) (K:=K) (E:=E) hs hl hw hM hml h1 (N.filter fun n=>decide (n.aa=y.ID)) [] fuel rfl (dK (by omega));have hfin:(N.map (sel (goN y (wS (N.filter fun n=>decide (n.aa=y.ID)))) ((N.filter fun n=>decide (n.aa=y.ID)).map (·.ID)))).filter (fun n=>!decide (n.ID=y.ID))=offS A y C:=by
  rw [hwk];generalize hg:sel (goN y (sumS (A++C) y.ID)) ((N.filter fun n=>decide (n.aa=y.ID)).map (·.ID))=g;have hgid:∀ n,(g n).ID=n.ID:=fun n=>by rw [←hg]; exact aEr (h:=goN y (sumS (A++C) y.ID)) (fun _=>rfl) _ n
  have hgo:∀ n∈N,g n=offN y (sumS (A++C) y.ID) n:=fun n hn=>by
   rw [←hg];unfold sel offN goN;have:n.ID∈(N.filter fun n=>decide (n.aa=y.ID)).map (·.ID)↔n.aa=y.ID:=by
    constructor
    · intro hh;obtain ⟨m,hm,e⟩:=Ak.1 hh;obtain ⟨hm1,hm2⟩:=AN.1 hm;have:m=n:=sT hs hm1 hn e;rw [←this]; exact of_decide_eq_true hm2
    · intro hh;exact Ak.2 ⟨n,AN.2 ⟨hn,Ae hh⟩,rfl⟩
   simp only [this,Int.max_comm]
  have hkeep:∀ B:List Nd,(∀ b∈B,b∈N)→(∀ b∈B,b.ID≠y.ID)→(B.map g).filter (fun n=>!decide (n.ID=y.ID))=B.map (offN y (sumS (A++C) y.ID)):=fun B hB hne=>by
   rw [AF (fun b hb=>hgo b (hB b hb))];refine BP.2 (fun n hn=>?_);obtain ⟨b,hb,e⟩:=Ak.1 hn;rw [←e,wB,Ad (hne b hb)]; rfl
  unfold offS
  conv=>lhs; rw [hN]
  rw [Bq,Ai,BO,Be (by rw [hgid]; simp),hkeep A (fun b hb=>by rw [hN]; simp [hb]) hA,hkeep C (fun b hb=>by rw [hN]; simp [hb]) hC,Bq]
 rw [hfin] at h0;unfold fN;rw [aDa (t:=⟨R,K,N,E⟩) hl hN rfl hA,bnoS]
 show bno (gix N (A.length:Int)) _=_
 rw [dL hN,bnoS,aJk (t:=⟨R,K,N,E⟩) hl,bnoS];exact h0
end
end Go.Fn
open Go Go.IL
namespace Go.Fn
def aHb(N:List Nd)(x d w:Int)(o b:Bool)(p:Int):List Nd:=bif b then (N.map (mvN d p)).map (pO x d w o) else N.map (pO x d w o)
section
variable {N:List Nd} {R K:Int} {E:List Int}
theorem mv_so(hs:N.Pairwise (fun a b=>a.ID<b.ID))(d p:Int):(N.map (mvN d p)).Pairwise (fun a b=>a.ID<b.ID):=by
 rw [Bi];exact hs.imp (fun hab=>by rw [oK,oK]; exact hab)
def tkN(x:Int)(n:Nd):Nd:=⟨n.ID,x,n.ae,n.af⟩
def atN(d w:Int)(n:Nd):Nd:=⟨n.ID,d,w,n.af⟩
theorem aGt(hs:N.Pairwise (fun a b=>a.ID<b.ID))(hl:N.length≤1000){x d w:Int}{y z:Nd}(hz:z∈N)(hzx:z.ID=x)(hyx:y.ID=x)(hc:y.af=z.af):eN ⟨R,K,N,E⟩ (⟨y.ID,d,w,y.af⟩:Nd)=some ⟨R,K,N.map (sel (atN d w) [x]),E⟩:=by
 obtain ⟨A,C,hA,_,hwi⟩:=yI (h:=atN d w) (fun _=>rfl) hs hl (R:=R) (K:=K) (E:=E) hz (pre:=[]) Bc;rw [aBA] at hwi;have:=hwi ⟨y.ID,d,w,y.af⟩ (hyx.trans hzx.symm) (by show _=(⟨z.ID,d,w,z.af⟩:Nd); rw [hyx,hzx,hc]);rw [this,Bp,hzx]
theorem aJa(hs:N.Pairwise (fun a b=>a.ID<b.ID))(hl:N.length≤1000){x d w:Int}{o:Bool}{y z:Nd}(hz:z∈N)(hzx:z.ID=x)(hyx:y.ID=x)(hc:y.af=z.af){M:List Nd}(hM:∀ n∈M,n∈N)(hml:M.length≤1000)(hnd:(M.map (·.ID)).Nodup)(hxm:x ∉ M.map (·.ID))(ho:o=true):∀ (r p:List Nd) (f:Nat),M=p++r→r.length<f→eY x d w o y (M.map (·.ID)) f (p.length:Int) R K (N.map (sel (tkN x) (p.map (·.ID)))) E=some ⟨R,K,(N.map (sel (tkN x) (M.map (·.ID)))).map (sel (atN d w) [x]),E⟩
 | [],p,f+1,h,_=>by
   rw [Ax] at h;subst h;have hso:(N.map (sel (tkN x) (M.map (·.ID)))).Pairwise (fun a b=>a.ID<b.ID):=by
    rw [Bi];exact hs.imp (fun hab=>by rw [aEr (h:=tkN x) (fun _=>rfl),aEr (h:=tkN x) (fun _=>rfl)]; exact hab)
   have hzs:sel (tkN x) (M.map (·.ID)) z=z:=by unfold sel; rw [Al (by rw [hzx]; exact hxm)]
   have hend:=aGt (R:=R) (K:=K) (E:=E) (d:=d) (w:=w) hso (by rw [An]; exact hl) (Ak.2 ⟨z,hz,hzs⟩) hzx hyx hc;rw [eY];have:decide ((M.length:Int)<((M.map (·.ID)).length:Int))=false:=by rw [An]; exact pQ
   simp only [bndD,this,Bu,bJ,hend,bnoS]
 | n::r,p,f+1,h,hf=>by
   have hrec:=aJa hs hl (d:=d) (w:=w) hz hzx hyx hc hM hml hnd hxm ho r (p++[n]) f (eO h) (by simpa using hf);have hnM:n∈M:=by rw [h]; simp
   have hn:=hM n hnM;have hmp:=aFH h;have hlen:(p.map (·.ID)).length=p.length:=An ..
   have hnp:n.ID ∉ p.map (·.ID):=fun hh=>by
    rw [hmp] at hnd;exact (Cu.1 hnd).2.2 n.ID hh n.ID (by simp) rfl
   obtain ⟨A,C,hA,hpl2,hwith⟩:=yI (h:=tkN x) (fun _=>rfl) hs hl (R:=R) (K:=K) (E:=E) hn hnp;have h1:=lJ hmp;have h2:=dL hmp;rw [hlen] at h1 h2;have h3:Af .i64 ((p.length:Int)+1)=((p++[n]).length:Int):=w_at h (by omega);have hwi:=hwith ⟨n.ID,x,n.ae,n.af⟩ rfl rfl;rw [Bq,show [n].map (·.ID)=[n.ID] from rfl] at hrec;rw [eY];simp only [bndD,h1,ho,Dm,bO,h2,bnoS,hpl2,dL hA,hwi,h3];rw [ho] at hrec;exact hrec
theorem aJb(hs:N.Pairwise (fun a b=>a.ID<b.ID))(hl:N.length≤1000){x d w:Int}{o:Bool}{y z:Nd}(hz:z∈N)(hzx:z.ID=x)(hyx:y.ID=x)(hc:y.af=z.af):jH x d w o y R K N E=some ⟨R,K,N.map (pO x d w o),E⟩:=by
 have hkl:(zB N d).length≤1000:=by
  unfold zB;rw [An];have:=Bs (fun n:Nd=>decide (n.aa=d)) N;omega
 have hks:(zB N d).filter (fun e=>!decide (e=x))=((N.filter fun n=>decide (n.aa=d)).filter fun n=>!decide (n.ID=x)).map (·.ID):=by
  unfold zB;rw [List.filter_map]; rfl
 have hpt:∀ (g:Nd→Nd),(∀ n∈N,g n=pO x d w o n)→N.map g=N.map (pO x d w o):=fun g hg=>AF hg
 unfold jH;rw [aJk (t:=⟨R,K,N,E⟩) hl,bnoS]
 show bno (lA (zB N d) x) _=_
 rw [wo19 hkl,bnoS,hks];have hM:∀ n∈(N.filter fun n=>decide (n.aa=d)).filter (fun n=>!decide (n.ID=x)),n∈N∧n.aa=d∧n.ID≠x:=fun n hn=>by
  obtain ⟨h1,h2⟩:=AN.1 hn;obtain ⟨h3,h4⟩:=AN.1 h1;exact ⟨h3,of_decide_eq_true h4,by simpa using h2⟩
 have hin:∀ n∈N,n.ID∈((N.filter fun n=>decide (n.aa=d)).filter fun n=>!decide (n.ID=x)).map (·.ID)↔n.aa=d∧n.ID≠x:=fun n hn=>by
  constructor
  · intro hh;obtain ⟨m,hm,e⟩:=Ak.1 hh;obtain ⟨a,b,c⟩:=hM m hm;have:m=n:=sT hs a hn e;rw [←this]; exact ⟨b,c⟩
  · intro ⟨a,b⟩;exact Ak.2 ⟨n,AN.2 ⟨AN.2 ⟨hn,Ae a⟩,by simp [b]⟩,rfl⟩
 have hnd:(((N.filter fun n=>decide (n.aa=d)).filter fun n=>!decide (n.ID=x)).map (·.ID)).Nodup:=zH (List.Pairwise.sublist DA (List.Pairwise.sublist DA hs));have hml:((N.filter fun n=>decide (n.aa=d)).filter fun n=>!decide (n.ID=x)).length≤1000:=by
  have h1:=Bs (fun n:Nd=>!decide (n.ID=x)) (N.filter fun n=>decide (n.aa=d));have h2:=Bs (fun n:Nd=>decide (n.aa=d)) N;omega
 have hxm:x ∉ ((N.filter fun n=>decide (n.aa=d)).filter fun n=>!decide (n.ID=x)).map (·.ID):=fun hh=>by
  obtain ⟨m,hm,e⟩:=Ak.1 hh;exact (hM m hm).2.2 e
 generalize hMM:(N.filter fun n=>decide (n.aa=d)).filter (fun n=>!decide (n.ID=x))=M at *;cases ho:o
 · obtain ⟨j,hj⟩:∃ j,fuel=j+1:=⟨2 ^ 64-1,by show 2 ^ 64=_; omega⟩;rw [hj,eY];simp only [bndD,Ct,bJ,aGt (R:=R) (K:=K) (E:=E) (d:=d) (w:=w) hs hl hz hzx hyx hc,bnoS];rw [←ho,hpt _ (fun n hn=>?_)];unfold sel pO atN;rw [ho]
   by_cases e:n.ID=x <;> simp [e]
 · have hL2:=aJa (R:=R) (K:=K) (E:=E) (d:=d) (w:=w) hs hl hz hzx hyx hc (fun n hn=>(hM n hn).1) hml hnd hxm ho M [] fuel rfl (dK (by omega));rw [show List.map (fun x:Nd=>x.ID) []=[] from rfl,aBA,ho] at hL2;refine hL2.trans ?_;rw [BM,←ho,hpt _ (fun n hn=>?_)];have hi:=hin n hn
   show sel (atN d w) [x] (sel (tkN x) (M.map (·.ID)) n)=_
   by_cases e:n.ID=x
   · have h1:sel (tkN x) (M.map (·.ID)) n=n:=by unfold sel; rw [Al (fun hh=>(hi.1 hh).2 e)]
     rw [h1];unfold sel pO;rw [Ao (by simp [e]),Ao e]; rfl
   · by_cases e2:n.aa=d
     · have h1:sel (tkN x) (M.map (·.ID)) n=tkN x n:=by unfold sel; rw [Ao (hi.2 ⟨e2,e⟩)]
       rw [h1];unfold sel pO;rw [Al (by show n.ID ∉ [x]; simp [e]),Al e,Ao ⟨ho,e2⟩]; rfl
     · have h1:sel (tkN x) (M.map (·.ID)) n=n:=by unfold sel; rw [Al (fun hh=>e2 (hi.1 hh).1)]
       rw [h1];unfold sel pO;rw [Al (by simp [e]),Al e,Al (fun hh=>e2 hh.2)]
theorem aGu(hs:N.Pairwise (fun a b=>a.ID<b.ID))(hl:N.length≤1000)(h0:∀ n∈N,n.ID≠0){x d w:Int}{o:Bool}{A C:List Nd}{y:Nd}(hN:N=A++y::C)(hyx:y.ID=x):jI ⟨R,K,N,E⟩ x d w o=some ⟨R,K,aHb N x d w o (decide (x∈fL N (N.length+1) d)) y.aa,E⟩:=by
 have hs2:=hs;rw [hN] at hs2;obtain ⟨hA,hC⟩:=aBx hs2;have hy:y∈N:=by rw [hN]; simp
 have hpl:=aAp N (N.length+1) d;unfold jI;rw [aDa (t:=⟨R,K,N,E⟩) hl hN hyx (fun a ha=>by rw [←hyx]; exact hA a ha),bnoS]
 show bno (gix N (A.length:Int)) _=_
 rw [dL hN,bnoS,rpath (t:=⟨R,K,N,E⟩) hl h0,bnoS]
 show bno (nU (fL N (N.length+1) d) x) _=_
 rw [in19 (by omega),bnoS]
 by_cases hb:x∈fL N (N.length+1) d
 · rw [Ae hb,bO];have hk:∃ k∈N,k.ID=d:=by
    cases hp:tD N d with
    | none=>unfold fL at hb; rw [hp] at hb; exact Ay hb Bc
    | some p=>obtain ⟨n,hn,e,_⟩:=aCq hp; exact ⟨n,hn,e⟩
   obtain ⟨k,hkm,rfl⟩:=hk;obtain ⟨B,D,hB,hplk,hwi⟩:=yI (h:=tkN y.aa) (fun _=>rfl) hs hl (R:=R) (K:=K) (E:=E) hkm (pre:=[]) Bc;rw [aBA] at hB hplk hwi;rw [hplk,bnoS]
   show bno (gix N (B.length:Int)) _=_
   rw [dL hB,bnoS,hwi ⟨k.ID,y.aa,k.ae,k.af⟩ rfl rfl,bnoS,Bp];have hmv:N.map (sel (tkN y.aa) [k.ID])=N.map (mvN k.ID y.aa):=AF (fun n _=>by
    unfold sel mvN tkN;simp only [BE])
   rw [hmv];exact aJb (mv_so hs _ _) (by rw [An]; exact hl) (z:=mvN k.ID y.aa y) (Ak.2 ⟨y,hy,rfl⟩) ((oK _ _ _).trans hyx) hyx (by unfold mvN; split <;> rfl)
 · rw [Ad hb,bJ];exact aJb hs hl hy hyx hyx rfl
theorem put19(hs:N.Pairwise (fun a b=>a.ID<b.ID))(hl:N.length≤1000)(h0:∀ n∈N,n.ID≠0){x dep wt:Int}{only:Bool}{A C:List Nd}{y:Nd}(hN:N=A++y::C)(hyx:y.ID=x){d w:Int}{o:Bool}(hd:(dep=0∨∃ n∈N,n.ID=dep)∧d=dep∧w=wt∧o=only∨(dep≠0∧∀ n∈N,n.ID≠dep)∧d=0∧w=16∧o=false):eW ⟨R,K,N,E⟩ x dep wt only=some ⟨R,K,aHb N x d w o (decide (x∈fL N (N.length+1) d)) y.aa,E⟩:=by
 obtain ⟨i,hi,hp⟩:=aBK (t:=⟨R,K,N,E⟩) hl dep;have hp:Pl N dep i:=hp;have hneg:i<0↔∀ n∈N,n.ID≠dep:=by
  cases hp with
  | yes B k D hB e _=>exact ⟨fun h=>by omega,fun h=>Ay e (h k (by rw [hB]; simp))⟩
  | no hno=>exact ⟨fun _=>hno,fun _=>by decide⟩
 unfold eW
 rcases hd with ⟨hd1,rfl,rfl,rfl⟩ | ⟨hd1,rfl,rfl,rfl⟩
 · by_cases hz:d=0
   · simp only [bndD,Ae hz,AD,ft,gdff,bnoS,Bu,bJ];exact aGu hs hl h0 hN hyx
   · obtain ⟨n,hn,e⟩:=hd1.resolve_left hz;have hi2:¬ i<0:=fun hh=>hneg.1 hh n hn e
     simp only [bndD,Ad hz,AL,AQ,gdtt,hi,bnoS,Ad hi2,Ct,bJ];exact aGu hs hl h0 hN hyx
 · simp only [bndD,Ad hd1.1,AL,AQ,gdtt,hi,bnoS,Ae (hneg.2 hd1.2),Dm,bO];exact aGu hs hl h0 hN hyx
end
end Go.Fn
open Go Go.IL
namespace Go.Fn
section
variable {N:List Nd} {R K:Int} {E:List Int}
theorem aEO{x:Int}(h:∀ n∈N,n.ID≠x→n.aa≠x):∀ (k:Nat) (z:Int),z≠x→x ∉ fL N k z
 | 0,_,_,hh=>Bc hh
 | k + 1,z,hz,hh=>by
   unfold fL at hh;cases hp:tD N z with
   | none=>rw [hp] at hh; exact Bc hh
   | some p =>
     rw [hp] at hh;obtain ⟨n,hn,e1,e2⟩:=aCq hp;have hpx:p≠x:=by rw [←e2]; exact h n hn (by rw [e1]; exact hz)
     by_cases h0:p=0
     · simp only [h0,if_true] at hh; exact Bc hh
     · simp only [Al h0] at hh
       rcases Au.1 hh with e | hh
       · exact hpx e.symm
       · exact aEO h k p hpx hh
theorem path_0(h0:∀ n∈N,n.ID≠0):∀ k,fL N k 0=[]
 | 0=>rfl
 | k+1=>by unfold fL; rw [aFA h0]
theorem aJW{x dep w:Int}{o:Bool}{A C:List Nd}(hN:N=A++C)(hl:N.length≤1000)(hA:∀ a∈A,a.ID<x)(hC:∀ c∈C,x<c.ID):∀ (r p:List Nd) (f:Nat),A=p++r→r.length<f→eV x dep w o R K N E f (p.length:Int)=bno (eW ⟨R,K,A++[(⟨x,-1,16,false⟩:Nd)]++C,E⟩ x dep w o) fun x43=>some (x43,0)
 | [],p,f+1,h,_=>by
   rw [Ax] at h;subst h;have hal:A.length≤1000:=by rw [hN] at hl; simp at hl; omega
   have hcl:C.length≤1000:=by rw [hN] at hl; simp at hl; omega
   have hgo:(bno (cut N 0 (A.length:Int)) fun x38 =>
    bno (app 32 ([]:(List aW)) x38) fun x39 =>
    bno (app 32 x39 (([(⟨x,(-1),16,false⟩:aW)]:(List aW)))) fun x40 =>
    bno (cut N (A.length:Int) (N.length:Int)) fun x41 =>
    bno (app 32 x40 x41) fun x42 =>
    bno (eW (⟨R,K,x42,E⟩:aM) x dep w o) fun x43 =>
    some (x43,(0:Int)))=bno (eW ⟨R,K,A++[(⟨x,-1,16,false⟩:Nd)]++C,E⟩ x dep w o) fun x43=>some (x43,0):=by
    rw [aFb hN,bnoS,kI (by simp; omega) (by simp; omega),bnoS,Bp,kI (by simp; omega) (by simp; omega),bnoS,aFa hN,bnoS,kI (by simp; omega) (by simp; omega),bnoS]
   rw [eV];cases C with
   | nil =>
     have hlt:decide ((A.length:Int)<(N.length:Int))=false:=by rw [hN,Ax]; exact pQ
     simp only [bndD,hlt,ft,gdff,bnoS,Bu,bJ];exact hgo
   | cons c C =>
     have hc:=hC c (by simp);simp only [bndD,lJ hN,AQ,gdtt,dL hN,bnoS,Ad (show ¬c.ID<x by omega),Ct,bJ];exact hgo
 | n::r,p,f+1,h,hf=>by
   have hrec:=aJW (dep:=dep) (w:=w) (o:=o) hN hl hA hC r (p++[n]) f (eO h) (by simpa using hf);have hN2:N=p++n::(r++C):=by rw [hN,h]; simp
   have hn:=hA n (by rw [h]; simp);rw [eV];simp only [bndD,lJ hN2,AQ,gdtt,dL hN2,bnoS,Ae hn,Dm,bO,w_at hN2 (show N.length≤1000000 by omega)];exact hrec
end
def aJF(id dep w:Int):Int:=if decide (id<1)||decide (1048576<id)||decide (dep<0)||decide (1048576<dep)||decide (w<1)||decide (256<w) then 8 else if id=dep then 4 else 0
theorem aDI(id dep w:Int):mJ id dep w=some (aJF id dep w):=by
 unfold mJ aJF;simp only [bndD];cases (decide (id<1)||decide (1048576<id)||decide (dep<0)||decide (1048576<dep)||decide (w<1)||decide (256<w))
 · rw [bJ]
   by_cases h:id=dep
   · rw [Ae h]; simp [h]
   · rw [Ad h]; simp [h]
 · rfl
section
variable {st:Fs}
theorem GV.ok(h:GV st):Ok34 st.ai:=h.fv.ok
end
end Go.Fn
open Go Go.IL
namespace Go.Fn
section
variable {st:Fs}
end
end Go.Fn
open Go Go.IL
namespace Go.Fn
def gv(v:List Int)(i:Int):Int:=v.getD i.toNat 0
structure Sw (v:List Int) (i j:Int) (w:List Int):Prop where
 len:w.length=v.length
 at_i:gv w i=gv v j
 at_j:gv w j=gv v i
 at_o:∀ k,0≤k→k≠i→k≠j→gv w k=gv v k
 pm:w.Perm v
section
variable {α:Type} {Q:α→Prop} {l:List Int}
end
structure Pr (a b:Int) (v w:List Int):Prop where
 pm:w.Perm v
 out:∀ k,0≤k→k<a∨b≤k→gv w k=gv v k
 inn:∀ k,a≤k→k<b→∃ j,a≤j∧j<b∧gv w k=gv v j
def Sd(a b:Int)(v:List Int):Prop:=∀ p q,a≤p→p<q→q<b→gv v p≤gv v q
section
variable {a b:Int} {u v w:List Int}
theorem Pr.len(h:Pr a b v w):w.length=v.length:=h.pm.length_eq
end
section
variable {n:Nat}
end
end Go.Fn
open Go Go.IL
namespace Go.Fn
structure PaQ (a b:Int) (v0:List Int) (r:Int×Bool×List Int):Prop where
 lo:a≤r.1
 hi:r.1<b
 pr:Pr a b v0 r.2.2
 le:∀ k,a≤k→k<r.1→gv r.2.2 k≤gv r.2.2 r.1
 ge:∀ k,r.1<k→k<b→gv r.2.2 r.1≤gv r.2.2 k
section
variable {n:Nat} {a b:Int} {v0:List Int}
end
end Go.Fn
open Go Go.IL
namespace Go.Fn
section
variable {n:Nat}
end
end Go.Fn
open Go Go.IL
namespace Go.Fn
section
variable {n:Nat}
end
def Bd(a b:Int)(v:List Int):Prop:=∀ q,0<a→a≤q→q<b→gv v (a-1)≤gv v q
structure SS (n:Nat) (a b:Int) (v:List Int):Prop where
 len:v.length=n
 nd:v.Nodup
 bd:Bd a b v
def Qs(a b:Int)(v w:List Int):Prop:=Pr a b v w∧Sd a b w
section
variable {n:Nat} {rec0:Int→Int→Int→List Int→Ag (List Int)} {kk:List Int→Int→Int→Int→Bool→Bool→Ag (List Int)} {a b lim:Int} {c d:Bool}
end
section
variable {n:Nat} {rec0:Int→Int→Int→List Int→Ag (List Int)}
end
end Go.Fn
open Go Go.IL
namespace Go.Fn
end Go.Fn
open Go Go.IL
namespace Go.Fn
section
variable {st:Fs}
end
end Go.Fn
