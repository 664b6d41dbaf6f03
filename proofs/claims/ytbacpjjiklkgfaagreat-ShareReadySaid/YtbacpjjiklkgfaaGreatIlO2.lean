/-
  A part of the proof: rules and plain facts. No condition.
-/
import Derived.Test.YtbacpjjiklkgfaaGreatIlA20D
import Derived.KernelRfl
import Derived.Test.YtbacpjjiklkgfaaGreatIlAr
import Derived.ProofKit
import Derived.OpenShut
set_option linter.all false
open Bool renaming and_eq_true → Az
open Int renaming mul_le_mul → Fc
open Go Go.IL
namespace Go.Fn
theorem aCP:lM=some true:=by kernel_rfl
def inB (a b c:Int):Bool:=decide (b≤a)&&decide (a≤c)
theorem sV (a b c:Int):lQ a b c=some (inB a b c):=rfl
theorem vD {a b c:Int}:inB a b c=true↔b≤a∧a≤c:=by unfold inB; rw [Az,decide_eq_true_eq,decide_eq_true_eq]
theorem aG3 {x w k m:Int} (h0:0≤x) (h1:x≤k) (h2:0≤w) (h3:w≤m) (hk:0≤k):0≤x*w∧x*w≤k*m :=
 ⟨Int.mul_nonneg h0 h2,Fc h1 h3 h2 hk⟩
end Go.Fn
open Bool renaming eq_false_or_eq_true → Ex,false_and → CS,not_false → AT,not_true → AN,true_and → CF
open Go.IntKind renaming wrap → Al
open Int renaming toNat_natCast → Au
open List renaming any_eq_false → CH,any_eq_true → Bz,append_assoc → AH,append_nil → AW,drop_eq_getElem_cons → Dq,filter_append → CB,filter_cons_of_neg → Bs,filter_cons_of_pos → BP,filter_eq_nil_iff → Dc,filter_eq_self → Ci,getElem?_append_right → Bu,getElem?_eq_getElem → AL,getElem?_eq_none → Cd,getElem?_eq_some_iff → Ag,getElem_drop → Ey,getElem_mem → EH,length_append → AX,length_cons → AZ,length_drop → BQ,length_nil → Cf,length_take → Bk,mem_append → AM,mem_iff_getElem → Dp,mem_of_getElem? → Dl,mem_singleton → Bx,not_mem_nil → Bw,pairwise_iff_getElem → CQ,set_append_right → Dg,take_append_drop → AY
open Nat renaming add_zero → Cw,eq_zero_or_pos → Fx,le_refl → AO,lt_or_ge → Cg,sub_self → FH,zero_le → CO
open Option renaming map_eq_some_iff → Cs,map_none → Eg,map_some → DH
open _root_ renaming Option → Af,beq_self_eq_true → BH,decide_eq_false → Ah,decide_eq_true → Ai,if_pos → Ay
open Go Go.IL
namespace Go.Fn
theorem kM {α:Type} {l p r:List α} {x:α} (h:l=p++x::r):gix l (p.length:Int)=some x:=by
 subst h; rw [eA,Bu (AO _)]; simp
theorem pG {α:Type} {l p r:List α} {x:α} (h:l=p++x::r):decide ((p.length:Int)<(l.length:Int))=true:=by
 subst h; simp; omega
theorem rU {α:Type} {l p:List α} (h:l=p++[]):decide ((p.length:Int)<(l.length:Int))=false:=by
 subst h; simp
theorem rT {α:Type} {l:List α}:decide ((l.length:Int)<(l.length:Int))=false:=by simp
theorem w_at {α:Type} {l p r:List α} {x:α} (h:l=p++x::r) (hl:l.length≤1000000):Al .i64 ((p.length:Int)+1)=((p++[x]).length:Int):=by
 subst h; simp only [AX,AZ,Cf] at hl ⊢; rw [w64 (by omega) (by omega)]; omega
theorem kV {α:Type} {l p r:List α} {x:α} (h:l=p++x::r):l=(p++[x])++r:=by rw [h]; simp
theorem ft:(false == true)=false:=rfl
theorem aC4 {α:Type} {l p r:List α} {x y:α} (h:l=(p++[x])++y::r) (hl:l.length≤1000000):gix l (Al .i64 (((p++[x]).length:Int)-1))=some x:=by
 have hp:p.length≤1000000:=by rw [h] at hl; simp at hl; omega
 rw [show ((p++[x]).length:Int)-1=(p.length:Int) by simp,w64 (by omega) (by omega)]
 exact kM (r:=y::r) (by rw [h]; simp)
theorem aHA {α:Type} {l p r:List α} (h:l=p++r):cut l 0 (p.length:Int)=some p:=by
 subst h; unfold cut; rw [Ay (by simp; omega)]; simp
theorem wP {α:Type} {L:Nat→Int→Af Int} {l:List α} {q:α→Bool}
 (h1:∀ p x r f,l=p++x::r→L (f+1) (p.length:Int)=bif q x then some (p.length:Int) else L f ((p++[x]).length:Int)) (h0:∀ f,L (f+1) (l.length:Int)=some (-1)) :
 ∀ (r p:List α) (f:Nat),l=p++r→r.length<f→(∀ y∈p,q y=false) →
   (L f (p.length:Int)=some (-1)∧∀ y∈l,q y=false)∨∃ a x t,l=a++x::t∧(∀ y∈a,q y=false)∧q x=true∧L f (p.length:Int)=some (a.length:Int)
 | [],p,f+1,h,_,ha=>by
   left
   rw [AW] at h
   subst h
   exact ⟨h0 f,ha⟩
 | y :: r,p,f+1,h,hf,ha=>by
   rw [h1 p y r f h]
   rcases Ex (q y) with hb | hb
   · right; exact ⟨p,y,r,h,ha,hb,by rw [hb]; rfl⟩
   · rw [hb,bT]
     exact wP h1 h0 r (p++[y]) f (kV h) (by simpa using hf) (fun z hz=>by
      rcases AM.1 hz with hz | hz
      · exact ha z hz
      · rw [Bx.1 hz]; exact hb)
theorem aC1 {α:Type} {L:Nat→Int→Af Int} {l:List α} {q:α→Bool} (hl:l.length≤1000000)
 (h1:∀ p x r f,l=p++x::r→L (f+1) (p.length:Int)=bif q x then some (p.length:Int) else L f ((p++[x]).length:Int)) (h0:∀ f,L (f+1) (l.length:Int)=some (-1)) :
 ∃ k:Int,L fuel 0=some k∧decide (0≤k)=l.any q:=by
 rcases wP h1 h0 l [] fuel rfl (eZ (by omega)) (fun _ h=>(Bw h).elim) with ⟨h2,h3⟩ | ⟨a,x,t,h2,h3,h4,h5⟩
 · refine ⟨-1,h2,?_⟩
   symm
   have:l.any q=false:=by rw [CH]; intro y hy; rw [h3 y hy]; decide
   rw [this]; rfl
 · refine ⟨a.length,h5,?_⟩
   have:l.any q=true:=Bz.2 ⟨x,by rw [h2]; simp,h4⟩
   rw [this]; exact Ai (by omega)
theorem aAw {α:Type} {L:Nat→List α→Int→Int→Af (List α)} {q:α→Bool}
 (h1:∀ (f:Nat) (l:List α) (i j:Nat) (x:α),l.length≤100000→i≤j→j<l.length→l[j]? = some x→L (f+1) l (i:Int) (j:Int)=bif !q x then L f (l.set i x) ((i+1:Nat):Int) ((j+1:Nat):Int) else L f l (i:Int) ((j+1:Nat):Int))
 (h0:∀ (f:Nat) (l:List α) (i:Nat),i≤l.length→L (f+1) l (i:Int) (l.length:Int)=some (l.take i)) :
 ∀ (r k m:List α) (f:Nat),k.length+m.length+r.length≤100000→r.length<f →
   L f (k++m++r) (k.length:Int) ((k.length+m.length:Nat):Int)=some (k++r.filter fun y=>!q y)
 | [],k,m,f+1,hl,_=>by
   have:=h0 f (k++m) k.length (by simp)
   rw [AW,show ((k.length+m.length:Nat):Int)=((k++m).length:Int) by simp,this]; simp
 | y :: r,k,m,f+1,hl,hf=>by
   simp only [AZ] at hl hf
   have hy:(k++m++y::r)[k.length+m.length]? = some y:=by
    rw [Bu (by simp)]; simp
   have hlen:(k++m++y::r).length=k.length+m.length+(r.length+1):=by simp; omega
   rw [h1 f (k++m++y::r) k.length (k.length+m.length) y (by omega) (by omega) (by omega) hy]
   rcases Ex (q y) with hb | hb
   · rw [hb,AN,bT,Bs (by simp [hb])]
     have:=aAw h1 h0 r k (m++[y]) f (by simp; omega) (by omega)
     rw [show k++m++y::r=k++(m++[y])++r by simp,←this]; congr 1; simp; omega
   · rw [hb,AT,cK,BP (by simp [hb])]
     obtain ⟨m2,h3,h2⟩:∃ m2:List α,m2.length=m.length∧(k++m++y::r).set k.length y=k++[y]++m2++r:=by
      rw [AH k m,Dg _ _ (AO _),FH]
      cases m with
      | nil=>exact ⟨[],rfl,by simp⟩
      | cons a m=>exact ⟨m++[y],by simp,by simp⟩
     rw [h2]
     have:=aAw h1 h0 r (k++[y]) m2 f (by simp; omega) (by omega)
     rw [show k++y::List.filter (fun y=>!q y) r=k++[y]++List.filter (fun y=>!q y) r by simp,←this]
     congr 1 <;> simp <;> omega
theorem aGd {α:Type} {I:Nat→Int→Af Int} {L:Nat→List α→Int→Int→Af (List α)} {l:List α} {q:α→Bool} (hl:l.length≤100000)
 (i1:∀ p x r f,l=p++x::r→I (f+1) (p.length:Int)=bif q x then some (p.length:Int) else I f ((p++[x]).length:Int)) (i0:∀ f,I (f+1) (l.length:Int)=some (-1))
 (h1:∀ (f:Nat) (l:List α) (i j:Nat) (x:α),l.length≤100000→i≤j→j<l.length→l[j]? = some x→L (f+1) l (i:Int) (j:Int)=bif !q x then L f (l.set i x) ((i+1:Nat):Int) ((j+1:Nat):Int) else L f l (i:Int) ((j+1:Nat):Int))
 (h0:∀ (f:Nat) (l:List α) (i:Nat),i≤l.length→L (f+1) l (i:Int) (l.length:Int)=some (l.take i)) :
 (bno (I fuel 0) fun x1=>bnd (decide (x1=(-1))) fun x2=>bif x2 then some l else bnd (Al .i64 (x1+1)) fun x4=>L fuel l x1 x4)=some (l.filter fun y=>!q y):=by
 rcases wP i1 i0 l [] fuel rfl (eZ (by omega)) (fun _ h=>(Bw h).elim) with ⟨e1,e2⟩ | ⟨a,x,t,e1,e2,e3,e4⟩
 · have e1:I fuel 0=some (-1):=e1
   rw [e1,bnoS]
   simp only [bndD,decide_true,cK]
   rw [Ci.2 (fun y hy=>by rw [e2 y hy]; rfl)]
 · have e4:I fuel 0=some (a.length:Int):=e4
   have hql:a.length+(t.length+1)≤100000:=by rw [e1] at hl; simpa using hl
   rw [e4,bnoS]
   simp only [bndD,Ah (show ¬(a.length:Int) = -1 by omega),bT]
   rw [w64 (by omega) (by omega)]
   have:=aAw h1 h0 t a [x] fuel (by simp; omega) (eZ (by omega))
   rw [e1,CB,Bs (by simp [e3]),Ci.2 (fun y hy=>by rw [e2 y hy]; rfl),←this]
   congr 1; simp
theorem aBe {α:Type} [DecidableEq α] {L:Nat→Int→Af Bool} {l m:List α} (hm:l.length=m.length)
 (h1:∀ p x r s y t f,l=p++x::r→m=s++y::t→p.length=s.length→L (f+1) (p.length:Int)=bif !decide (x=y) then some false else L f ((p++[x]).length:Int)) {z:Bool} (h0:∀ f,L (f+1) (l.length:Int)=some z) :
 ∀ (r t p s:List α) (f:Nat),l=p++r→m=s++t→p.length=s.length→r.length<f→L f (p.length:Int)=some (decide (r=t)&&z)
 | [],[],p,s,f+1,h,k,e,_=>by
   rw [AW] at h
   subst h
   rw [h0]; simp
 | [],y::t,p,s,f+1,h,k,e,_=>by rw [h,k] at hm; simp at hm; omega
 | x::r,[],p,s,f+1,h,k,e,_=>by rw [h,k] at hm; simp at hm; omega
 | x :: r,y::t,p,s,f+1,h,k,e,hf=>by
   rw [h1 p x r s y t f h k e]
   by_cases hx:x=y
   · subst hx
     rw [Ai rfl,AN,bT]
     have:=aBe hm h1 h0 r t (p++[x]) (s++[x]) f (kV h) (kV k) (by simp [e]) (by simpa using hf)
     rw [this]; simp
   · rw [Ah hx,AT,cK]; simp [hx]
theorem aFT {α:Type} [DecidableEq α] {L:Nat→Int→Af Bool} {l m:List α} (hl:l.length≤1000000)
 (h1:∀ p x r s y t f,l=p++x::r→m=s++y::t→p.length=s.length→L (f+1) (p.length:Int)=bif !decide (x=y) then some false else L f ((p++[x]).length:Int)) {z:Bool} (h0:l.length=m.length→∀ f,L (f+1) (l.length:Int)=some z) :
 (bnd (!decide ((l.length:Int)=(m.length:Int))) fun x1=>bif x1 then some false else L fuel 0)=some (decide (l=m)&&z):=by
 by_cases hm:l.length=m.length
 · simp only [bndD,Ai (show (l.length:Int)=(m.length:Int) by omega),AN,bT]
   exact aBe hm h1 (h0 hm) l m [] [] fuel rfl rfl rfl (eZ (by omega))
 · simp only [bndD,Ah (show ¬(l.length:Int)=(m.length:Int) by omega),AT,cK]
   rw [Ah (fun h=>hm (by rw [h]))]; rfl
theorem bsf_gen {α:Type} {L:Nat→Int→Int→Af (Int×Bool)} {l:List α} {key:α→Int} {x:Int} (hl:l.length≤1000000)
 (h1:∀ (f lo hi m:Nat) (y:α),lo<hi→hi≤l.length→m=(lo+hi) / 2→l[m]? = some y→L (f+1) (lo:Int) (hi:Int)=bif decide (key y<x) then L f ((m+1:Nat):Int) (hi:Int) else L f (lo:Int) (m:Int))
 (h0:∀ (f lo:Nat),lo≤l.length→L (f+1) (lo:Int) (lo:Int)=some ((lo:Int),decide ((l[lo]?).map key=some x))) :
 ∀ (f lo hi:Nat),hi-lo<f→lo≤hi→hi≤l.length→∃ p:Nat,p≤l.length∧L f lo hi=some ((p:Int),decide ((l[p]?).map key=some x)) ∧
 (l.Pairwise (fun a b=>key a<key b)→(∀ y∈l.take lo,key y<x)→(∀ y∈l.drop hi,x≤key y)→(∀ y∈l.take p,key y<x)∧(∀ y∈l.drop p,x≤key y)):=by
 intro f
 induction f with
 | zero=>intro lo hi h; omega
 | succ f ih =>
   intro lo hi hf h2 h3
   by_cases hc:lo<hi
   · have hm:(lo+hi) / 2<l.length:=by omega
     rw [h1 f lo hi _ l[(lo+hi) / 2] hc h3 rfl (AL hm)]
     generalize hmm:(lo+hi) / 2=m at hm ⊢
     have hml:lo≤m:=by omega
     have hmh:m<hi:=by omega
     by_cases hx:key l[m]<x
     · rw [Ai hx,cK]
       obtain ⟨p,i1,i2,i3⟩:=ih (m+1) hi (by omega) (by omega) h3
       refine ⟨p,i1,i2,fun hp ha hb=>i3 hp (fun y hy=>?_) hb⟩
       obtain ⟨j,hj,rfl⟩:=Dp.1 hy
       rw [Bk] at hj
       rw [List.getElem_take]
       rcases Cg j m with hjm | hjm
       · exact Int.lt_trans (CQ.1 hp j m (by omega) (by omega) hjm) hx
       · have:j=m:=by omega
         subst this; exact hx
     · rw [Ah hx,bT]
       obtain ⟨p,i1,i2,i3⟩:=ih lo m (by omega) (by omega) (by omega)
       refine ⟨p,i1,i2,fun hp ha hb=>i3 hp ha (fun y hy=>?_)⟩
       obtain ⟨j,hj,rfl⟩:=Dp.1 hy
       rw [BQ] at hj
       rw [Ey]
       rcases Fx j with rfl | hj0
       · simp only [Cw]; omega
       · have:=CQ.1 hp m (m+j) (by omega) (by omega) (by omega)
         omega
   · have:lo=hi:=by omega
     subst this
     exact ⟨lo,h3,h0 f lo h3,fun _ ha hb=>⟨ha,hb⟩⟩
theorem aEF {α:Type} {l a b:List α} {key:α→Int} {x:Int} (h:l=a++b) (ha:∀ y∈a,key y<x) (hb:∀ y∈b,x≤key y):a=l.filter (fun y=>decide (key y<x))∧b=l.filter (fun y=>decide (x≤key y)):=by
 subst h
 rw [CB,CB,Ci.2 (fun y hy=>Ai (ha y hy)),Dc.2 (fun y hy=>by have:=hb y hy; simp; omega),Dc.2 (fun y hy=>by have:=ha y hy; simp; omega),Ci.2 (fun y hy=>Ai (hb y hy))]
 simp
theorem bsf_all {α:Type} {L:Nat→Int→Int→Af (Int×Bool)} {l:List α} {key:α→Int} {x:Int} (hl:l.length≤1000000)
 (h1:∀ (f lo hi m:Nat) (y:α),lo<hi→hi≤l.length→m=(lo+hi) / 2→l[m]? = some y→L (f+1) (lo:Int) (hi:Int)=bif decide (key y<x) then L f ((m+1:Nat):Int) (hi:Int) else L f (lo:Int) (m:Int))
 (h0:∀ (f lo:Nat),lo≤l.length→L (f+1) (lo:Int) (lo:Int)=some ((lo:Int),decide ((l[lo]?).map key=some x))) (hp:l.Pairwise (fun a b=>key a<key b)) :
 ∃ a b:List α,l=a++b∧a=l.filter (fun y=>decide (key y<x))∧b=l.filter (fun y=>decide (x≤key y)) ∧
   ((∃ y c,b=y::c∧key y=x∧L fuel 0 (l.length:Int)=some ((a.length:Int),true))∨((∀ y∈l,key y≠x)∧L fuel 0 (l.length:Int)=some ((a.length:Int),false))):=by
 obtain ⟨p,e1,e2,e3⟩:=bsf_gen hl h1 h0 fuel 0 l.length (eZ (by omega)) (CO _) (AO _)
 obtain ⟨e4,e5⟩:=e3 hp (by simp) (by simp)
 obtain ⟨e6,e7⟩:=aEF (AY p l).symm e4 e5
 have hpl:(l.take p).length=p:=by rw [Bk]; omega
 have e2:L fuel 0 (l.length:Int)=_:=e2
 refine ⟨l.take p,l.drop p,(AY p l).symm,e6,e7,?_⟩
 rw [hpl,e2]
 by_cases hx:(l[p]?).map key=some x
 · left
   obtain ⟨y,hy,hk⟩:=Cs.1 hx
   have hlt:p<l.length:=(Ag.1 hy).1
   have hye:l[p]=y:=(Ag.1 hy).2
   exact ⟨y,l.drop (p+1),by rw [←hye]; exact Dq hlt,hk,by rw [Ai hx]⟩
 · right
   refine ⟨fun y hy hk=>?_,by rw [Ah hx]⟩
   rw [←AY p l] at hy
   rcases AM.1 hy with hy | hy
   · have:=e4 y hy; omega
   · obtain ⟨j,hj,hjx⟩:=Dp.1 hy
     rw [BQ] at hj
     rw [Ey] at hjx
     rcases Fx j with rfl | hj0
     · apply hx; rw [AL (by omega)]; simp only [Cw] at hjx; rw [DH,hjx,hk]
     · have h8:=CQ.1 hp p (p+j) (by omega) (by omega) (by omega)
       have h9:=e5 l[p] (Dp.2 ⟨0,by rw [BQ]; omega,by rw [Ey]; simp⟩)
       rw [hjx,hk] at h8; omega
theorem oV {α:Type} {P:α→Af Bool} {q:α→Bool} (hP:∀ x,P x=some (q x)) {I:Nat→Int→Af Int} {l:List α}
 (hI:∀ f v,I (f+1) v=bnd (decide (v<(l.length:Int))) fun x14=>bif x14 then (bno (gix l v) fun x16=>bno (P x16) fun x17=>bif x17 then some v else (bnd (Al .i64 (v+1)) fun x19=>I f x19)) else some (-1))
 (hl:l.length≤1000000):(bno (I fuel 0) fun x1=>bnd (decide (0≤x1)) fun x2=>some x2)=some (l.any q):=by
 obtain ⟨k,h1,h2⟩:=aC1 (L:=I) (q:=q) hl (fun p x r f h=>by
  rw [hI]; simp only [bndD,pG h,cK,kM h,bnoS,hP,w_at h hl]) (fun f=>by rw [hI]; simp only [bndD,rT,bT])
 rw [h1,bnoS,bndD,h2]
theorem sU {α:Type} {P:α→Af Bool} {q:α→Bool} (hP:∀ x,P x=some (q x)) {I:Nat→Int→Af Int} {L:Nat→List α→Int→Int→Af (List α)} {l:List α}
 (hI:∀ f v,I (f+1) v=bnd (decide (v<(l.length:Int))) fun x14=>bif x14 then (bno (gix l v) fun x16=>bno (P x16) fun x17=>bif x17 then some v else (bnd (Al .i64 (v+1)) fun x19=>I f x19)) else some (-1))
 (hL:∀ f a b c,L (f+1) a b c=bnd (decide (c<(a.length:Int))) fun x32=>bif x32 then (bno (gix a c) fun x34=>bno (a[(c:Int).toNat]?) fun x35=>bno (P x35) fun x36=>bif (!x36) then (bno (gix a b) fun x38=>bno (a[(b:Int).toNat]?) fun x39 =>
   bnd (a.set ((b:Int).toNat) x35) fun x40=>bnd (Al .i64 (b+1)) fun x41=>bnd (Al .i64 (c+1)) fun x42=>L f x40 x41 x42) else (bnd (Al .i64 (c+1)) fun x43=>L f a b x43)) else (bno (cut a 0 b) fun x44=>bno (cut x44 0 b) fun x45=>some x45))
 (hl:l.length≤100000):(bno (I fuel 0) fun x1=>bnd (decide (x1=(-1))) fun x2=>bif x2 then some l else bnd (Al .i64 (x1+1)) fun x4=>L fuel l x1 x4)=some (l.filter fun y=>!q y):=by
 refine aGd hl (fun p x r f h=>by
  rw [hI]; simp only [bndD,pG h,cK,kM h,bnoS,hP,w_at h (show l.length≤1000000 by omega)]) (fun f=>by rw [hI]; simp only [bndD,rT,bT]) (fun f a i j x ha hij hj hx=>?_) (fun f a i hi=>?_)
 · rw [hL]
   have hi:i<a.length:=by omega
   simp only [bndD,Ai (show (j:Int)<(a.length:Int) by omega),cK,eA,hx,bnoS,Au,hP,AL hi,w64 (show -9223372036854775808≤(j:Int)+1 by omega) (by omega),w64 (show -9223372036854775808≤(i:Int)+1 by omega) (by omega)]
   rfl
 · rw [hL]
   have e:(a.take i).length=i:=by rw [Bk]; omega
   simp only [bndD,rT,bT]
   have h1:=aHA (l:=a) (AY i a).symm
   have h2:=aHA (l:=a.take i) (p:=a.take i) (r:=[]) (by simp)
   rw [e] at h1 h2
   rw [h1,bnoS,h2,bnoS]
theorem zF {α:Type} {dflt:α} {C:α→Af Int} {c:α→Int} {key:α→Int} {x:Int} {L:Nat→Int→Int→Af (Int×Bool)} {l:List α} (hC:∀ y∈l,C y=some (c y)) (hc:∀ y∈l,(c y<0↔key y<x)∧(c y=0↔key y=x))
 (hL:∀ f a b,L (f+1) a b=bnd (decide (a<b)) fun x25=>bif x25 then (bnd (Al .i64 (a+b)) fun x27=>bnd (Al .u64 x27) fun x28=>bno (shrI .u64 x28 1) fun x29=>bnd (Al .i64 x29) fun x30=>bno (gix l x30) fun x31=>bno (C x31) fun x32 =>
   bnd (decide (x32<0)) fun x33=>bif x33 then (bnd (Al .i64 (x30+1)) fun x35=>L f x35 b) else (L f a x30)) else (bnd (decide (a<(l.length:Int))) fun x36=>bno (gd (x36 == true) (gix l a) (dflt:α)) fun x37=>bno (gd (x36 == true) (C x37) (default:Int)) fun x38 =>
   bnd (decide (x38=0)) fun x39=>bnd (x36&&x39) fun x40=>some (a,x40)))
 (hl:l.length≤1000000) (hp:l.Pairwise (fun a b=>key a<key b)) :
 ∃ a b:List α,l=a++b∧a=l.filter (fun y=>decide (key y<x))∧b=l.filter (fun y=>decide (x≤key y)) ∧
   ((∃ y c,b=y::c∧key y=x∧L fuel 0 (l.length:Int)=some ((a.length:Int),true))∨((∀ y∈l,key y≠x)∧L fuel 0 (l.length:Int)=some ((a.length:Int),false))):=by
 refine bsf_all hl (fun f lo hi m y h1 h2 h3 h4=>?_) (fun f lo h1=>?_) hp
 · rw [hL]
   have hy:y∈l:=Dl h4
   have e1:shrI .u64 ((lo:Int)+(hi:Int)) 1=some ((m:Nat):Int):=by
    rw [shr_at (k:=.u64) (b:=1) 1 rfl (by decide),h3]; congr 1
   simp only [bndD,Ai (show (lo:Int)<(hi:Int) by omega),cK,w64 (show -9223372036854775808≤(lo:Int)+(hi:Int) by omega) (by omega),wU64 (show 0≤(lo:Int)+(hi:Int) by omega) (by omega),e1,bnoS,
    w64 (show -9223372036854775808≤((m:Nat):Int) by omega) (by omega),eA,h4,hC y hy,w64 (show -9223372036854775808≤(m:Int)+1 by omega) (by omega)]
   by_cases hx:key y<x
   · rw [Ai hx,Ai ((hc y hy).1.2 hx)]; rfl
   · rw [Ah hx,Ah (fun h=>hx ((hc y hy).1.1 h))]; rfl
 · rw [hL]
   simp only [bndD,Ah (show ¬(lo:Int)<(lo:Int) by omega),bT]
   by_cases hl':lo<l.length
   · have hy:l[lo]∈l:=EH hl'
     simp only [Ai (show (lo:Int)<(l.length:Int) by omega),BH,gdtt,eA,AL hl',bnoS,hC _ hy,CF,DH,Option.some.injEq]
     by_cases hx:key l[lo]=x
     · rw [Ai hx,Ai ((hc _ hy).2.2 hx)]
     · rw [Ah hx,Ah (fun h=>hx ((hc _ hy).2.1 h))]
   · rw [Cd (by omega)]
     simp only [Ah (show ¬(lo:Int)<(l.length:Int) by omega),ft,gdff,bnoS,CS,Eg]
     rfl
end Go.Fn
open List renaming find?_append → DQ,find?_eq_none → CM
open Go Go.IL
namespace Go.Fn
abbrev Nd:=aX
abbrev Fs:=aBj
abbrev Fo:=aFi
def I64 (n:Int):Prop:=-9223372036854775808≤n∧n≤9223372036854775807
inductive Fd (N:List Nd) (id:Int):Int×Bool→Prop
 | yes (A:List Nd) (y:Nd) (C:List Nd) (h:N=A++y::C) (e:y.ID=id) (ha:∀ a∈A,a.ID<id) (hc:∀ c∈C,id<c.ID):Fd N id ((A.length:Int),true)
 | no (p:Nat) (hp:p≤N.length) (h:∀ n∈N,n.ID≠id) (h2:0≤id→id≤1048576→(∀ a∈N.take p,a.ID<id)∧∀ c∈N.drop p,id<c.ID):Fd N id ((p:Int),false)
def rR (N:List Nd) (id:Int):Af Int:=(N.find? fun n=>decide (n.ID=id)).map (·.aa)
theorem par_yes {N A C:List Nd} {y:Nd} {id:Int} (h:N=A++y::C) (e:y.ID=id) (ha:∀ a∈A,a.ID<id):rR N id=some y.aa:=by
 unfold rR
 rw [h,DQ]
 have h1:A.find? (fun n=>decide (n.ID=id))=none:=CM.2 (fun a hm=>by have:=ha a hm; simp; omega)
 rw [h1]
 simp [e]
def iF (N:List Nd):Nat→Int→List Int
 | 0,_=>[]
 | k+1,id=>match rR N id with
   | some p=>if p=0 then [] else p::iF N k p
   | none=>[]
structure Ok34 (N:List Nd):Prop where
 ln:N.length≤1000
 ra:∀ n∈N,1≤n.ID∧n.ID≤1048576
 so:N.Pairwise (fun a b=>a.ID<b.ID)
 pa:∀ n∈N,I64 n.aa
end Go.Fn
open Bool renaming eq_iff_iff → ER
open List renaming Nodup → FB,append_of_mem → Df,find?_some → ES,length_erase_of_mem → Ez,length_map → AA,length_pos_of_mem → DL,mem_cons → Ax,mem_erase_of_ne → EY,mem_filter → Bj,mem_map → Am,mem_of_find?_eq_some → Ds,nodup_cons → Bo,pairwise_append → BD,pairwise_cons → AU,pairwise_map → Bm
open _root_ renaming if_neg → Aq
open Go Go.IL
namespace Go.Fn
theorem cmem {α:Type} {P:α→Af Bool} {q:α→Bool} {I:Nat→Int→Af Int} {l:List α} (hP:∀ x∈l,P x=some (q x))
 (hI:∀ f v,I (f+1) v=bnd (decide (v<(l.length:Int))) fun x14=>bif x14 then (bno (gix l v) fun x16=>bno (P x16) fun x17=>bif x17 then some v else (bnd (Al .i64 (v+1)) fun x19=>I f x19)) else some (-1))
 (hl:l.length≤1000000):(bno (I fuel 0) fun x1=>bnd (decide (0≤x1)) fun x2=>some x2)=some (l.any q):=by
 obtain ⟨k,h1,h2⟩:=aC1 (L:=I) (q:=q) hl (fun p x r f h=>by
  rw [hI]; simp only [bndD,pG h,cK,kM h,bnoS,hP x (by rw [h]; simp),w_at h hl]) (fun f=>by rw [hI]; simp only [bndD,rT,bT])
 rw [h1,bnoS,bndD,h2]
theorem cint {l:List Int} {x:Int} (hl:l.length≤1000000):cW l x=some (decide (x∈l)):=by
 unfold cW jM
 have:=cmem (P:=fun y=>some (decide (x=y))) (q:=fun y=>decide (x=y)) (I:=dW l x) (l:=l) (fun _ _=>rfl) (fun f v=>rfl) hl
 rw [this]
 congr 1
 rw [ER,Bz]
 simp
theorem pF:∀ {l m:List Int},l.Nodup→(∀ x∈l,x∈m)→l.length≤m.length
 | [],m,_,_=>CO _
 | x::l,m,hn,hs=>by
   obtain ⟨h1,h2⟩:=Bo.1 hn
   have hx:=hs x (by simp)
   have:=pF (l:=l) (m:=m.erase x) h2 (fun y hy=>by
    have hne:y≠x:=fun e=>h1 (e ▸ hy)
    exact (EY hne).2 (hs y (by simp [hy])))
   rw [Ez hx] at this
   have hp:0<m.length:=DL hx
   simp only [AZ]; omega
theorem aBW {N:List Nd} (h:N.Pairwise (fun a b=>a.ID<b.ID)):(N.map (·.ID)).Nodup:=by
 unfold FB
 rw [Bm]
 exact h.imp (fun h=>by omega)
structure FV (K:Int) (st:Fs):Prop where
 rm:st.aq=24
 kp:st.au=K∧0≤K∧K≤24
 ln:st.ai.length≤24
 el:(st.aj.length:Int)≤K
 so:st.ai.Pairwise (fun a b=>a.ID<b.ID)
 ra:∀ n∈st.ai,(1≤n.ID∧n.ID≤1048576)∧1≤n.ae∧n.ae≤256
 pa:∀ n∈st.ai,n.aa=0∨∃ m∈st.ai,m.ID=n.aa
 rk:∃ r:Int→Nat,∀ n∈st.ai,n.aa≠0→r n.aa<r n.ID
 en:∀ n∈st.ai,(n.af=true↔n.ID∈st.aj)
 nd:st.aj.Nodup
 es:∀ e∈st.aj,∃ n∈st.ai,n.ID=e
theorem FV.ok {K:Int} {st:Fs} (h:FV K st):Ok34 st.ai :=
 ⟨by have:=h.ln; omega,fun n hn=>(h.ra n hn).1,h.so,fun n hn=>by
  rcases h.pa n hn with e | ⟨m,hm,e⟩
  · rw [e]; exact ⟨by decide,by decide⟩
  · have:=(h.ra m hm).1; exact ⟨by omega,by omega⟩⟩
theorem rG {N:List Nd} (h:N.Pairwise (fun a b=>a.ID<b.ID)) {a b:Nd} (ha:a∈N) (hb:b∈N) (e:a.ID=b.ID):a=b:=by
 obtain ⟨A,C,rfl⟩:=Df ha
 have hp:=BD.1 h
 have hp2:=AU.1 hp.2.1
 rcases AM.1 hb with hb | hb
 · have:=hp.2.2 b hb a (by simp); omega
 · rcases Ax.1 hb with hb | hb
   · exact hb.symm
   · have:=hp2.1 b hb; omega
theorem aEV {N:List Nd} {id p:Int} (h:rR N id=some p):∃ n∈N,n.ID=id∧n.aa=p:=by
 unfold rR at h
 cases hf:N.find? (fun n=>decide (n.ID=id)) with
 | none=>rw [hf] at h; cases h
 | some n =>
   rw [hf] at h
   have h1:=ES hf
   exact ⟨n,Ds hf,by simpa using h1,by simpa using h⟩
theorem vO {N:List Nd} (h:N.Pairwise (fun a b=>a.ID<b.ID)) {n:Nd} (hn:n∈N):rR N n.ID=some n.aa:=by
 obtain ⟨A,C,rfl⟩:=Df hn
 have hp:=BD.1 h
 exact par_yes rfl rfl (fun a ha=>hp.2.2 a ha n (by simp))
theorem xL {N:List Nd} {r:Int→Nat} (h:∀ n∈N,n.aa≠0→r n.aa<r n.ID):∀ (k:Nat) (id x:Int),x∈iF N k id→r x<r id
 | 0,_,_,hx=>(Bw hx).elim
 | k + 1,id,x,hx=>by
   unfold iF at hx
   cases hp:rR N id with
   | none=>rw [hp] at hx; exact (Bw hx).elim
   | some p =>
     rw [hp] at hx
     obtain ⟨n,hn,e1,e2⟩:=aEV hp
     by_cases hz:p=0
     · simp only [hz,if_true] at hx; exact (Bw hx).elim
     · simp only [Aq hz] at hx
       have h1:=h n hn (by rw [e2]; exact hz)
       rw [e1,e2] at h1
       rcases Ax.1 hx with rfl | hx
       · exact h1
       · have:=xL h k p x hx; omega
theorem aAZ (N:List Nd):∀ (k:Nat) (id:Int),(iF N k id).length≤k
 | 0,_=>AO _
 | k + 1,id=>by
   unfold iF
   cases rR N id with
   | none=>exact CO _
   | some p =>
     have:=aAZ N k p
     simp only
     split
     · exact CO _
     · rw [AZ]; omega
theorem aDu {K:Int} {st:Fs} (h:FV K st):(st.ai.filter (·.af)).length=st.aj.length:=by
 have h1:((st.ai.filter (·.af)).map (·.ID)).Nodup:=aBW (List.Pairwise.sublist List.filter_sublist h.so)
 have h2:=pF h1 (m:=st.aj) (fun x hx=>by
  obtain ⟨n,hn,rfl⟩:=Am.1 hx
  obtain ⟨hn,hc⟩:=Bj.1 hn
  exact (h.en n hn).1 hc)
 have h3:=pF h.nd (m:=(st.ai.filter (·.af)).map (·.ID)) (fun x hx=>by
  obtain ⟨n,hn,e⟩:=h.es x hx
  exact Am.2 ⟨n,Bj.2 ⟨hn,(h.en n hn).2 (by rw [e]; exact hx)⟩,e⟩)
 rw [AA] at h2 h3
 omega
end Go.Fn
open Int renaming ediv_le_of_le_mul → ET,le_refl → DP,mul_le_mul_of_nonneg_left → FP
open List renaming length_filter_le → Cn
open _root_ renaming absurd → AI
open Go Go.IL
namespace Go.Fn
theorem aAu {α:Type} {l p r:List α} {x:α} (h:l=p++x::r):l[((p.length:Nat):Int).toNat]? = some x:=by
 rw [Au,h,Bu (AO _)]; simp
theorem aAN {α:Type} {p r:List α} {x y:α}:(p++x::r).set ((p.length:Nat):Int).toNat y=p++y::r:=by
 rw [Au,Dg _ _ (AO _)]; simp
def sumS:List Nd→Int→Int
 | [],_=>0
 | n::r,id=>(if n.aa=id then n.ae else 0)+sumS r id
theorem aBm:∀ (a b:List Nd) (id:Int),sumS (a++b) id=sumS a id+sumS b id
 | [],b,id=>by show sumS b id=0+sumS b id; omega
 | n::a,b,id=>by
   have:=aBm a b id
   show _+sumS (a++b) id=_+sumS a id+sumS b id
   omega
theorem aGv:∀ {N:List Nd},(∀ n∈N,1≤n.ae∧n.ae≤256)→∀ id,0≤sumS N id∧sumS N id≤256*N.length
 | [],_,_=>⟨DP _,DP _⟩
 | n::r,h,id=>by
   have h1:=aGv (N:=r) (fun x hx=>h x (by simp [hx])) id
   have h2:=h n (by simp)
   have e:sumS (n::r) id=(if n.aa=id then n.ae else 0)+sumS r id:=rfl
   rw [e,AZ]
   split <;> omega
theorem aCS:∀ {N:List Nd} {n:Nd},(∀ x∈N,1≤x.ae∧x.ae≤256)→n∈N→n.ae≤sumS N n.aa
 | m :: r,n,h,hn=>by
   have h1:=aGv (N:=r) (fun x hx=>h x (by simp [hx])) n.aa
   have e:sumS (m::r) n.aa=(if m.aa=n.aa then m.ae else 0)+sumS r n.aa:=rfl
   rw [e]
   rcases Ax.1 hn with rfl | hn
   · rw [Ay rfl]; omega
   · have h2:=aCS (N:=r) (fun x hx=>h x (by simp [hx])) hn
     have h3:=h m (by simp)
     split <;> omega
def offN (y:Nd) (S:Int) (n:Nd):Nd:=if n.aa=y.ID then ⟨n.ID,y.aa,max (y.ae*n.ae / S) 1,n.af⟩ else n
theorem uW (y:Nd) (S:Int) (n:Nd):(offN y S n).ID=n.ID:=by unfold offN; split <;> rfl
theorem aBw (y:Nd) (S:Int) (n:Nd):(offN y S n).af=n.af:=by unfold offN; split <;> rfl
def offS (A:List Nd) (y:Nd) (C:List Nd):List Nd:=(A++C).map (offN y (sumS (A++C) y.ID))
theorem fv_off {K:Int} {st:Fs} (h:FV K st) {A C:List Nd} {y:Nd} (hN:st.ai=A++y::C):FV K ⟨st.aq,st.au,offS A y C,st.aj.filter fun e=>!decide (e=y.ID)⟩:=by
 obtain ⟨r,hr⟩:=h.rk
 have hso:=h.so
 rw [hN] at hso
 have hp:=BD.1 hso
 have hp2:=AU.1 hp.2.1
 have hmem:∀ n,n∈A++C→n∈st.ai∧n.ID≠y.ID:=fun n hn=>by
  rcases AM.1 hn with hn | hn
  · exact ⟨by rw [hN]; simp [hn],by have:=hp.2.2 n hn y (by simp); omega⟩
  · exact ⟨by rw [hN]; simp [hn],by have:=hp2.1 n hn; omega⟩
 have hback:∀ n∈st.ai,n.ID≠y.ID→n∈A++C:=fun n hn hne=>by
  rw [hN] at hn
  rcases AM.1 hn with hn | hn
  · exact AM.2 (.inl hn)
  · rcases Ax.1 hn with rfl | hn
    · exact AI rfl hne
    · exact AM.2 (.inr hn)
 have hy:y∈st.ai:=by rw [hN]; simp
 have hw:∀ n∈A++C,1≤n.ae∧n.ae≤256:=fun n hn=>(h.ra n (hmem n hn).1).2
 have hln:=h.ln
 have himg:∀ m∈offS A y C,∃ n∈A++C,m=offN y (sumS (A++C) y.ID) n:=fun m hm=>by
  obtain ⟨n,hn,e⟩:=Am.1 hm
  exact ⟨n,hn,e.symm⟩
 have hin:∀ n∈A++C,∃ m∈offS A y C,m.ID=n.ID:=fun n hn=>⟨_,Am.2 ⟨n,hn,rfl⟩,uW _ _ _⟩
 have hyp:y.aa≠y.ID:=fun e=>by
  have hyr:=(h.ra y hy).1
  have:=hr y hy (by omega)
  rw [e] at this; omega
 refine ⟨h.rm,h.kp,?_,?_,?_,fun m hm=>?_,fun m hm=>?_,⟨r,fun m hm hz=>?_⟩,fun m hm=>?_,?_,fun e he=>?_⟩
 · show (offS A y C).length≤24
   unfold offS; rw [AA,AX]
   rw [hN] at hln; simp at hln; omega
 · show ((st.aj.filter _).length:Int)≤K
   have:=Cn (fun e=>!decide (e=y.ID)) st.aj
   have:=h.el; omega
 · show (offS A y C).Pairwise _
   unfold offS
   rw [Bm]
   have:(A++C).Pairwise (fun a b=>a.ID<b.ID):=BD.2 ⟨hp.1,hp2.2,fun a ha b hb=>hp.2.2 a ha b (by simp [hb])⟩
   exact this.imp (fun hab=>by rw [uW,uW]; exact hab)
 · obtain ⟨n,hn,rfl⟩:=himg m hm
   have hnr:=h.ra n (hmem n hn).1
   unfold offN
   split
   · rename_i hpar
     refine ⟨hnr.1,?_⟩
     have hge:=aCS hw hn
     rw [hpar] at hge
     have hyw:=(h.ra y hy).2
     have hd:y.ae*n.ae / sumS (A++C) y.ID≤y.ae:=by
      apply ET (by omega)
      exact FP hge (by omega)
     show 1≤max (y.ae*n.ae / sumS (A++C) y.ID) 1∧max (y.ae*n.ae / sumS (A++C) y.ID) 1≤256
     omega
   · exact hnr
 · obtain ⟨n,hn,rfl⟩:=himg m hm
   obtain ⟨hn1,hn2⟩:=hmem n hn
   have key:∀ p:Int,p≠y.ID→(p=0∨∃ m∈st.ai,m.ID=p)→(p=0∨∃ m∈offS A y C,m.ID=p):=fun p hpy hh=>by
    rcases hh with hh | ⟨q,hq,e⟩
    · exact .inl hh
    · obtain ⟨z,hz,ez⟩:=hin q (hback q hq (by rw [e]; exact hpy))
      exact .inr ⟨z,hz,ez.trans e⟩
   unfold offN
   split
   · exact key y.aa hyp (h.pa y hy)
   · rename_i hpar
     exact key n.aa hpar (h.pa n hn1)
 · obtain ⟨n,hn,rfl⟩:=himg m hm
   obtain ⟨hn1,hn2⟩:=hmem n hn
   rw [uW]
   unfold offN at hz ⊢
   split
   · rename_i hpar
     rw [Ay hpar] at hz
     have hz:y.aa≠0:=hz
     have h1:=hr y hy hz
     have hyr:=(h.ra y hy).1
     have h2:=hr n hn1 (by rw [hpar]; omega)
     rw [hpar] at h2
     show r y.aa<r n.ID
     omega
   · rename_i hpar
     rw [Aq hpar] at hz
     exact hr n hn1 hz
 · obtain ⟨n,hn,rfl⟩:=himg m hm
   obtain ⟨hn1,hn2⟩:=hmem n hn
   rw [aBw,uW]
   have:=h.en n hn1
   show _↔n.ID∈st.aj.filter _
   rw [Bj,this]
   simp [hn2]
 · exact h.nd.filter _
 · obtain ⟨he1,he2⟩:=Bj.1 he
   have he2:e≠y.ID:=by simpa using he2
   obtain ⟨n,hn,en⟩:=h.es e he1
   obtain ⟨z,hz,ez⟩:=hin n (hback n hn (by rw [en]; exact he2))
   exact ⟨z,hz,ez.trans en⟩
end Go.Fn
open Bool renaming and_false → Dt,false_or → Ec,not_eq_true' → Dk,or_eq_false_iff → EZ,or_eq_true → BJ
open Iff renaming rfl → DA
open Go Go.IL
namespace Go.Fn
abbrev Mb:=aM
abbrev Gr:=aG
def lX (l:List Mb):List Mb:=l.map fun m=>⟨m.ID,m.ae,0⟩
theorem aCL {l:List Mb} (h:l.length≤1000000):dD l=some l:=by
 have h1:app 24 ([]:List Mb) l=some l:=by rw [nW (by simp; omega) (by simp; omega)]; rfl
 unfold dD
 rw [h1,bnoS]
 exact aAC fun hl=>by rw [hl]
theorem clone_p {l:List Mb} (h:l.length≤1000000):eD l=some l:=aCL h
def fitG (l:List Gr):Prop:=l.length≤1000∧∀ g∈l,g.ab.length≤1000
theorem own_L {l:List Gr} (h:fitG l):∀ (r p:List Gr) (f:Nat),l=p++r→r.length<f→fJ l f p (p.length:Int)=some l
 | _,_,0,_,hf=>AI hf (by omega)
 | [],p,f+1,hl,hf=>by
   rw [fJ,bndD,rU hl,bT,hl,AW]
 | x::r,p,f+1,hl,hf=>by
   have hx:=h.2 x (by rw [hl]; simp)
   have h1:=h.1
   have hpl:p.length≤1000:=by rw [hl] at h1; simp at h1; omega
   rw [fJ,bndD,pG hl,cK,kM hl,bnoS,clone_p (by omega),bnoS,nW (by simp; omega) (by simp; omega),bnoS,bndD,w_at hl (by omega)]
   exact own_L h r (p++[x]) f (kV hl) (by simp at hf ⊢; omega)
theorem aG0 {l:List Gr} (h:fitG l):nN l=some l:=own_L h l [] fuel rfl (eZ (by have:=h.1; omega))
theorem aG1 (l:List Gr):∀ (f:Nat) (a:List Gr) (b:Int),gR l f a b=fJ l f a b
 | 0,_,_=>rfl
 | f+1,a,b=>by
   rw [gR,fJ]
   simp only [aG1 l f]
theorem aF8 {l:List Gr} (h:fitG l):lK l=some l:=by
 unfold lK
 rw [aG1]; exact aG0 h
def zK (m:Mb):Bool:=inB m.ID 1 1048576&&inB m.ae 1 256&&inB m.ah 0 1099511627776
theorem aF0 (m:Mb):kY m=some (zK m):=by
 unfold kY zK
 simp only [sV,bnoS,bndD]
 cases inB m.ID 1 1048576 <;> cases inB m.ae 1 256 <;> rfl
def tO (g:Gr):Bool:=!inB g.aa 0 1048576||g.ab.any fun m=>!zK m
def qC:List Mb→Bool
 | a::b::l=>decide (a.ID<b.ID)&&qC (b::l)
 | _=>true
theorem aGj (m:Mb):lL m=some (!zK m):=by
 unfold lL
 rw [aF0,bnoS]
theorem aGi {l:List Mb} (h:l.length≤1000000):cM l=some (l.any fun m=>!zK m):=by
 unfold cM dH
 exact oV (P:=lL) aGj (I:=bZ l) (fun f v=>rfl) h
theorem aFZ {g:Gr} (h:g.ab.length≤1000000):mN g=some (tO g):=by
 unfold mN tO
 rw [sV,bnoS]
 cases inB g.aa 0 1048576
 · rfl
 · simp only [AN,BH,gdtt,aGi h,bnoS,bndD]
theorem aDx {l:List Gr} (h:fitG l):cR l=some (l.any tO):=by
 unfold cR dP
 exact cmem (P:=mN) (fun g hg=>aFZ (by have:=h.2 g hg; omega)) (I:=cF l) (fun f v=>rfl) (by have:=h.1; omega)
theorem aDy {l:List Gr} (h:l.length≤1000000):cS l=some (l.any fun g=>decide (24<(g.ab.length:Int))):=by
 unfold cS dQ
 exact oV (P:=pC) (fun g=>rfl) (I:=cG l) (fun f v=>rfl) h
theorem aEN {g:Gr} (h:g.ab.length≤1000000):∀ (r p:List Mb) (x:Mb) (f:Nat),g.ab=(p++[x])++r→r.length<f→gK g f ((p++[x]).length:Int)=some (qC (x::r))
 | _,_,_,0,_,hf=>AI hf (by omega)
 | [],p,x,f+1,hl,hf=>by rw [gK,bndD,rU hl,bT]; rfl
 | y::r,p,x,f+1,hl,hf=>by
   rw [gK,bndD,pG hl,cK,bndD,aC4 hl h,bnoS,kM hl,bnoS,bndD,bndD,w_at hl h,aEN h r (p++[x]) y f (kV hl) (by simp at hf ⊢; omega)]
   show _=some (decide (x.ID<y.ID)&&qC (y::r))
   by_cases hc:y.ID≤x.ID
   · rw [Ai hc,cK,Ah (by omega)]; rfl
   · rw [Ah hc,bT,Ai (by omega)]; rfl
theorem aCU {g:Gr} (h:g.ab.length≤1000000):nO g=some (qC g.ab):=by
 unfold nO
 cases hm:g.ab with
 | nil =>
   have h1:fuel=(fuel-1)+1:=rfl
   show gK g fuel 1=_
   rw [show (fuel:Nat)=(2 ^ 64-1)+1 from rfl,gK,bndD,hm]
   rfl
 | cons x r=>exact aEN h r [] x fuel hm (eZ (by rw [hm] at h; simp at h; omega))
def ordF:Option Gr→List Gr→Bool
 | _,[]=>true
 | none,g::r=>qC g.ab&&ordF (some g) r
 | some x,g::r=>decide (x.aa<g.aa)&&qC g.ab&&ordF (some g) r
theorem aG2 {l:List Gr} (h:fitG l):∀ (r p:List Gr) (x:Gr) (f:Nat),l=(p++[x])++r→r.length<f→gV l f ((p++[x]).length:Int)=some (bif ordF (some x) r then 0 else 10)
 | _,_,_,0,_,hf=>AI hf (by omega)
 | [],p,x,f+1,hl,hf=>by rw [gV,bndD,rU hl,bT]; rfl
 | y :: r,p,x,f+1,hl,hf=>by
   have hln:=h.1
   have hy:=h.2 y (by rw [hl]; simp)
   rw [gV,bndD,pG hl,cK,kM hl,bnoS,bndD,bndD,Ai (show (0:Int)<((p++[x]).length:Int) by simp),BH,gdtt,aC4 hl (by omega),bnoS,bndD,bndD,aCU (by omega)]
   have ih:=aG2 h r (p++[x]) y f (kV hl) (by simp at hf ⊢; omega)
   show _=some (bif (decide (x.aa<y.aa)&&qC y.ab&&ordF (some y) r) then 0 else 10)
   by_cases hc:y.aa≤x.aa
   · rw [Ai hc,Ah (show ¬x.aa<y.aa by omega)]; rfl
   · rw [Ah hc,Ai (show x.aa<y.aa by omega)]
     simp only [Dt,BH,gdtt,bnoS,bndD,Ec,w_at hl (show l.length≤1000000 by omega),ih]
     cases qC y.ab <;> rfl
theorem ord_ok {l:List Gr} (h:fitG l):gV l fuel 0=some (bif ordF none l then 0 else 10):=by
 have hln:=h.1
 cases l with
 | nil=>rw [show (fuel:Nat)=(2 ^ 64-1)+1 from rfl,gV]; rfl
 | cons y r =>
   have hy:=h.2 y (by simp)
   have hl:y::r=[]++y::r:=rfl
   have ih:=aG2 h r [] y (2 ^ 64-1) rfl (by simp at hln; omega)
   rw [show (fuel:Nat)=(2 ^ 64-1)+1 from rfl,gV,bndD,show decide ((0:Int)<((y::r).length:Int))=true from Ai (by simp),cK,show gix (y::r) 0=some y from rfl,bnoS,bndD,bndD]
   rw [show decide ((0:Int)<0)=false from rfl,ft,gdff,bnoS,bndD,bndD,CS,BH,gdtt,aCU (by omega),bnoS,bndD,Ec,bndD,show Al .i64 ((0:Int)+1)=(([]++[y]).length:Int) from rfl,ih]
   show _=some (bif (qC y.ab&&ordF (some y) r) then 0 else 10)
   cases qC y.ab <;> rfl
def uL (l:List Gr):Int :=
 bif decide (25<(l.length:Int))||l.any (fun g=>decide (24<(g.ab.length:Int))) then 5 else bif l.any tO then 8 else bif ordF none l then 0 else 10
theorem uK {l:List Gr} (h:fitG l):jL l=some (uL l):=by
 unfold jL uL mT
 rw [bndD,aDy (by have:=h.1; omega),bnoS,aDx h,bnoS,ord_ok h]
 cases decide (25<(l.length:Int)) <;> cases (l.any fun g=>decide (24<(g.ab.length:Int))) <;> cases l.any tO <;> rfl
structure nK (l:List Gr):Prop where
 ln:l.length≤25
 ml:∀ g∈l,g.ab.length≤24
 pa:∀ g∈l,0≤g.aa∧g.aa≤1048576
 mr:∀ g∈l,∀ m∈g.ab,(1≤m.ID∧m.ID≤1048576)∧(1≤m.ae∧m.ae≤256)∧(0≤m.ah∧m.ah≤1099511627776)
 mo:∀ g∈l,g.ab.Pairwise (fun a b=>a.ID<b.ID)
 so:l.Pairwise (fun a b=>a.aa<b.aa)
theorem xE:∀ {l:List Mb},qC l=true↔l.Pairwise (fun a b=>a.ID<b.ID)
 | []=>by simp [qC]
 | [x]=>by simp [qC]
 | x :: y::l=>by
   unfold qC
   rw [Az,decide_eq_true_eq,xE,AU (a:=x)]
   constructor
   · rintro ⟨h1,h2⟩
     refine ⟨fun z hz=>?_,h2⟩
     rcases Ax.1 hz with rfl | hz
     · exact h1
     · have:=(AU.1 h2).1 z hz; omega
   · rintro ⟨h1,h2⟩; exact ⟨h1 y (by simp),h2⟩
theorem aCl:∀ {l:List Gr} {x:Gr},ordF (some x) l=true↔(∀ g∈l,g.ab.Pairwise (fun a b=>a.ID<b.ID))∧(x::l).Pairwise (fun a b=>a.aa<b.aa)
 | [],x=>by simp [ordF]
 | y :: l,x=>by
   unfold ordF
   rw [Az,Az,decide_eq_true_eq,xE,aCl,AU (a:=x)]
   constructor
   · rintro ⟨⟨h1,h2⟩,h3,h4⟩
     refine ⟨fun g hg=>?_,fun z hz=>?_,h4⟩
     · rcases Ax.1 hg with rfl | hg
       · exact h2
       · exact h3 g hg
     · rcases Ax.1 hz with rfl | hz
       · exact h1
       · have:=(AU.1 h4).1 z hz; omega
   · rintro ⟨h1,h2,h3⟩
     exact ⟨⟨h2 y (by simp),h1 y (by simp)⟩,fun g hg=>h1 g (by simp [hg]),h3⟩
theorem aAd {l:List Gr}:ordF none l=true↔(∀ g∈l,g.ab.Pairwise (fun a b=>a.ID<b.ID))∧l.Pairwise (fun a b=>a.aa<b.aa):=by
 cases l with
 | nil=>simp [ordF]
 | cons x l =>
   unfold ordF
   rw [Az,xE,aCl]
   constructor
   · rintro ⟨h1,h2,h3⟩
     refine ⟨fun g hg=>?_,h3⟩
     rcases Ax.1 hg with rfl | hg
     · exact h1
     · exact h2 g hg
   · rintro ⟨h1,h2⟩; exact ⟨h1 x (by simp),fun g hg=>h1 g (by simp [hg]),h2⟩
theorem wV {g:Gr}:tO g=false↔(0≤g.aa∧g.aa≤1048576)∧∀ m∈g.ab,(1≤m.ID∧m.ID≤1048576)∧(1≤m.ae∧m.ae≤256)∧(0≤m.ah∧m.ah≤1099511627776):=by
 unfold tO
 rw [EZ,Bool.not_eq_false',vD,CH]
 refine and_congr DA (forall_congr' fun m=>imp_congr DA ?_)
 unfold zK
 rw [Dk,Bool.not_eq_false,Az,Az,vD,vD,vD,and_assoc]
theorem pY {l:List Gr}:uL l=0↔nK l:=by
 unfold uL
 cases h1:(decide (25<(l.length:Int))||l.any (fun g=>decide (24<(g.ab.length:Int)))) with
 | true =>
   refine ⟨fun h=>(by cases h),fun h=>?_⟩
   exfalso
   rw [BJ,decide_eq_true_eq,Bz] at h1
   rcases h1 with h1 | ⟨g,hg,h1⟩
   · have:=h.ln; omega
   · have:=h.ml g hg; rw [decide_eq_true_eq] at h1; omega
 | false =>
   rw [EZ,decide_eq_false_iff_not,CH] at h1
   cases h2:l.any tO with
   | true =>
     refine ⟨fun h=>(by cases h),fun h=>?_⟩
     exfalso
     obtain ⟨g,hg,h3⟩:=Bz.1 h2
     rw [wV.2 ⟨h.pa g hg,h.mr g hg⟩] at h3; cases h3
   | false =>
     rw [CH] at h2
     have hw:∀ g∈l,tO g=false:=fun g hg=>by simpa using h2 g hg
     cases h3:ordF none l with
     | true =>
       refine ⟨fun _=>⟨by omega,fun g hg=>?_,fun g hg=>(wV.1 (hw g hg)).1,fun g hg=>(wV.1 (hw g hg)).2,(aAd.1 h3).1,(aAd.1 h3).2⟩,fun _=>rfl⟩
       have:=h1.2 g hg; rw [decide_eq_true_eq] at this; omega
     | false =>
       refine ⟨fun h=>(by cases h),fun h=>?_⟩
       rw [aAd.2 ⟨h.mo,h.so⟩] at h3; cases h3
theorem nK.fit {l:List Gr} (h:nK l):fitG l:=⟨by have:=h.ln; omega,fun g hg=>by have:=h.ml g hg; omega⟩
end Go.Fn
open Bool renaming and_true → Eb
open Go Go.IL
namespace Go.Fn
theorem aFN {l:List Gr} (h:nK l) {p:Int} (hp:0≤p∧p≤1048576) :
 ∃ a b:List Gr,l=a++b∧a=l.filter (fun y=>decide (y.aa<p))∧b=l.filter (fun y=>decide (p≤y.aa)) ∧
   ((∃ y c,b=y::c∧y.aa=p∧gW l p=some ((a.length:Int),true))∨((∀ y∈l,y.aa≠p)∧gW l p=some ((a.length:Int),false))):=by
 have hC:∀ y∈l,iH y p=some (y.aa-p):=fun y hy=>by
  have:=h.pa y hy
  unfold iH
  rw [bndD,w64 (by omega) (by omega)]
 obtain ⟨a,b,h1,h2,h3,h4⟩:=zF (dflt:=(default:Gr)) (C:=fun y=>iH y p) (c:=fun y=>y.aa-p) (key:=fun y=>y.aa) (x:=p) (L:=bE l p) (l:=l)
  hC (fun y _=>⟨⟨fun h=>by omega,fun h=>by omega⟩,⟨fun h=>by omega,fun h=>by omega⟩⟩) (fun f a b=>rfl) (by have:=h.ln; omega) h.so
 refine ⟨a,b,h1,h2,h3,?_⟩
 unfold gW cY
 rcases h4 with ⟨y,c,e1,e2,e3⟩ | ⟨e1,e2⟩
 · exact .inl ⟨y,c,e1,e2,by rw [e3]; rfl⟩
 · exact .inr ⟨e1,by rw [e2]; rfl⟩
theorem bareL {l0:List Mb} (hl:l0.length≤1000000):∀ (r p:List Mb) (f:Nat),l0=p++r→r.length<f→fB l0 f (lX p++r) (p.length:Int)=some (lX l0)
 | _,_,0,_,hf=>AI hf (by omega)
 | [],p,f+1,h,hf=>by
   rw [fB,bndD,rU h,bT,AW,h,AW]
 | x::r,p,f+1,h,hf=>by
   have hb:lX p++x::r=lX p++x::r:=rfl
   have hlb:(lX p).length=p.length:=by simp [lX]
   have e1:gix (lX p++x::r) (p.length:Int)=some x:=by rw [←hlb]; exact kM rfl
   have e2:(lX p++x::r)[((p.length:Nat):Int).toNat]? = some x:=by rw [←hlb]; exact aAu rfl
   have e3:(lX p++x::r).set ((p.length:Nat):Int).toNat (⟨x.ID,x.ae,0⟩:Mb)=lX (p++[x])++r:=by
    rw [←hlb,aAN]; simp [lX]
   rw [fB,bndD,pG h,cK,e1,bnoS,e2,bnoS,bndD,e3,bndD,w_at h hl]
   exact bareL hl r (p++[x]) f (kV h) (by simp at hf ⊢; omega)
theorem bare_ok {g:Gr} (h:g.ab.length≤1000000):lU g=some (lX g.ab):=by
 unfold lU
 rw [aCL h,bnoS]
 exact bareL h g.ab [] fuel rfl (eZ (by omega))
theorem aFe (l:List Mb):∀ (f:Nat) (a:List Mb) (b:Int),gC l f a b=fB l f a b
 | 0,_,_=>rfl
 | f+1,a,b=>by
   rw [gC,fB]
   simp only [aFe l f]
theorem aFd {g:Gr} (h:g.ab.length≤1000000):kZ g=some (lX g.ab):=by
 unfold kZ
 rw [aCL h,bnoS,aFe]
 exact bareL h g.ab [] fuel rfl (eZ (by omega))
theorem mb_eq (a b:Mb):(decide (a.ID=b.ID)&&(decide (a.ae=b.ae)&&(decide (a.ah=b.ah)&&true)))=decide (a=b):=by
 obtain ⟨a1,a2,a3⟩:=a
 obtain ⟨b1,b2,b3⟩:=b
 rw [ER]
 simp [Az]
theorem equal20 {l m:List Mb} (hl:l.length≤1000000):dI l m=some (decide (l=m)):=by
 unfold dI
 rw [aFT (L:=cE l m) (z:=true) hl ?_ ?_,Eb]
 · intro p x r s y t f h1 h2 h3
   rw [cE]
   simp only [bndD,pG h1,cK,kM h1,bnoS]
   rw [show gix m (p.length:Int)=some y by rw [h3]; exact kM h2,bnoS,mb_eq,w_at h1 hl]
 · intro h1 f
   rw [cE,bndD,rT,bT]
def qA (l:List Gr) (g:Gr):List Gr :=
 (l.filter fun y=>decide (y.aa<g.aa))++(match (l.filter fun y=>decide (g.aa≤y.aa)) with
   | []=>[g]
   | y::c=>if y.aa=g.aa then (if lX y.ab=g.ab then y::c else g::c) else g::y::c)
theorem aGI {l:List Gr} (h:nK l) {g:Gr} (hp:0≤g.aa∧g.aa≤1048576):jH g l=some (qA l g):=by
 obtain ⟨a,b,h1,h2,h3,h4⟩:=aFN h hp
 have hln:=h.ln
 unfold jH qA
 rw [←h2,←h3]
 rcases h4 with ⟨y,c,e1,e2,e3⟩ | ⟨e1,e2⟩
 · have hl:l=a++y::c:=by rw [h1,e1]
   have hy:y∈l:=by rw [hl]; simp
   rw [e3,bnoS,e1]
   simp only [AN,bT,e2,if_true]
   rw [kM hl,bnoS,aAu hl,bnoS,bare_ok (by have:=h.ml y hy; omega),bnoS,equal20 (by have:=h.ml y hy; simp [lX]; omega),bnoS]
   by_cases hb:lX y.ab=g.ab
   · rw [Ai hb,Ay hb]
     simp only [AN,bT]; rw [←hl]
   · rw [Ah hb,Aq hb]
     simp only [AT,cK,bndD]
     rw [bnoS,bnoS,hl,aAN]
 · rw [e2,bnoS]
   simp only [AT,cK]
   have hal:a.length≤l.length:=by rw [h1]; simp
   unfold gA
   rw [insS_ok (by omega) (by omega) (by simp; omega) (by simp; omega),bnoS,Au]
   have t1:l.take a.length=a:=by rw [h1]; simp
   have t2:l.drop a.length=b:=by rw [h1]; simp
   rw [t1,t2,AH]
   cases hb:b with
   | nil=>rfl
   | cons y c =>
     have hy:y∈l:=by rw [h1,hb]; simp
     simp only [Aq (e1 y hy)]
     rfl
def wH:Mb→List Mb→Mb
 | b,[]=>b
 | b,m::l=>if m.ah*b.ae<b.ah*m.ae then wH m l else wH b l
def okM (m:Mb):Prop:=(1≤m.ID∧m.ID≤1048576)∧(1≤m.ae∧m.ae≤256)∧(0≤m.ah∧m.ah≤1099511627776)
theorem aAy:∀ (l:List Mb) (b:Mb),wH b l=b∨wH b l∈l
 | [],_=>.inl rfl
 | m :: l,b=>by
   unfold wH
   split
   · rcases aAy l m with h | h
     · rw [h]; exact .inr (by simp)
     · exact .inr (by simp [h])
   · rcases aAy l b with h | h
     · exact .inl h
     · exact .inr (by simp [h])
theorem aCG {l0:List Mb} (hl:l0.length≤1000000) (ho:∀ m∈l0,okM m):∀ (r p:List Mb) (b:Mb) (f:Nat),okM b→l0=p++r→r.length<f→fF l0 f (p.length:Int) b.ID b.ae b.ah=some (wH b r).ID
 | _,_,_,0,_,_,hf=>AI hf (by omega)
 | [],p,b,f+1,hb,h,hf=>by rw [fF,bndD,rU h,bT]; rfl
 | x :: r,p,b,f+1,hb,h,hf=>by
   have hx:=ho x (by rw [h]; simp)
   have e1:=aG3 (x:=x.ah) (w:=b.ae) (k:=1099511627776) (m:=256) (by have:=hx.2.2; omega) (by have:=hx.2.2; omega) (by have:=hb.2.1; omega) (by have:=hb.2.1; omega) (by omega)
   have e2:=aG3 (x:=b.ah) (w:=x.ae) (k:=1099511627776) (m:=256) (by have:=hb.2.2; omega) (by have:=hb.2.2; omega) (by have:=hx.2.1; omega) (by have:=hx.2.1; omega) (by omega)
   rw [fF,bndD,pG h,cK,kM h,bnoS,bndD,bndD,bndD,w64 (by omega) (by omega),w64 (by omega) (by omega),w_at h hl]
   unfold wH
   by_cases hc:x.ah*b.ae<b.ah*x.ae
   · rw [Ai hc,cK,Ay hc,bndD]
     exact aCG hl ho r (p++[x]) x f hx (kV h) (by simp at hf ⊢; omega)
   · rw [Ah hc,bT,Aq hc,bndD]
     exact aCG hl ho r (p++[x]) b f hb (kV h) (by simp at hf ⊢; omega)
theorem aFL {g:Gr} {b:Mb} {l:List Mb} (hg:g.ab=b::l) (hl:l.length≤1000) (ho:∀ m∈g.ab,okM m):jX g=some (wH b l).ID:=by
 rw [hg] at ho
 have hc:cut (b::l) 1 ((b::l).length:Int)=some l:=by
  rw [cut_to (by omega) (by simp; omega)]; rfl
 unfold jX
 rw [hg,show gix (b::l) 0=some b from rfl,bnoS,hc,bnoS]
 exact aCG (by omega) (fun m hm=>ho m (by simp [hm])) l [] b fuel (ho b (by simp)) rfl (eZ (by omega))
theorem sF {V:Type} (k:Int) (v:V) (j:Int):∀ (l:List (Int×V)),mget (mput l k v) j=if k=j then some v else mget l j
 | []=>by
   show mget [(k,v)] j=_
   rw [mget]; rfl
 | (i,w)::r=>by
   rw [mput]
   by_cases h:i=k
   · rw [Ay h,mget,mget]
     by_cases h2:k=j
     · rw [Ay h2,Ay h2]
     · rw [Aq h2,Aq h2,Aq (by omega)]
   · rw [Aq h,mget,mget]
     by_cases h2:i=j
     · rw [Ay h2,Ay h2,Aq (by omega)]
     · rw [Aq h2,Aq h2,sF k v j r]
theorem mput_ne {V:Type} (k:Int) (v:V):∀ (l:List (Int×V)),(mput l k v).length≠0
 | []=>by show ([(k,v)]:List (Int×V)).length≠0; simp
 | (i,w)::r=>by
   rw [mput]
   split <;> simp
theorem del20 {l:List Gr} (hl:l.length≤100000) (a1:List (Int×aX)) (a2 a3:List (Int×Bool)) (a4 a5:Int) (a6:List aJ) (a7 a8:Int) (a9:List aI) (a10:Int) (a11:List Int) :
 cJ l a1 a2 a3 a4 a5 a6 a7 a8 a9 a10 a11=some (l.filter fun g=>!(!decide (g.aa=0) && !(mget a1 g.aa).isSome)):=by
 unfold cJ dM
 exact sU (P:=fun g=>lZ g a1 a2 a3 a4 a5 a6 a7 a8 a9 a10 a11) (q:=fun g=>!decide (g.aa=0) && !(mget a1 g.aa).isSome) (fun g=>by
  unfold lZ; simp only [bndD]) (I:=bU l a1 a2 a3 a4 a5 a6 a7 a8 a9 a10 a11) (L:=bR a1 a2 a3 a4 a5 a6 a7 a8 a9 a10 a11) (fun f v=>by
   rw [bU]
   simp only [bndD]
   cases decide (v<(l.length:Int))
   · rfl
   · simp only [cK]
     cases hg:gix l v with
     | none=>rfl
     | some x=>rw [bnoS,(qS hg).2]) (fun f a b c=>rfl) hl
end Go.Fn
open List renaming mem_cons_of_mem → Br,mem_cons_self → BX,nodup_nil → CR
open Go Go.IL
namespace Go.Fn
inductive Anc (N:List Nd) (x:Int):Int→Prop
 | here:Anc N x x
 | up (n:Nd) (hn:n∈N) (hx:n.ID≠x) (hp:n.aa≠0) (h:Anc N x n.aa):Anc N x n.ID
inductive Blw (N:List Nd) (x d:Int):Int→Prop
 | child (n:Nd) (hn:n∈N) (hx:n.ID≠x) (hp:n.aa=d):Blw N x d n.ID
 | up (n:Nd) (hn:n∈N) (hx:n.ID≠x) (hp:n.aa≠0) (h:Blw N x d n.aa):Blw N x d n.ID
def Rk (N:List Nd) (x:Int) (r:Int→Nat):Prop:=∀ n∈N,n.ID≠x→n.aa≠0→r n.aa<r n.ID
theorem aDD {N:List Nd} {x:Int} {r:Int→Nat} (h:Rk N x r) {z:Int} (ha:Anc N x z):z=x∨r x<r z:=by
 induction ha with
 | here=>exact .inl rfl
 | up n hn hx hp _ ih =>
   have:=h n hn hx hp
   rcases ih with e | e
   · rw [e] at this; exact .inr this
   · exact .inr (by omega)
theorem aDE {N:List Nd} {x z:Int} (ha:Anc N x z):z=x∨∃ n∈N,n.ID=z:=by
 cases ha with
 | here=>exact .inl rfl
 | up n hn _ _ _=>exact .inr ⟨n,hn,rfl⟩
theorem aGk {N:List Nd} {x d:Int} {r:Int→Nat} (h:Rk N x r) (hd:d≠0) {z:Int} (ha:Blw N x d z):r d<r z:=by
 induction ha with
 | child n hn hx hp=>have:=h n hn hx (by rw [hp]; exact hd); rw [hp] at this; exact this
 | up n hn hx hp _ ih=>have:=h n hn hx hp; omega
theorem aCQ {N:List Nd} (hs:N.Pairwise (fun a b=>a.ID<b.ID)) {x:Int} {n:Nd} (hn:n∈N) (hx:n.ID≠x) (ha:Anc N x n.ID):Anc N x n.aa:=by
 generalize hz:n.ID=z at ha
 cases ha with
 | here=>exact AI hz hx
 | up m hm hmx hmp h =>
   have:m=n:=rG hs hm hn hz.symm
   subst this; exact h
theorem blw_par {N:List Nd} (hs:N.Pairwise (fun a b=>a.ID<b.ID)) {x d:Int} {n:Nd} (hn:n∈N) (ha:Blw N x d n.ID):n.aa=d∨Blw N x d n.aa:=by
 generalize hz:n.ID=z at ha
 cases ha with
 | child m hm hmx hmp =>
   have:m=n:=rG hs hm hn hz.symm
   subst this; exact .inl hmp
 | up m hm hmx hmp h =>
   have:m=n:=rG hs hm hn hz.symm
   subst this; exact .inr h
def pV (x d w:Int) (only:Bool) (n:Nd):Nd:=if n.ID=x then ⟨n.ID,d,w,n.af⟩ else if only=true∧n.aa=d then ⟨n.ID,x,n.ae,n.af⟩ else n
theorem aC2 (x d w:Int) (o:Bool) (n:Nd):(pV x d w o n).ID=n.ID:=by unfold pV; split; rfl; split <;> rfl
theorem aBX (x d w:Int) (o:Bool) (n:Nd):(pV x d w o n).af=n.af:=by unfold pV; split; rfl; split <;> rfl
theorem aFA {N:List Nd} (hs:N.Pairwise (fun a b=>a.ID<b.ID)) {x d w:Int} {o:Bool} {r:Int→Nat} (h:Rk N x r) (hx0:x≠0) (hz:∀ n∈N,n.ID≠0) (hd:d≠0→¬ Anc N x d):∃ r':Int→Nat,∀ m∈N.map (pV x d w o),m.aa≠0→r' m.aa<r' m.ID:=by
 classical
 refine ⟨fun z=>if Anc N x z then r z+(r x+r d+1) else if Blw N x d z then r z+2*(r x+r d+1) else r z,fun m hm hp=>?_⟩
 obtain ⟨n,hn,rfl⟩:=Am.1 hm
 rw [aC2]
 have hxa:Anc N x x:=.here
 have hnb:d≠0→¬ Blw N x d d:=fun h0 hb=>by have:=aGk h h0 hb; omega
 by_cases hx:n.ID=x
 · -- the node itself
   have e:(pV x d w o n).aa=d:=by unfold pV; rw [Ay hx]
   rw [e] at hp ⊢
   rw [hx]
   simp only [Aq (hd hp),Aq (hnb hp),Ay hxa]
   omega
 · by_cases ho:o=true∧n.aa=d
   · have e:(pV x d w o n).aa=x:=by unfold pV; rw [Aq hx,Ay ho]
     rw [e]
     have hb:Blw N x d n.ID:=.child n hn hx ho.2
     have hna:¬ Anc N x n.ID:=fun ha=>by
      have h1:=aCQ hs hn hx ha
      rw [ho.2] at h1
      by_cases h0:d=0
      · rw [h0] at h1
        rcases aDE h1 with e | ⟨q,hq,e⟩
        · exact hx0 e.symm
        · exact hz q hq e
      · exact hd h0 h1
     simp only [Ay hxa,Aq hna,Ay hb]
     omega
   · have e:pV x d w o n=n:=by unfold pV; rw [Aq hx,Aq ho]
     rw [e] at hp ⊢
     have hr:=h n hn hx hp
     by_cases ha:Anc N x n.ID
     · have h1:=aCQ hs hn hx ha
       simp only [Ay ha,Ay h1]
       omega
     · have h1:¬ Anc N x n.aa:=fun h1=>ha (.up n hn hx hp h1)
       by_cases hb:Blw N x d n.ID
       · rcases blw_par hs hn hb with h2 | h2
         · have hd0:d≠0:=by rw [←h2]; exact hp
           have h3:¬ Blw N x d n.aa:=by rw [h2]; exact hnb hd0
           simp only [Aq ha,Aq h1,Ay hb,Aq h3]
           omega
         · simp only [Aq ha,Aq h1,Ay hb,Ay h2]
           omega
       · have h2:¬ Blw N x d n.aa:=fun h2=>hb (.up n hn hx hp h2)
         simp only [Aq ha,Aq h1,Aq hb,Aq h2]
         omega
theorem aCi {N:List Nd} (hs:N.Pairwise (fun a b=>a.ID<b.ID)) {x:Int}:∀ (k:Nat) (z:Int),z≠x→x∈iF N k z→x≠0→Anc N x z
 | 0,_,_,hx,_=>(Bw hx).elim
 | k + 1,z,hzx,hx,h0=>by
   unfold iF at hx
   cases hp:rR N z with
   | none=>rw [hp] at hx; exact (Bw hx).elim
   | some p =>
     rw [hp] at hx
     obtain ⟨n,hn,e1,e2⟩:=aEV hp
     by_cases hq:p=0
     · simp only [hq,if_true] at hx; exact (Bw hx).elim
     · simp only [Aq hq] at hx
       subst e1 e2
       by_cases hpx:n.aa=x
       · exact .up n hn hzx hq (by rw [hpx]; exact .here)
       · rcases Ax.1 hx with e | hx
         · exact AI e.symm hpx
         · exact .up n hn hzx hq (aCi hs k n.aa hpx hx h0)
theorem aBB {N:List Nd}:∀ (k:Nat) (z x:Int),x∈iF N k z→x∈iF N (k+1) z
 | 0,_,_,hx=>(Bw hx).elim
 | k + 1,z,x,hx=>by
   unfold iF at hx ⊢
   cases hp:rR N z with
   | none=>rw [hp] at hx; exact (Bw hx).elim
   | some p =>
     rw [hp] at hx
     by_cases hq:p=0
     · simp only [hq,if_true] at hx; exact (Bw hx).elim
     · simp only [Aq hq] at hx ⊢
       rcases Ax.1 hx with e | hx
       · rw [e]; exact BX
       · exact Br _ (aBB k p x hx)
theorem xK {N:List Nd}:∀ (k:Nat) (z:Int),(iF N k z).length<k→iF N (k+1) z=iF N k z
 | 0,_,h=>AI h (by omega)
 | k + 1,z,h=>by
   rw [iF] at h
   rw [iF,iF]
   cases hp:rR N z with
   | none=>rfl
   | some p =>
     rw [hp] at h
     by_cases hq:p=0
     · simp only [hq,if_true]
     · simp only [Aq hq,AZ] at h ⊢
       rw [xK k p (by omega)]
theorem aGm {N:List Nd} (hs:N.Pairwise (fun a b=>a.ID<b.ID)) {x z:Int} (h:Anc N x z):z=x∨∃ k,x∈iF N k z:=by
 induction h with
 | here=>exact .inl rfl
 | up n hn hx hp _ ih =>
   right
   rcases ih with e | ⟨k,hk⟩
   · refine ⟨1,?_⟩
     rw [iF,vO hs hn]
     simp only [Aq hp]
     rw [e]; exact BX
   · refine ⟨k+1,?_⟩
     rw [iF,vO hs hn]
     simp only [Aq hp]
     exact Br _ hk
theorem pJ {N:List Nd} (hs:N.Pairwise (fun a b=>a.ID<b.ID)) {r:Int→Nat} (hr:∀ n∈N,n.aa≠0→r n.aa<r n.ID) (hpa:∀ n∈N,n.aa=0∨∃ m∈N,m.ID=n.aa):∀ (k:Nat) (z:Int),(∃ n∈N,n.ID=z)→(z::iF N k z).Nodup∧∀ y∈z::iF N k z,y∈N.map (·.ID)
 | 0,z,⟨n,hn,e⟩=>⟨by simp [iF],fun y hy=>by
   rcases Ax.1 hy with rfl | hy
   · exact Am.2 ⟨n,hn,e⟩
   · exact (Bw hy).elim⟩
 | k + 1,z,⟨n,hn,e⟩=>by
   subst e
   have hz:n.ID∈N.map (·.ID):=Am.2 ⟨n,hn,rfl⟩
   have hnot:¬ n.ID∈iF N (k+1) n.ID:=fun hm=>by have:=xL hr (k+1) _ _ hm; omega
   refine ⟨Bo.2 ⟨hnot,?_⟩,fun y hy=>?_⟩
   · rw [iF,vO hs hn]
     by_cases hq:n.aa=0
     · simp only [Ay hq]; exact CR
     · simp only [Aq hq]
       rcases hpa n hn with e | ⟨m,hm,e⟩
       · exact AI e hq
       · exact (pJ hs hr hpa k n.aa ⟨m,hm,e⟩).1
   · rcases Ax.1 hy with rfl | hy
     · exact hz
     · rw [iF,vO hs hn] at hy
       by_cases hq:n.aa=0
       · simp only [Ay hq] at hy; exact (Bw hy).elim
       · simp only [Aq hq] at hy
         rcases hpa n hn with e | ⟨m,hm,e⟩
         · exact AI e hq
         · exact (pJ hs hr hpa k n.aa ⟨m,hm,e⟩).2 y hy
theorem aBD {N:List Nd} (hs:N.Pairwise (fun a b=>a.ID<b.ID)) {r:Int→Nat} (hr:∀ n∈N,n.aa≠0→r n.aa<r n.ID) (hpa:∀ n∈N,n.aa=0∨∃ m∈N,m.ID=n.aa) {z:Int} (hz:∃ n∈N,n.ID=z):∀ (j:Nat),iF N (N.length+j) z=iF N N.length z
 | 0=>rfl
 | j+1=>by
   have h1:=aBD hs hr hpa hz j
   obtain ⟨h2,h3⟩:=pJ hs hr hpa N.length z hz
   have h4:=pF h2 h3
   rw [AZ,AA] at h4
   have:=xK (N:=N) (N.length+j) z (by rw [h1]; omega)
   rw [show N.length+(j+1)=N.length+j+1 by omega,this,h1]
theorem aBC {N:List Nd} (k:Nat) (z x:Int) (h:x∈iF N k z):∀ j,x∈iF N (k+j) z
 | 0=>h
 | j+1=>aBB _ _ _ (aBC k z x h j)
theorem not_anc {N:List Nd} (hs:N.Pairwise (fun a b=>a.ID<b.ID)) {r:Int→Nat} (hr:∀ n∈N,n.aa≠0→r n.aa<r n.ID) (hpa:∀ n∈N,n.aa=0∨∃ m∈N,m.ID=n.aa) {x z:Int} (hz:∃ n∈N,n.ID=z) (hzx:z≠x) (h:¬ x∈iF N N.length z):¬ Anc N x z:=fun ha=>by
 rcases aGm hs ha with e | ⟨k,hk⟩
 · exact hzx e
 · have h1:=aBC k z x hk N.length
   rw [show k+N.length=N.length+k by omega,aBD hs hr hpa hz k] at h1
   exact h h1
end Go.Fn
open Go Go.IL
namespace Go.Fn
def mvN (d p:Int) (n:Nd):Nd:=if n.ID=d then ⟨n.ID,p,n.ae,n.af⟩ else n
theorem mF (d p:Int) (n:Nd):(mvN d p n).ID=n.ID:=by unfold mvN; split <;> rfl
structure HP (N:List Nd) (x:Int) (r:Int→Nat):Prop where
 ok:Ok34 N
 xm:∃ n∈N,n.ID=x
 ra:∀ n∈N,1≤n.ae∧n.ae≤256
 pa:∀ n∈N,n.ID≠x→n.aa=0∨∃ m∈N,m.ID=n.aa
 rk:Rk N x r
 xs:((∀ n∈N,n.aa≠0→r n.aa<r n.ID)∧∀ n∈N,n.aa=0∨∃ m∈N,m.ID=n.aa)∨∀ n∈N,n.ID≠x→n.aa≠x
structure Hung (N:List Nd) (g:Nd→Nd):Prop where
 id:∀ n,(g n).ID=n.ID
 cl:∀ n,(g n).af=n.af
 ra:∀ n∈N,1≤(g n).ae∧(g n).ae≤256
 pa:∀ n∈N,(g n).aa=0∨∃ m∈N,m.ID=(g n).aa
 rk:∃ r:Int→Nat,∀ m∈N.map g,m.aa≠0→r m.aa<r m.ID
theorem aAr {N:List Nd} {x d w:Int} {o:Bool} {r:Int→Nat} (h:HP N x r) (hw:1≤w∧w≤256) (hd:d≠0→(∃ m∈N,m.ID=d)∧¬ Anc N x d):Hung N (pV x d w o):=by
 obtain ⟨y,hy,hyx⟩:=h.xm
 have hyr:=h.ok.ra y hy
 refine ⟨aC2 x d w o,aBX x d w o,fun n hn=>?_,fun n hn=>?_,aFA h.ok.so h.rk (by omega) (fun n hn=>by have:=h.ok.ra n hn; omega) (fun h0=>(hd h0).2)⟩
 · have:=h.ra n hn
   unfold pV
   split
   · exact hw
   · split <;> exact this
 · unfold pV
   split
   · by_cases h0:d=0
     · exact .inl h0
     · exact .inr (hd h0).1
   · rename_i hx
     split
     · exact .inr ⟨y,hy,hyx⟩
     · exact h.pa n hn hx
end Go.Fn
open Go Go.IL
namespace Go.Fn
theorem hp_move {N:List Nd} {x:Int} {r:Int→Nat} (h:HP N x r) {y k:Nd} (hy:y∈N) (hyx:y.ID=x) (hk:k∈N) (hkx:k.ID≠x) (ha:Anc N x k.ID) (hfull:(∀ n∈N,n.aa≠0→r n.aa<r n.ID)∧∀ n∈N,n.aa=0∨∃ m∈N,m.ID=n.aa):HP (N.map (mvN k.ID y.aa)) x r∧¬ Anc (N.map (mvN k.ID y.aa)) x k.ID:=by
 obtain ⟨hf1,hf2⟩:=hfull
 have hso:(N.map (mvN k.ID y.aa)).Pairwise (fun a b=>a.ID<b.ID):=by
  rw [Bm]
  exact h.ok.so.imp (fun hab=>by rw [mF,mF]; exact hab)
 have himg:∀ m∈N.map (mvN k.ID y.aa),∃ n∈N,m=mvN k.ID y.aa n:=fun m hm=>by
  obtain ⟨n,hn,e⟩:=Am.1 hm
  exact ⟨n,hn,e.symm⟩
 have hin:∀ p:Int,(p=0∨∃ m∈N,m.ID=p)→(p=0∨∃ m∈N.map (mvN k.ID y.aa),m.ID=p):=fun p hp=>hp.imp id (fun ⟨m,hm,e⟩=>⟨_,Am.2 ⟨m,hm,rfl⟩,(mF _ _ _).trans e⟩)
 have hxk:r x<r k.ID:=by
  rcases aDD h.rk ha with e | e
  · exact AI e hkx
  · exact e
 have hpar:∀ n∈N,(mvN k.ID y.aa n).aa≠0→r (mvN k.ID y.aa n).aa<r n.ID:=fun n hn hz=>by
  unfold mvN at hz ⊢
  split
  · rename_i e
    rw [Ay e] at hz
    have hz:y.aa≠0:=hz
    have:=hf1 y hy hz
    rw [hyx] at this
    show r y.aa<r n.ID
    rw [e]; omega
  · rename_i e
    rw [Aq e] at hz
    exact hf1 n hn hz
 have hpas:∀ n∈N,(mvN k.ID y.aa n).aa=0∨∃ m∈N.map (mvN k.ID y.aa),m.ID=(mvN k.ID y.aa n).aa:=fun n hn=>by
  apply hin
  unfold mvN
  split
  · exact hf2 y hy
  · exact hf2 n hn
 have hrk:Rk (N.map (mvN k.ID y.aa)) x r:=fun m hm hx hz=>by
  obtain ⟨n,hn,rfl⟩:=himg m hm
  rw [mF]
  exact hpar n hn hz
 refine ⟨⟨⟨by rw [AA]; exact h.ok.ln,fun m hm=>?_,hso,fun m hm=>?_⟩,?_,fun m hm=>?_,fun m hm _=>?_,hrk,.inl ⟨fun m hm hz=>?_,fun m hm=>?_⟩⟩,fun hb=>?_⟩
 · obtain ⟨n,hn,rfl⟩:=himg m hm
   rw [mF]; exact h.ok.ra n hn
 · obtain ⟨n,hn,rfl⟩:=himg m hm
   unfold mvN
   split
   · exact h.ok.pa y hy
   · exact h.ok.pa n hn
 · exact ⟨_,Am.2 ⟨y,hy,rfl⟩,(mF _ _ _).trans hyx⟩
 · obtain ⟨n,hn,rfl⟩:=himg m hm
   have:=h.ra n hn
   unfold mvN
   split <;> exact this
 · obtain ⟨n,hn,rfl⟩:=himg m hm
   exact hpas n hn
 · obtain ⟨n,hn,rfl⟩:=himg m hm
   rw [mF]
   exact hpar n hn hz
 · obtain ⟨n,hn,rfl⟩:=himg m hm
   exact hpas n hn
 · have hkm:mvN k.ID y.aa k∈N.map (mvN k.ID y.aa):=Am.2 ⟨k,hk,rfl⟩
   have e1:(mvN k.ID y.aa k).aa=y.aa:=by unfold mvN; rw [Ay rfl]
   have h1:=aCQ hso hkm (by rw [mF]; exact hkx) (by rw [mF]; exact hb)
   rw [e1] at h1
   have hyr:=h.ok.ra y hy
   by_cases hz:y.aa=0
   · rcases aDE h1 with e | ⟨m,hm,e⟩
     · omega
     · obtain ⟨n,hn,rfl⟩:=himg m hm
       rw [mF] at e
       have:=h.ok.ra n hn; omega
   · have h2:=hf1 y hy hz
     rw [hyx] at h2
     rcases aDD hrk h1 with e | e
     · rw [e] at h2; omega
     · omega
end Go.Fn
open Go Go.IL
namespace Go.Fn
structure BS (K:Int) (N:List Nd) (E:List Int):Prop where
 kp:0≤K∧K≤24
 ln:N.length≤24
 el:(E.length:Int)≤K
 so:N.Pairwise (fun a b=>a.ID<b.ID)
 ra:∀ n∈N,1≤n.ID∧n.ID≤1048576
 en:∀ n∈N,(n.af=true↔n.ID∈E)
 nd:E.Nodup
 es:∀ e∈E,∃ n∈N,n.ID=e
theorem FV.bs {K:Int} {st:Fs} (h:FV K st):BS K st.ai st.aj:=⟨h.kp.2,h.ln,h.el,h.so,fun n hn=>(h.ra n hn).1,h.en,h.nd,h.es⟩
theorem fv_hung {K:Int} {N:List Nd} {E:List Int} {g:Nd→Nd} (b:BS K N E) (h:Hung N g):FV K ⟨24,K,N.map g,E⟩:=by
 have himg:∀ m∈N.map g,∃ n∈N,m=g n:=fun m hm=>by
  obtain ⟨n,hn,e⟩:=Am.1 hm
  exact ⟨n,hn,e.symm⟩
 have hin:∀ p:Int,(∃ m∈N,m.ID=p)→∃ m∈N.map g,m.ID=p:=fun p ⟨m,hm,e⟩=>⟨_,Am.2 ⟨m,hm,rfl⟩,(h.id m).trans e⟩
 refine ⟨rfl,⟨rfl,b.kp⟩,by show (N.map g).length≤24; rw [AA]; exact b.ln,b.el,?_,fun m hm=>?_,fun m hm=>?_,h.rk,fun m hm=>?_,b.nd,fun e he=>hin e (b.es e he)⟩
 · show (N.map g).Pairwise _
   rw [Bm]
   exact b.so.imp (fun hab=>by rw [h.id,h.id]; exact hab)
 · obtain ⟨n,hn,rfl⟩:=himg m hm
   rw [h.id]
   exact ⟨b.ra n hn,h.ra n hn⟩
 · obtain ⟨n,hn,rfl⟩:=himg m hm
   exact (h.pa n hn).imp id (hin _)
 · obtain ⟨n,hn,rfl⟩:=himg m hm
   rw [h.id,h.cl]
   exact b.en n hn
end Go.Fn
open Go Go.IL
namespace Go.Fn
theorem aF1 {n:Int} (h0:0≤n) (h1:n≤255):∃ r,remI n 6=some r:=⟨_,rem_ok h0 (by decide)⟩
end Go.Fn
open List renaming countP_append → DI,countP_cons → Dw,countP_le_length → Dj,countP_singleton → DV,getElem?_cons_succ → CE,nodup_append → Cv
open _root_ renaming cond_false → FE
open Go Go.IL
namespace Go.Fn
abbrev AC:=aJ
abbrev AS:=bA
inductive mX (C:List AC):Int→List Nat→Prop
 | nil:mX C (-1) []
 | cons {a:Nat} {c:AC} {sp:List Nat} (h:C[a]? = some c) (hl:c.ag=false) (t:mX C c.ak sp):mX C (a:Int) (a::sp)
structure wI (A:AS) (sp:List Nat):Prop where
 len:A.Cells.length≤64
 odd:∀ c∈A.Cells,(c.ag=true→c.ak=0)∧(c.ag=false→c.ao=0)
 ch:mX A.Cells A.Free sp
 nd:sp.Nodup
 used:A.Used=(A.Cells.countP (fun c=>c.ag):Nat)
 all:A.Cells.countP (fun c=>c.ag)+sp.length=A.Cells.length
 cov:∀ (i:Nat) (c:AC),A.Cells[i]? = some c→c.ag=false→i∈sp
theorem mX.place {C:List AC}:∀ {a:Int} {sp:List Nat},mX C a sp → -1≤a∧a<(C.length:Int)∨a = -1
 | _,_,.nil=>.inr rfl
 | _,_,.cons h _ _=>.inl (by have:=(Ag.1 h).1; omega)
theorem mX.ok {C:List AC} {a:Int} {sp:List Nat} (h:mX C a sp) : -1≤a∧(a<(C.length:Int))∨a = -1:=h.place
theorem mX.lt {C:List AC} {a:Int} {sp:List Nat} (h:mX C a sp) (i:Nat) (hi:i∈sp):∃ c,C[i]? = some c∧c.ag=false∧∃ r,mX C c.ak r:=by
 induction h with
 | nil=>cases hi
 | @cons a c sp h hl t ih =>
   rcases Ax.1 hi with rfl | hi
   · exact ⟨c,h,hl,sp,t⟩
   · exact ih hi
theorem aET {A:AS} {n:Int} (h : -1≤n) (h2:n<(A.Cells.length:Int)):jA A n=some true:=by
 unfold jA
 rw [bndD,bndD,bndD,Ai h,Ai h2]; rfl
theorem aCf {A:AS} {n:Int} {sp:List Nat} (h:mX A.Cells n sp):jA A n=some true:=by
 cases h with
 | nil=>exact aET (by decide) (by omega)
 | cons h _ _=>have:=(Ag.1 h).1; exact aET (by omega) (by omega)
theorem aEB {A:AS} {sp:List Nat} (h:wI A sp) {i:Nat} {c:AC} (hc:A.Cells[i]? = some c):lE A c=some false:=by
 unfold lE
 cases hl:c.ag with
 | true =>
   rw [show ((!true) == true)=false from rfl,gdff,bnoS,bndD]; rfl
 | false =>
   obtain ⟨c',h1,_,r,h2⟩:=h.ch.lt i (h.cov i c hc hl)
   rw [hc] at h1
   injection h1 with h1
   subst h1
   rw [show ((!false) == true)=true from rfl,gdtt,aCf h2,bnoS,bndD]; rfl
theorem aEZ {A:AS} {sp:List Nat} (h:wI A sp) (r:List AC):∀ (p:List AC) (f:Nat),A.Cells=p++r→r.length<f→bQ A.Cells A f (p.length:Int)=some (-1):=by
 have hlen:=h.len
 induction r with
 | nil =>
   intro p f h1 hf
   obtain ⟨f,rfl⟩:∃ g,f=g+1:=⟨f-1,by simp at hf; omega⟩
   rw [AW] at h1
   rw [bQ,bndD,h1,rT,bT]
 | cons c r ih =>
   intro p f h1 hf
   obtain ⟨f,rfl⟩:∃ g,f=g+1:=⟨f-1,by simp at hf; omega⟩
   have hc:A.Cells[p.length]? = some c:=by rw [h1,Bu (AO _)]; simp
   rw [bQ,bndD,pG h1,cK,kM h1,bnoS,aEB h hc,bnoS,bT,bndD,w_at h1 (by omega)]
   exact ih (p++[c]) f (kV h1) (by simpa using hf)
theorem odd_no {A:AS} {sp:List Nat} (h:wI A sp) {c:AC} (hc:c∈A.Cells):rY c=some false:=by
 obtain ⟨h1,h2⟩:=h.odd c hc
 unfold rY
 cases hl:c.ag with
 | true=>rw [cK,bndD,h1 hl]; rfl
 | false=>rw [bT,bndD,h2 hl]; rfl
theorem noodd_L {A:AS} {sp:List Nat} (h:wI A sp) (r:List AC):∀ (p:List AC) (f:Nat),A.Cells=p++r→r.length<f→bY A.Cells f (p.length:Int)=some (-1):=by
 have hlen:=h.len
 induction r with
 | nil =>
   intro p f h1 hf
   obtain ⟨f,rfl⟩:∃ g,f=g+1:=⟨f-1,by simp at hf; omega⟩
   rw [AW] at h1
   rw [bY,bndD,h1,rT,bT]
 | cons c r ih =>
   intro p f h1 hf
   obtain ⟨f,rfl⟩:∃ g,f=g+1:=⟨f-1,by simp at hf; omega⟩
   rw [bY,bndD,pG h1,cK,kM h1,bnoS,odd_no h (by rw [h1]; simp),bnoS,bT,bndD,w_at h1 (by omega)]
   exact ih (p++[c]) f (kV h1) (by simpa using hf)
theorem aGU {l:List Int} (hl:l.length≤1000000) {v:Int} (r:List Int):∀ (p:List Int) (f:Nat),l=p++r→v ∉ r→r.length<f→dW l v f (p.length:Int)=some (-1):=by
 induction r with
 | nil =>
   intro p f h1 _ hf
   obtain ⟨f,rfl⟩:∃ g,f=g+1:=⟨f-1,by simp at hf; omega⟩
   rw [AW] at h1
   rw [dW,bndD,h1,rT,bT]
 | cons c r ih =>
   intro p f h1 hv hf
   obtain ⟨f,rfl⟩:∃ g,f=g+1:=⟨f-1,by simp at hf; omega⟩
   rw [dW,bndD,pG h1,cK,kM h1,bnoS,bndD,Ah (fun e=>hv (by simp [e])),bT,bndD,w_at h1 hl]
   exact ih (p++[c]) f (kV h1) (fun hm=>hv (by simp [hm])) (by simpa using hf)
theorem aCJ {l:List Int} (hl:l.length≤1000000) {v:Int} (hv:v ∉ l):cW l v=some false:=by
 unfold cW jM
 have h:=aGU hl l [] fuel rfl hv (eZ (by omega))
 have h:dW l v fuel 0=some (-1):=h
 rw [h,bnoS,bndD]; rfl
def toI (l:List Nat):List Int:=l.map fun (n:Nat)=>(n:Int)
theorem toI_mem {l:List Nat} {n:Nat}:(n:Int)∈toI l↔n∈l:=by
 unfold toI
 rw [Am]
 exact ⟨fun ⟨m,h1,h2⟩=>by rw [←Int.ofNat.inj h2]; exact h1,fun h=>⟨n,h,rfl⟩⟩
theorem chain_L {A:AS} (hlen:A.Cells.length≤64) {a:Int} {sp:List Nat} (h:mX A.Cells a sp):∀ (done:List Nat) (f:Nat),(done++sp).Nodup→done.length+sp.length≤64→sp.length<f→fX A f (toI done) a=some (toI (done++sp),true):=by
 induction h with
 | nil =>
   intro done f _ _ hf
   obtain ⟨f,rfl⟩:∃ g,f=g+1:=⟨f-1,by simp at hf; omega⟩
   rw [fX,bndD,Ai rfl,cK,AW]
 | @cons a c sp h hl t ih =>
   intro done f hn hd hf
   obtain ⟨f,rfl⟩:∃ g,f=g+1:=⟨f-1,by simp at hf; omega⟩
   have hnm:(a:Int) ∉ toI done:=fun hm=>by
    have h1:=toI_mem.1 hm
    have:=(Cv.1 hn).2.2 a h1 a (by simp)
    exact this rfl
   have hdl:(toI done).length=done.length:=by unfold toI; simp
   simp at hd
   rw [fX,bndD,Ah (by omega),bT,eA,h,bnoS,hl,BH,gdtt,aCJ (by omega) hnm,bnoS,bndD,Bool.or_self,bT,nW (by simp; omega) (by simp; omega),bnoS,bnoS]
   have:=ih (done++[a]) f (by simpa using hn) (by simp; omega) (by simp at hf; omega)
   rw [show toI (done++[a])=toI done++[(a:Int)] by unfold toI; simp] at this
   rw [this,AH]; rfl
theorem count_L {A:AS} {sp:List Nat} (h:wI A sp) (r:List AC):∀ (p:List AC) (f:Nat),A.Cells=p++r→r.length<f→jD A f (p.countP (fun c=>c.ag):Nat) (p.length:Int)=some 0:=by
 have hlen:=h.len
 induction r with
 | nil =>
   intro p f h1 hf
   obtain ⟨f,rfl⟩:∃ g,f=g+1:=⟨f-1,by simp at hf; omega⟩
   rw [AW] at h1
   have hspl:sp.length≤64:=by have:=h.all; omega
   have hch:mQ A=some (toI sp,true):=chain_L hlen h.ch [] fuel (by simpa using h.nd) (by simpa using hspl) (eZ (by omega))
   have hul:=h.used
   have hal:=h.all
   have htl:(toI sp).length=sp.length:=by unfold toI; simp
   have hw:Al .i64 (((A.Cells.countP (fun c=>c.ag):Nat):Int)+(((toI sp,true):List Int×Bool).1.length:Int))=((A.Cells.countP (fun c=>c.ag):Nat):Int)+((toI sp).length:Int):=w64 (show _≤((A.Cells.countP (fun c=>c.ag):Nat):Int)+((toI sp).length:Int) by omega) (show ((A.Cells.countP (fun c=>c.ag):Nat):Int)+((toI sp).length:Int)≤_ by omega)
   rw [←h1]
   rw [jD,bndD,rT,bT,hch,bnoS,bndD,Ai (show ((A.Cells.countP (fun c=>c.ag):Nat):Int)=A.Used from hul.symm),bndD,bndD,hw,bndD,bndD,Ai (show ((A.Cells.countP (fun c=>c.ag):Nat):Int)+((toI sp).length:Int)=(A.Cells.length:Int) by omega)]
   rfl
 | cons c r ih =>
   intro p f h1 hf
   obtain ⟨f,rfl⟩:∃ g,f=g+1:=⟨f-1,by simp at hf; omega⟩
   have hpc:p.countP (fun c=>c.ag)≤p.length:=Dj
   have hpl:p.length≤64:=by rw [h1] at hlen; simp at hlen; omega
   have:=ih (p++[c]) f (kV h1) (by simpa using hf)
   rw [DI,DV] at this
   rw [jD,bndD,pG h1,cK,kM h1,bnoS,bndD,bndD,bndD,w_at h1 (by omega),w64 (by omega) (by omega)]
   cases hl:c.ag with
   | true =>
     rw [hl] at this
     rw [cK]
     exact this
   | false =>
     rw [hl] at this
     rw [bT]
     exact this
theorem wT {A:AS} {sp:List Nat} (h:wI A sp):nG A=some 0:=by
 have hlen:=h.len
 have h1:=aEZ h A.Cells [] fuel rfl (eZ (by omega))
 have h2:=noodd_L h A.Cells [] fuel rfl (eZ (by omega))
 have h1:eB A.Cells A=some (-1):=h1
 have h2:eN A.Cells=some (-1):=h2
 unfold nG
 rw [bndD,Ah (by omega),bT,aCf h.ch,bnoS,AN,bT]
 unfold dR
 rw [h1,bnoS,bndD,show decide ((0:Int) ≤ -1)=false from rfl,bnoS]
 unfold mW eC
 rw [bT,h2,bnoS,bndD,show decide ((0:Int) ≤ -1)=false from rfl,bnoS,bT]
 exact count_L h A.Cells [] fuel rfl (eZ (by omega))
def nD:List AC→Nat→List Nat
 | [],_=>[]
 | c::r,i=>bif c.ag then i::nD r (i+1) else nD r (i+1)
theorem live_L {A:AS} (hlen:A.Cells.length≤64) (r:List AC):∀ (p:List AC) (acc:List Int) (f:Nat),A.Cells=p++r→r.length<f→acc.length≤p.length→jV A f acc (p.length:Int)=some (acc++toI (nD r p.length)):=by
 induction r with
 | nil =>
   intro p acc f h1 hf _
   obtain ⟨f,rfl⟩:∃ g,f=g+1:=⟨f-1,by simp at hf; omega⟩
   rw [AW] at h1
   rw [jV,bndD,h1,rT,bT]; simp [nD,toI]
 | cons c r ih =>
   intro p acc f h1 hf ha
   obtain ⟨f,rfl⟩:∃ g,f=g+1:=⟨f-1,by simp at hf; omega⟩
   have hpl:p.length≤64:=by rw [h1] at hlen; simp at hlen; omega
   rw [jV,bndD,pG h1,cK,kM h1,bnoS,bndD,w_at h1 (by omega)]
   show _=some (acc++toI (bif c.ag then p.length::nD r (p.length+1) else nD r (p.length+1)))
   cases hl:c.ag with
   | true =>
     rw [cK,cond_true,nW (by simp; omega) (by simp; omega),bnoS]
     rw [bndD,ih (p++[c]) _ f (kV h1) (by simpa using hf) (by simp; omega),AH,AX]; rfl
   | false =>
     rw [bT,FE,ih (p++[c]) _ f (kV h1) (by simpa using hf) (by simp; omega),AX]; rfl
theorem aEi {A:AS} {sp:List Nat} (h:wI A sp):pL A=some (toI (nD A.Cells 0)):=by
 unfold pL
 rw [wT h,bnoS,bndD,Ai rfl,AN,bT]
 have:=live_L h.len A.Cells [] [] fuel rfl (eZ (by have:=h.len; omega)) (AO _)
 exact this
theorem xZ:∀ {l:List AC} {i p:Nat},p∈nD l i↔i≤p∧∃ c,l[p-i]? = some c∧c.ag=true
 | [],i,p=>by simp [nD]
 | c :: r,i,p=>by
   have ih:=xZ (l:=r) (i:=i+1) (p:=p)
   have hstep:(i≤p∧∃ d,(c::r)[p-i]? = some d∧d.ag=true)↔(p=i∧c.ag=true)∨(i+1≤p∧∃ d,r[p-(i+1)]? = some d∧d.ag=true):=by
    constructor
    · rintro ⟨h1,d,h2,h3⟩
      by_cases hp:p=i
      · left
        rw [hp,FH] at h2
        injection h2 with h2
        exact ⟨hp,by rw [h2]; exact h3⟩
      · right
        rw [show p-i=(p-(i+1))+1 by omega,CE] at h2
        exact ⟨by omega,d,h2,h3⟩
    · rintro (⟨h1,h2⟩ | ⟨h1,d,h2,h3⟩)
      · exact ⟨by omega,c,by rw [h1,FH]; rfl,h2⟩
      · exact ⟨by omega,d,by rw [show p-i=(p-(i+1))+1 by omega,CE]; exact h2,h3⟩
   rw [hstep,←ih]
   show p∈(bif c.ag then i::nD r (i+1) else nD r (i+1))↔_
   cases hl:c.ag with
   | true=>rw [cond_true]; simp
   | false=>rw [FE]; simp
theorem tJ:∀ (l:List AC) (i:Nat),(nD l i).Nodup
 | [],_=>by simp [nD]
 | c :: r,i=>by
   have ih:=tJ r (i+1)
   show (bif c.ag then i::nD r (i+1) else nD r (i+1)).Nodup
   cases c.ag with
   | true =>
     rw [cond_true,Bo]
     exact ⟨fun hm=>by have:=(xZ.1 hm).1; omega,ih⟩
   | false=>rw [FE]; exact ih
theorem uC:∀ (l:List AC) (i:Nat),(nD l i).length=l.countP (fun c=>c.ag)
 | [],_=>rfl
 | c::r,i=>by
   have ih:=uC r (i+1)
   rw [Dw]
   show (bif c.ag then i::nD r (i+1) else nD r (i+1)).length=_
   cases c.ag with
   | true=>rw [cond_true,AZ,ih]; simp
   | false=>rw [FE,ih]; simp
end Go.Fn
open Bool renaming and_self → EC
open List renaming getD_eq_getElem?_getD → AB,getElem?_append_left → AK,getElem?_set_ne → AD,getElem?_set_self → Aw,length_set → Bv,mem_or_eq_of_mem_set → Dr,nil_append → BM
open Go Go.IL
namespace Go.Fn
theorem aGf {l:List AC} (h:l.length≤1000):eE l=some l:=by
 unfold eE
 rw [nW (by simp; omega) (by simp; omega),bnoS,BM,aAC (fun e=>by rw [e])]
theorem aEW {A:AS} (h:A.Cells.length≤64):kE A=some (A.Cells,A.Free,A.Used):=by
 unfold kE
 rw [aGf (by omega),bnoS]
theorem aBg {C:List AC} {i:Nat} {c c':AC} (h:C[i]? = some c):(C.set i c').countP (fun c=>c.ag)+(if c.ag=true then 1 else 0)=C.countP (fun c=>c.ag)+(if c'.ag=true then 1 else 0):=by
 obtain ⟨hlt,hg⟩:=Ag.1 h
 have e:C=C.take i++c::C.drop (i+1):=by
  conv=>lhs; rw [←AY i C]
  rw [Dq hlt,hg]
 have e2:C.set i c'=C.take i++c'::C.drop (i+1):=by
  conv=>lhs; rw [e]
  rw [Dg _ _ (by rw [Bk]; omega),Bk,show i-min i C.length=0 by omega]; rfl
 rw [e2]
 conv=>rhs; rw [e]
 simp only [DI,Dw]
 omega
theorem mX.set {C:List AC} {a:Int} {sp:List Nat} (h:mX C a sp) {p:Nat} (hp:p ∉ sp) (c:AC):mX (C.set p c) a sp:=by
 induction h with
 | nil=>exact .nil
 | @cons a d sp h hl t ih =>
   have hpa:p≠a:=fun e=>hp (by simp [e])
   exact .cons (by rw [AD hpa]; exact h) hl (ih (fun hm=>hp (by simp [hm])))
theorem mX.app {C:List AC} {a:Int} {sp:List Nat} (h:mX C a sp) (D:List AC):mX (C++D) a sp:=by
 induction h with
 | nil=>exact .nil
 | @cons a d sp h hl t ih =>
   exact .cons (by rw [AK (Ag.1 h).1]; exact h) hl ih
def qK (A:AS) (p:Nat):AS:=⟨A.Cells.set p ⟨false,0,A.Free⟩,(p:Int),A.Used-1⟩
theorem aEh {A:AS} {p:Nat} {c:AC} (hlen:A.Cells.length≤64) (h:A.Cells[p]? = some c) (hl:c.ag=true):lY A (p:Int)=some true:=by
 have hlt:=(Ag.1 h).1
 unfold lY
 rw [bndD,bndD,bndD,Ai (show (0:Int)≤(p:Int) by omega),Ai (show (p:Int)<(A.Cells.length:Int) by omega),EC,BH,gdtt,eA,h,bnoS,bndD,hl]; rfl
theorem give_ok {A:AS} {sp:List Nat} (h:wI A sp) {p:Nat} {c:AC} (hp:A.Cells[p]? = some c) (hl:c.ag=true):oG A (p:Int)=some (qK A p,0)∧wI (qK A p) (p::sp):=by
 have hlen:=h.len
 have hlt:=(Ag.1 hp).1
 have hcs:=aBg (c':=⟨false,0,A.Free⟩) hp
 rw [hl] at hcs
 have hcs:(A.Cells.set p ⟨false,0,A.Free⟩).countP (fun c=>c.ag)+1=A.Cells.countP (fun c=>c.ag):=by simpa using hcs
 have hu:=h.used
 have hal:=h.all
 have hnm:p ∉ sp:=fun hm=>by
  obtain ⟨c',h1,h2,_⟩:=h.ch.lt p hm
  rw [hp] at h1
  injection h1 with h1
  rw [h1,h2] at hl; cases hl
 refine ⟨?_,?_⟩
 · unfold oG
   rw [aEW hlen,bnoS,wT h,bnoS,bndD,Ai rfl,AN,bT,aEh hlen hp hl,bnoS,AN,bT,eA,hp,bnoS,Au,hp,bnoS,bndD,bndD]
   show some ((⟨A.Cells.set p ⟨false,0,A.Free⟩,(p:Int),Al .i64 (A.Used-1)⟩:AS),(0:Int))=_
   rw [w64 (by omega) (by omega)]; rfl
 · constructor
   · show (A.Cells.set p _).length≤64; rw [Bv]; exact hlen
   · intro d hd
     rcases Dr hd with hd | hd
     · exact h.odd d hd
     · rw [hd]; exact ⟨fun h=>(by cases h),fun _=>rfl⟩
   · exact .cons (c:=⟨false,0,A.Free⟩) (by show (A.Cells.set p _)[p]? = _; rw [Aw hlt]) rfl (h.ch.set hnm _)
   · exact Bo.2 ⟨hnm,h.nd⟩
   · show A.Used-1=((A.Cells.set p _).countP (fun c=>c.ag):Nat)
     omega
   · show (A.Cells.set p _).countP (fun c=>c.ag)+(p::sp).length=(A.Cells.set p _).length
     rw [Bv,AZ]; omega
   · intro i d hd hdl
     by_cases hip:p=i
     · subst hip; simp
     · have hd:(A.Cells.set p _)[i]? = some d:=hd
       rw [AD hip] at hd
       exact Br _ (h.cov i d hd hdl)
def takeS (A:AS) (v:Int):List Nat→AS
 | []=>⟨A.Cells++[⟨true,v,0⟩],A.Free,A.Used+1⟩
 | a::_=>⟨A.Cells.set a ⟨true,v,0⟩,(A.Cells.getD a default).ak,A.Used+1⟩
def takeP (A:AS):List Nat→Nat
 | []=>A.Cells.length
 | a::_=>a
theorem aEA {A:AS} {sp:List Nat} (h:wI A sp) (v:Int) (hu:A.Used<64):oF A v=some (takeS A v sp,(takeP A sp:Int),0)∧wI (takeS A v sp) sp.tail∧(takeS A v sp).Cells[takeP A sp]? = some ⟨true,v,0⟩∧(∀ i,i≠takeP A sp→(takeS A v sp).Cells[i]? = A.Cells[i]?)∧(∀ c,A.Cells[takeP A sp]? = some c→c.ag=false)∧takeP A sp<64:=by
 have hlen:=h.len
 have hus:=h.used
 have hal:=h.all
 cases sp with
 | nil =>
   have hfree:A.Free = -1:=by
    have hch:=h.ch
    generalize A.Free=F at hch
    cases hch; rfl
   have hal:A.Cells.countP (fun c=>c.ag)=A.Cells.length:=by simpa using hal
   have hl64:A.Cells.length<64:=by omega
   refine ⟨?_,?_,?_,?_,?_,?_⟩
   · unfold oF
     rw [aEW hlen,bnoS,wT h,bnoS,bndD,Ai rfl,AN,bT,bndD,Ah (by omega),bT,bndD,bndD]
     show (bif decide (A.Free = -1) then _ else _)=_
     rw [Ai hfree,cK]
     show (bno (app 24 A.Cells [(⟨true,v,0⟩:AC)]) fun x10=>some ((⟨x10,A.Free,Al .i64 (A.Used+1)⟩:AS),(A.Cells.length:Int),(0:Int)))=_
     rw [nW (by simp; omega) (by simp; omega),bnoS,w64 (by omega) (by omega)]; rfl
   · constructor
     · show (A.Cells++[_]).length≤64; simp; omega
     · intro d hd
       rcases AM.1 hd with hd | hd
       · exact h.odd d hd
       · rw [Bx.1 hd]; exact ⟨fun _=>rfl,fun h=>(by cases h)⟩
     · exact h.ch.app _
     · exact h.nd
     · show A.Used+1=((A.Cells++[(⟨true,v,0⟩:AC)]).countP (fun c=>c.ag):Nat)
       rw [DI,DV]; simp; omega
     · show (A.Cells++[(⟨true,v,0⟩:AC)]).countP (fun c=>c.ag)+0=(A.Cells++[(⟨true,v,0⟩:AC)]).length
       rw [DI,DV,AX,hal]; simp
     · intro i d hd hdl
       have hd:(A.Cells++[(⟨true,v,0⟩:AC)])[i]? = some d:=hd
       by_cases hi:i<A.Cells.length
       · rw [AK hi] at hd
         exact h.cov i d hd hdl
       · rw [Bu (by omega)] at hd
         have:=Dl hd
         rw [Bx.1 this] at hdl; cases hdl
   · show (A.Cells++[_])[A.Cells.length]? = _
     rw [Bu (AO _)]; simp
   · intro i hi
     show (A.Cells++[_])[i]? = _
     have hi:i≠A.Cells.length:=hi
     by_cases hlt:i<A.Cells.length
     · rw [AK hlt]
     · rw [Cd (by simp; omega),Cd (by omega)]
   · intro c hc
     have hc:A.Cells[A.Cells.length]? = some c:=hc
     simp at hc
   · exact hl64
 | cons a sp =>
   have hch:=h.ch
   generalize hF:A.Free=F at hch
   cases hch with
   | @cons _ c _ hc hcl t =>
     have hlt:=(Ag.1 hc).1
     have hgd:A.Cells.getD a default=c:=by rw [AB,hc]; rfl
     have hcs:=aBg (c':=⟨true,v,0⟩) hc
     rw [hcl] at hcs
     have hcs:(A.Cells.set a ⟨true,v,0⟩).countP (fun c=>c.ag)=A.Cells.countP (fun c=>c.ag)+1:=by simpa using hcs
     have hnd:=Bo.1 h.nd
     simp at hal
     refine ⟨?_,?_,?_,?_,?_,?_⟩
     · unfold oF
       rw [aEW hlen,bnoS,wT h,bnoS,bndD,Ai rfl,AN,bT,bndD,Ah (by omega),bT,bndD,bndD]
       show (bif decide (A.Free = -1) then _ else _)=_
       rw [hF,Ah (by omega),bT,eA,hc,bnoS,Au,hc,bnoS,bnoS,bnoS,bndD]
       show some ((⟨A.Cells.set a ⟨true,v,0⟩,c.ak,Al .i64 (A.Used+1)⟩:AS),(a:Int),(0:Int))=some ((⟨A.Cells.set a ⟨true,v,0⟩,(A.Cells.getD a default).ak,A.Used+1⟩:AS),(a:Int),0)
       rw [w64 (by omega) (by omega),hgd]
     · constructor
       · show (A.Cells.set a _).length≤64; rw [Bv]; exact hlen
       · intro d hd
         rcases Dr hd with hd | hd
         · exact h.odd d hd
         · rw [hd]; exact ⟨fun _=>rfl,fun h=>(by cases h)⟩
       · show mX (A.Cells.set a _) (A.Cells.getD a default).ak sp
         rw [hgd]; exact t.set hnd.1 _
       · exact hnd.2
       · show A.Used+1=((A.Cells.set a _).countP (fun c=>c.ag):Nat)
         omega
       · show (A.Cells.set a _).countP (fun c=>c.ag)+sp.length=(A.Cells.set a _).length
         rw [Bv]; omega
       · intro i d hd hdl
         have hd:(A.Cells.set a _)[i]? = some d:=hd
         by_cases hia:a=i
         · subst hia
           rw [Aw hlt] at hd
           injection hd with hd
           rw [←hd] at hdl; cases hdl
         · rw [AD hia] at hd
           exact (Ax.1 (h.cov i d hd hdl)).resolve_left (fun e=>hia e.symm)
     · show (A.Cells.set a _)[a]? = _
       rw [Aw hlt]
     · intro i hi
       have hi:i≠a:=hi
       show (A.Cells.set a _)[i]? = _
       rw [AD (fun e=>hi e.symm)]
     · intro d hd
       have hd:A.Cells[a]? = some d:=hd
       rw [hc] at hd
       injection hd with hd
       rw [←hd]; exact hcl
     · show a<64; omega
end Go.Fn
open List renaming erase_cons_head → DY,getLast?_cons_cons → EE,mem_of_mem_erase → DW
open Go Go.IL
namespace Go.Fn
abbrev Nk:=aI
def jR (ns:List Nk):Int→List Nat→Prop
 | a,[]=>a = -1
 | a,p::l=>a=(p:Int)∧∃ n,ns[p]? = some n∧jR ns n.next l
theorem jR.same {ns ns':List Nk}:∀ {l:List Nat} {a:Int},(∀ q∈l,∀ n,ns[q]? = some n→∃ n',ns'[q]? = some n'∧n'.next=n.next)→jR ns a l→jR ns' a l
 | [],_,_,h=>h
 | p::l,a,hs,⟨h1,n,h2,h3⟩=>by
   obtain ⟨n',g1,g2⟩:=hs p (by simp) n h2
   exact ⟨h1,n',g1,by rw [g2]; exact h3.same fun q hq=>hs q (by simp [hq])⟩
theorem jR.other {ns:List Nk} {a:Int} {l:List Nat} (h:jR ns a l) {p:Nat} (hp:p ∉ l) (n:Nk):jR (ns.set p n) a l :=
 h.same fun q hq m hm=>⟨m,by rw [AD (show p≠q from fun e=>hp (by rw [e]; exact hq))]; exact hm,rfl⟩
theorem jR.keep {ns:List Nk} {p:Nat} {n n':Nk} (hp:ns[p]? = some n) (hn:n'.next=n.next) {a:Int} {l:List Nat} (h:jR ns a l):jR (ns.set p n') a l:=by
 refine h.same fun q hq m hm=>?_
 by_cases e:p=q
 · subst e
   rw [hp] at hm
   injection hm with hm
   exact ⟨n',by rw [Aw (Ag.1 hp).1],by rw [←hm]; exact hn⟩
 · exact ⟨m,by rw [AD e]; exact hm,rfl⟩
theorem jR.mem {ns:List Nk}:∀ {l:List Nat} {a:Int},jR ns a l→∀ p∈l,∃ n,ns[p]? = some n
 | q::l,a,⟨_,n,h2,h3⟩,p,hp=>by
   rcases Ax.1 hp with rfl | hp
   · exact ⟨n,h2⟩
   · exact h3.mem p hp
theorem jR.cut {ns:List Nk} {p q:Nat} {np nq:Nk} (hp:ns[p]? = some np) (hq:ns[q]? = some nq) {l2:List Nat}:∀ {l1:List Nat} {a:Int},jR ns a (l1++q::p::l2)→(l1++q::p::l2).Nodup →
 jR (ns.set q { nq with next:=np.next }) a (l1++q::l2)
 | [],a,⟨h1,n,h2,h3,m,h4,h5⟩,hnd=>by
   rw [hp] at h4
   injection h4 with h4
   subst h4
   have hnd:(q::p::l2).Nodup:=hnd
   have hq2:q ∉ l2:=fun hm=>(Bo.1 hnd).1 (by simp [hm])
   exact ⟨h1,{ nq with next:=np.next },by rw [Aw (Ag.1 hq).1],h5.other hq2 _⟩
 | b::l1,a,⟨h1,n,h2,h3⟩,hnd=>by
   have hnd:(b::(l1++q::p::l2)).Nodup:=hnd
   have hbq:q≠b:=fun e=>(Bo.1 hnd).1 (by simp [e])
   exact ⟨h1,n,by rw [AD hbq]; exact h2,jR.cut hp hq h3 (Bo.1 hnd).2⟩
theorem seek {ns:List Nk} (hlen:ns.length=64) {p:Nat} {room keep:Int} {C:List AC} {F U first:Int} {cl:List Int} {np:Nk} (hp:ns[p]? = some np) {l2:List Nat}:∀ (l1:List Nat) (q:Nat) (nq:Nk) (f:Nat),ns[q]? = some nq→jR ns nq.next (l1++p::l2)→p ∉ l1→l1.length<f →
 ∃ (r:Nat) (nr:Nk),(q::l1).getLast? = some r∧ns[r]? = some nr∧fE (p:Int) room keep C F U ns first cl f q=some (room,keep,C,F,U,ns.set r { nr with next:=np.next },first,cl)
 | [],q,nq,f+1,hq,h,_,_=>by
   obtain ⟨h1,_⟩:=h
   refine ⟨q,nq,rfl,hq,?_⟩
   rw [fE,hq,bnoS,bndD,Ai h1,AN,bT,eA,hp,bnoS,Au,hp,bnoS,bnoS,bndD]
 | b::l1,q,nq,f+1,hq,⟨h1,nb,h2,h3⟩,hn,hf=>by
   have hpb:p≠b:=fun e=>hn (by simp [e])
   obtain ⟨r,nr,g1,g2,g3⟩:=seek hlen hp l1 b nb f h2 h3 (fun hm=>hn (by simp [hm])) (by simpa using hf)
   refine ⟨r,nr,by rw [EE]; exact g1,g2,?_⟩
   rw [fE,hq,bnoS,bndD,h1,Ah (show ¬(b:Int)=(p:Int) by omega),AT,cK,bnoS,h1,eA,h2,bnoS,Au]
   exact g3
theorem seek1 {ns:List Nk} (hlen:ns.length=64) {p:Nat} {room keep:Int} {C:List AC} {F U first:Int} {cl:List Int} {np:Nk} (hp:ns[p]? = some np) {l2:List Nat}:∀ (l1:List Nat) (q:Nat) (nq:Nk) (f:Nat),ns[q]? = some nq→jR ns nq.next (l1++p::l2)→p ∉ l1→l1.length<f →
 ∃ (r:Nat) (nr:Nk),(q::l1).getLast? = some r∧ns[r]? = some nr∧fD (p:Int) room keep C F U ns first cl f q=some (room,keep,C,F,U,ns.set r { nr with next:=np.next },first,cl)
 | [],q,nq,f+1,hq,h,_,_=>by
   obtain ⟨h1,_⟩:=h
   refine ⟨q,nq,rfl,hq,?_⟩
   rw [fD,hq,bnoS,bndD,Ai h1,AN,bT,eA,hp,bnoS,Au,hp,bnoS,bnoS,bndD]
 | b::l1,q,nq,f+1,hq,⟨h1,nb,h2,h3⟩,hn,hf=>by
   have hpb:p≠b:=fun e=>hn (by simp [e])
   obtain ⟨r,nr,g1,g2,g3⟩:=seek1 hlen hp l1 b nb f h2 h3 (fun hm=>hn (by simp [hm])) (by simpa using hf)
   refine ⟨r,nr,by rw [EE]; exact g1,g2,?_⟩
   rw [fD,hq,bnoS,bndD,h1,Ah (show ¬(b:Int)=(p:Int) by omega),AT,cK,bnoS,h1,eA,h2,bnoS,Au]
   exact g3
def upI:Option Nat→Int
 | none=>-1
 | some p=>(p:Int)
def nZ (ns:List Nk) (first:Int):Af Nat→Int
 | none=>first
 | some p=>(ns.getD p default).first
theorem mL {ns:List Nk} {first:Int} {p:Nat} {n:Nk} (h:ns[p]? = some n):nZ ns first (some p)=n.first:=by
 show (ns.getD p default).first=_
 rw [AB,h]; rfl
structure Lk (ns:List Nk) (first:Int) (hd:Af Nat→Prop) (kids:Af Nat→List Nat):Prop where
 ch:∀ u,hd u→jR ns (nZ ns first u) (kids u)
 nd:∀ u,hd u→(kids u).Nodup
 dj:∀ u v p,hd u→hd v→p∈kids u→p∈kids v→u=v
 at':∀ p,hd (some p)→∃ n,ns[p]? = some n
def aAG (n:Nk):Int×Int×Int×Bool:=(n.id,n.up,n.weight,n.closed)
def oA (ns:List Nk) (q:Nat):Af (Int×Int×Int×Bool):=(ns[q]?).map aAG
theorem tP {ns:List Nk} {p:Nat} {n n':Nk} (hp:ns[p]? = some n) (hv:aAG n'=aAG n) (q:Nat):oA (ns.set p n') q=oA ns q:=by
 unfold oA
 by_cases e:p=q
 · subst e
   rw [Aw (Ag.1 hp).1,hp]
   show some (aAG n')=some (aAG n)
   rw [hv]
 · rw [AD e]
def pI (kids:Af Nat→List Nat) (u:Af Nat) (p:Nat):Af Nat→List Nat:=fun v=>if v=u then (kids u).erase p else kids v
theorem aFS {l1 l2:List Nat} {p:Nat} (h:p ∉ l1):(l1++p::l2).erase p=l1++l2:=by
 rw [List.erase_append_right _ h,DY]
theorem aEE {l:List Nat} {p:Nat} (h:p∈l) (hn:l.Nodup):∃ l1 l2,l=l1++p::l2∧p ∉ l1:=by
 obtain ⟨l1,l2,rfl⟩:=Df h
 exact ⟨l1,l2,rfl,fun hm=>(Cv.1 hn).2.2 p hm p (by simp) rfl⟩
theorem zT {l:List Nat} {r:Nat} (h:l.getLast? = some r):∃ m,l=m++[r]:=by
 obtain ⟨m,hm⟩:=List.getLast?_eq_some_iff.1 h
 exact ⟨m,hm⟩
theorem Lk.skip {ns:List Nk} {first:Int} {hd:Af Nat→Prop} {kids:Af Nat→List Nat} (h:Lk ns first hd kids) {u:Af Nat} (hu:hd u) {p r:Nat} {np nr:Nk} {m l2:List Nat} (hk:kids u=m++r::p::l2) (hp:ns[p]? = some np) (hr:ns[r]? = some nr) :
 Lk (ns.set r { nr with next:=np.next }) first hd (pI kids u p):=by
 have hnd:=h.nd u hu
 rw [hk] at hnd
 have hpm:p ∉ m++[r]:=fun hm=>by
  have:(m++[r]++p::l2).Nodup:=by simpa using hnd
  exact (Cv.1 this).2.2 p hm p (by simp) rfl
 have her:(kids u).erase p=m++r::l2:=by
  rw [hk,show m++r::p::l2=(m++[r])++p::l2 by simp,aFS hpm]; simp
 have hf:∀ v,nZ (ns.set r { nr with next:=np.next }) first v=nZ ns first v:=fun v=>by
  cases v with
  | none=>rfl
  | some q =>
    show ((ns.set r _).getD q default).first=(ns.getD q default).first
    rw [AB,AB]
    by_cases e:r=q
    · subst e
      rw [Aw (Ag.1 hr).1,hr]; rfl
    · rw [AD e]
 have hsub:∀ v q,q∈pI kids u p v→q∈kids v:=fun v q hq=>by
  unfold pI at hq
  split at hq
  · rename_i e; rw [e]; exact DW hq
  · exact hq
 refine ⟨fun v hv=>?_,fun v hv=>?_,fun v w q hv hw h1 h2=>h.dj v w q hv hw (hsub v q h1) (hsub w q h2),fun q hq=>?_⟩
 · rw [hf]
   have hc:=h.ch v hv
   unfold pI
   by_cases e:v=u
   · rw [Ay e,her]
     rw [e,hk] at hc
     rw [e]
     exact hc.cut hp hr hnd
   · rw [Aq e]
     refine hc.other (fun hm=>e ?_) _
     exact h.dj v u r hv hu hm (by rw [hk]; simp)
 · unfold pI
   split
   · exact (h.nd u hu).erase p
   · exact h.nd v hv
 · obtain ⟨n,hn⟩:=h.at' q hq
   by_cases e:r=q
   · subst e
     exact ⟨_,Aw (Ag.1 hr).1⟩
   · exact ⟨n,by rw [AD e]; exact hn⟩
end Go.Fn
open List renaming mem_range → DR,range → By,set_set → Ep
open Go Go.IL
namespace Go.Fn
theorem xU {α:Type} [DecidableEq α]:∀ {l m:List α},l.Nodup→(∀ x∈l,x∈m)→l.length≤m.length
 | [],_,_,_=>CO _
 | x::l,m,hn,hs=>by
   have hn:=Bo.1 hn
   have hx:=hs x (by simp)
   have:=xU (l:=l) (m:=m.erase x) hn.2 (fun y hy=>(EY (by rintro rfl; exact hn.1 hy)).2 (hs y (by simp [hy])))
   rw [Ez hx] at this
   have:0<m.length:=DL hx
   rw [AZ]; omega
theorem aGB {l:List Nat} {n:Nat} (hn:l.Nodup) (h:∀ p∈l,p<n):l.length≤n:=by
 have:=xU (m:=By n) hn (fun p hp=>DR.2 (h p hp))
 rwa [List.length_range] at this
theorem Lk.size {ns:List Nk} {first:Int} {hd:Af Nat→Prop} {kids:Af Nat→List Nat} (hlen:ns.length=64) (h:Lk ns first hd kids) {u:Af Nat} (hu:hd u):(kids u).length≤64 :=
 aGB (h.nd u hu) fun p hp=>by
  obtain ⟨n,hn⟩:=(h.ch u hu).mem p hp
  have:=(Ag.1 hn).1
  omega
theorem Lk.behead0 {ns:List Nk} {first:Int} {hd:Af Nat→Prop} {kids:Af Nat→List Nat} (h:Lk ns first hd kids) (hu:hd none) {p:Nat} {np:Nk} {l2:List Nat} (hk:kids none=p::l2) (hp:ns[p]? = some np):Lk ns np.next hd (pI kids none p):=by
 have her:(kids none).erase p=l2:=by rw [hk,DY]
 have hsub:∀ v q,q∈pI kids none p v→q∈kids v:=fun v q hq=>by
  unfold pI at hq
  split at hq
  · rename_i e; rw [e]; exact DW hq
  · exact hq
 refine ⟨fun v hv=>?_,fun v hv=>?_,fun v w q hv hw h1 h2=>h.dj v w q hv hw (hsub v q h1) (hsub w q h2),h.at'⟩
 · have hc:=h.ch v hv
   unfold pI
   cases v with
   | none =>
     rw [Ay rfl,her]
     rw [hk] at hc
     obtain ⟨_,n,h2,h3⟩:=hc
     rw [hp] at h2
     injection h2 with h2
     rw [h2]; exact h3
   | some q=>rw [Aq (by simp)]; exact hc
 · unfold pI
   split
   · exact (h.nd none hu).erase p
   · exact h.nd v hv
theorem Lk.behead1 {ns:List Nk} {first:Int} {hd:Af Nat→Prop} {kids:Af Nat→List Nat} (h:Lk ns first hd kids) {q:Nat} (hu:hd (some q)) {p:Nat} {np nq:Nk} {l2:List Nat} (hk:kids (some q)=p::l2) (hp:ns[p]? = some np) (hq:ns[q]? = some nq) :
 Lk (ns.set q { nq with first:=np.next }) first hd (pI kids (some q) p):=by
 have her:(kids (some q)).erase p=l2:=by rw [hk,DY]
 have hlt:=(Ag.1 hq).1
 have hsub:∀ v r,r∈pI kids (some q) p v→r∈kids v:=fun v r hr=>by
  unfold pI at hr
  split at hr
  · rename_i e; rw [e]; exact DW hr
  · exact hr
 refine ⟨fun v hv=>?_,fun v hv=>?_,fun v w r hv hw h1 h2=>h.dj v w r hv hw (hsub v r h1) (hsub w r h2),fun r hr=>?_⟩
 · have hc:=h.ch v hv
   unfold pI
   by_cases e:v=some q
   · subst e
     rw [Ay rfl,her,mL (n:={ nq with first:=np.next }) (by rw [Aw hlt])]
     rw [hk] at hc
     obtain ⟨_,n,h2,h3⟩:=hc
     rw [hp] at h2
     injection h2 with h2
     refine jR.keep hq (by rfl) ?_
     rw [h2]; exact h3
   · rw [Aq e]
     have hf:nZ (ns.set q { nq with first:=np.next }) first v=nZ ns first v:=by
      cases v with
      | none=>rfl
      | some r =>
        show ((ns.set q _).getD r default).first=(ns.getD r default).first
        rw [AB,AB,AD (fun h=>e (by rw [h]))]
     rw [hf]
     exact hc.keep hq (by rfl)
 · unfold pI
   split
   · exact (h.nd (some q) hu).erase p
   · exact h.nd v hv
 · obtain ⟨n,hn⟩:=h.at' r hr
   by_cases e:q=r
   · subst e
     exact ⟨_,Aw hlt⟩
   · exact ⟨n,by rw [AD e]; exact hn⟩
theorem aA3 {ns:List Nk} {first:Int} {hd:Af Nat→Prop} {kids:Af Nat→List Nat} (hlen:ns.length=64) (h:Lk ns first hd kids) {u:Af Nat} (hu:hd u) {p:Nat} {np:Nk} (hp:ns[p]? = some np) (hup:np.up=upI u) (hm:p∈kids u)
 (room keep:Int) (C:List AC) (F U:Int) (cl:List Int):∃ ns' first',hD (p:Int) room keep C F U ns first cl=some (room,keep,C,F,U,ns',first',cl)∧ns'.length=64∧Lk ns' first' hd (pI kids u p)∧∀ q,oA ns' q=oA ns q:=by
 have hsz:=h.size hlen hu
 obtain ⟨l1,l2,hk,hn⟩:=aEE hm (h.nd u hu)
 have hc:=h.ch u hu
 rw [hk] at hc
 have hl1:l1.length≤64:=by rw [hk] at hsz; simp at hsz; omega
 unfold hD
 rw [eA,hp,bnoS,chk,Ay hlen,Au,hp,bnoS,bndD,hup]
 cases u with
 | none =>
   rw [show decide (upI none = -1)=true from rfl,cK,bndD]
   cases l1 with
   | nil =>
     obtain ⟨h1,_⟩:=hc
     have h1:first=(p:Int):=h1
     rw [Ai h1,AN,bT,bnoS,bnoS]
     exact ⟨ns,np.next,rfl,hlen,h.behead0 hu hk hp,fun q=>rfl⟩
   | cons b l1 =>
     obtain ⟨h1,nb,h2,h3⟩:=hc
     have h1:first=(b:Int):=h1
     have hpb:p≠b:=fun e=>hn (by simp [e])
     rw [h1,Ah (show ¬(b:Int)=(p:Int) by omega),AT,cK,eA,h2,bnoS,Au]
     obtain ⟨r,nr,g1,g2,g3⟩:=seek hlen (room:=room) (keep:=keep) (C:=C) (F:=F) (U:=U) (first:=(b:Int)) (cl:=cl) hp l1 b nb fuel h2 h3 (fun hm=>hn (by simp [hm])) (eZ (by simp at hl1; omega))
     obtain ⟨m,hmm⟩:=zT g1
     refine ⟨ns.set r { nr with next:=np.next },(b:Int),g3,by rw [Bv]; exact hlen,?_,tP g2 (by rfl)⟩
     rw [←h1]
     exact h.skip hu (m:=m) (l2:=l2) (by rw [hk,hmm]; simp) hp g2
 | some q =>
   obtain ⟨nq,hq⟩:=h.at' q hu
   have hqi:decide (upI (some q) = -1)=false:=Ah (show ¬(q:Int) = -1 by omega)
   have hfq:nZ ns first (some q)=nq.first:=mL hq
   rw [hfq] at hc
   rw [hqi,bT,show upI (some q)=(q:Int) from rfl,eA,hq,bnoS,Au,hq,bnoS,bndD]
   cases l1 with
   | nil =>
     obtain ⟨h1,_⟩:=hc
     rw [Ai h1,AN,bT,bnoS,bnoS,bnoS,bndD]
     exact ⟨_,first,rfl,by rw [Bv]; exact hlen,h.behead1 hu hk hp hq,tP hq (by rfl)⟩
   | cons b l1 =>
     obtain ⟨h1,nb,h2,h3⟩:=hc
     have hpb:p≠b:=fun e=>hn (by simp [e])
     rw [h1,Ah (show ¬(b:Int)=(p:Int) by omega),AT,cK,bnoS,h1,eA,h2,bnoS,Au]
     obtain ⟨r,nr,g1,g2,g3⟩:=seek1 hlen (room:=room) (keep:=keep) (C:=C) (F:=F) (U:=U) (first:=first) (cl:=cl) hp l1 b nb fuel h2 h3 (fun hm=>hn (by simp [hm])) (eZ (by simp at hl1; omega))
     obtain ⟨m,hmm⟩:=zT g1
     exact ⟨ns.set r { nr with next:=np.next },first,g3,by rw [Bv]; exact hlen,h.skip hu (m:=m) (l2:=l2) (by rw [hk,hmm]; simp) hp g2,tP g2 (by rfl)⟩
def sX (kids:Af Nat→List Nat) (u:Af Nat) (p:Nat):Af Nat→List Nat:=fun v=>if v=u then p::kids u else kids v
theorem aES {ns:List Nk} {first:Int} {hd:Af Nat→Prop} {kids:Af Nat→List Nat} (h:Lk ns first hd kids) {u:Af Nat} (hu:hd u) {p:Nat} (hp:∀ v,hd v→p ∉ kids v):∀ v w r,hd v→hd w→r∈sX kids u p v→r∈sX kids u p w→v=w:=by
 have key:∀ v r,r∈sX kids u p v→(v=u∧r=p)∨r∈kids v:=fun v r hr=>by
  unfold sX at hr
  split at hr
  · rename_i e
    rcases Ax.1 hr with hr | hr
    · exact .inl ⟨e,hr⟩
    · exact .inr (by rw [e]; exact hr)
  · exact .inr hr
 intro v w r hv hw h1 h2
 rcases key v r h1 with ⟨a1,a2⟩ | a
 · rcases key w r h2 with ⟨b1,b2⟩ | b
   · rw [a1,b1]
   · exact AI (a2 ▸ b) (hp w hw)
 · rcases key w r h2 with ⟨b1,b2⟩ | b
   · exact AI (b2 ▸ a) (hp v hv)
   · exact h.dj v w r hv hw a b
theorem aER {ns:List Nk} {first:Int} {hd:Af Nat→Prop} {kids:Af Nat→List Nat} (h:Lk ns first hd kids) {u:Af Nat} (hu:hd u) {p:Nat} (hp:∀ v,hd v→p ∉ kids v):∀ v,hd v→(sX kids u p v).Nodup:=by
 intro v hv
 unfold sX
 split
 · exact Bo.2 ⟨hp u hu,h.nd u hu⟩
 · exact h.nd v hv
def seenUp (ns ns':List Nk) (p:Nat) (u:Af Nat):Prop:=(∀ q,q≠p→oA ns' q=oA ns q)∧∀ n,ns[p]? = some n→oA ns' p=some (n.id,upI u,n.weight,n.closed)
theorem aE9 {ns:List Nk} {first:Int} {hd:Af Nat→Prop} {kids:Af Nat→List Nat} (hlen:ns.length=64) (h:Lk ns first hd kids) {u:Af Nat} (hu:hd u) {p:Nat} {np:Nk} (hp:ns[p]? = some np) (hpk:∀ v,hd v→p ∉ kids v) (hpu:u≠some p)
 (room keep:Int) (C:List AC) (F U:Int) (cl:List Int):∃ ns' first',gN (p:Int) (upI u) room keep C F U ns first cl=some (room,keep,C,F,U,ns',first',cl)∧ns'.length=64∧Lk ns' first' hd (sX kids u p)∧seenUp ns ns' p u:=by
 have hlt:=(Ag.1 hp).1
 unfold gN
 rw [bndD]
 cases u with
 | none =>
   rw [show decide (upI none = -1)=true from rfl,cK,chk,Ay hlen,eA,hp,bnoS,Au,hp,bnoS,bndD,eA,Aw hlt,bnoS,bnoS,bndD,Ep]
   refine ⟨_,_,rfl,by rw [Bv]; exact hlen,?_,?_⟩
   · have hoth:∀ (n:Nk) v,hd v→jR (ns.set p n) (nZ ns first v) (kids v):=fun n v hv=>(h.ch v hv).other (hpk v hv) n
     refine ⟨fun v hv=>?_,aER h hu hpk,aES h hu hpk,fun q hq=>?_⟩
     · unfold sX
       cases v with
       | none =>
         rw [Ay rfl]
         exact ⟨rfl,_,Aw hlt,hoth _ none hv⟩
       | some q =>
         rw [Aq (by simp)]
         have hf:nZ (ns.set p (⟨np.id,upI none,np.first,first,np.weight,np.closed⟩:Nk)) (p:Int) (some q)=nZ ns first (some q):=by
          show ((ns.set p _).getD q default).first=(ns.getD q default).first
          rw [AB,AB]
          by_cases e:p=q
          · subst e; rw [Aw hlt,hp]; rfl
          · rw [AD e]
         rw [hf]
         exact hoth _ (some q) hv
     · obtain ⟨n,hn⟩:=h.at' q hq
       by_cases e:p=q
       · subst e; exact ⟨_,Aw hlt⟩
       · exact ⟨n,by rw [AD e]; exact hn⟩
   · refine ⟨fun q hq=>?_,fun n hn=>?_⟩
     · unfold oA; rw [AD (fun e=>hq e.symm)]
     · rw [hp] at hn
       injection hn with hn
       subst hn
       unfold oA; rw [Aw hlt]; rfl
 | some q =>
   have hqp:q≠p:=fun e=>hpu (by rw [e])
   obtain ⟨nq,hq⟩:=h.at' q hu
   have hltq:=(Ag.1 hq).1
   have hq2:∀ n:Nk,(ns.set p n)[q]? = some nq:=fun n=>by rw [AD (fun e=>hqp e.symm)]; exact hq
   rw [Ah (show ¬upI (some q) = -1 from fun e=>by have:(q:Int) = -1:=e; omega),bT,show upI (some q)=(q:Int) from rfl,eA,hq,bnoS,chk,Ay hlen,Au,hq,bnoS,eA,hp,bnoS,Au,hp,bnoS,bndD,eA,Aw hlt,bnoS,bnoS,bndD,Ep,hq2,bnoS,bndD]
   refine ⟨_,_,rfl,by rw [Bv,Bv]; exact hlen,?_,?_⟩
   · refine ⟨fun v hv=>?_,aER h hu hpk,aES h hu hpk,fun r hr=>?_⟩
     · have hc:∀ (n:Nk),jR (ns.set p n) (nZ ns first v) (kids v):=fun n=>(h.ch v hv).other (hpk v hv) n
       unfold sX
       by_cases e:v=some q
       · subst e
         rw [Ay rfl,mL (Aw (by rw [Bv]; exact hltq))]
         refine ⟨rfl,_,by rw [AD hqp,Aw hlt],?_⟩
         refine jR.keep (hq2 _) (by rfl) ?_
         have:=hc (⟨np.id,(q:Int),np.first,nq.first,np.weight,np.closed⟩:Nk)
         rw [mL hq] at this
         exact this
       · rw [Aq e]
         have hf:nZ ((ns.set p (⟨np.id,(q:Int),np.first,nq.first,np.weight,np.closed⟩:Nk)).set q (⟨nq.id,nq.up,(p:Int),nq.next,nq.weight,nq.closed⟩:Nk)) first v=nZ ns first v:=by
          cases v with
          | none=>rfl
          | some r =>
            have hqr:q≠r:=fun h=>e (by rw [h])
            show (((ns.set p _).set q _).getD r default).first=(ns.getD r default).first
            rw [AB,AB,AD hqr]
            by_cases e2:p=r
            · subst e2; rw [Aw hlt,hp]; rfl
            · rw [AD e2]
         rw [hf]
         exact jR.keep (hq2 _) (by rfl) (hc _)
     · obtain ⟨n,hn⟩:=h.at' r hr
       by_cases e:q=r
       · subst e; exact ⟨_,Aw (by rw [Bv]; exact hltq)⟩
       · rw [AD e]
         by_cases e2:p=r
         · subst e2; exact ⟨_,Aw hlt⟩
         · exact ⟨n,by rw [AD e2]; exact hn⟩
   · refine ⟨fun r hr=>?_,fun n hn=>?_⟩
     · rw [tP (hq2 _) (by rfl)]
       unfold oA; rw [AD (fun e=>hr e.symm)]
     · rw [hp] at hn
       injection hn with hn
       subst hn
       rw [tP (hq2 _) (by rfl)]
       unfold oA; rw [Aw hlt]; rfl
end Go.Fn
open List renaming eq_nil_iff_forall_not_mem → Cz
open Nat renaming le_trans → BE
open _root_ renaming congrArg → AJ
open Go Go.IL
namespace Go.Fn
def fQ (A:AS) (p:Nat):Prop:=∃ c,A.Cells[p]? = some c∧c.ag=true
def hdK (A:AS):Af Nat→Prop
 | none=>True
 | some p=>fQ A p
def idP (ns:List Nk) (p:Nat):Int:=(ns.getD p default).id
def idU (ns:List Nk):Af Nat→Int
 | none=>0
 | some p=>idP ns p
def asN (ns:List Nk) (n:Nk) (u:Af Nat):Nd:=⟨n.id,idU ns u,n.weight,n.closed⟩
structure RL (A:AS) (sp:List Nat) (ns:List Nk) (first:Int) (kids:Af Nat→List Nat) (N:List Nd):Prop where
 ga:wI A sp
 len:ns.length=64
 lk:Lk ns first (hdK A) kids
 up:∀ p,fQ A p→∃ u n,hdK A u∧ns[p]? = some n∧n.up=upI u∧p∈kids u∧asN ns n u∈N
 kid:∀ u p,hdK A u→p∈kids u→fQ A p
 bw:∀ m∈N,∃ p n u,fQ A p∧hdK A u∧ns[p]? = some n∧n.up=upI u∧m=asN ns n u
 inj:∀ p q,fQ A p→fQ A q→idP ns p=idP ns q→p=q
 so:N.Pairwise (fun a b=>a.ID<b.ID)
theorem aBl {u v:Af Nat} (h:upI u=upI v):u=v:=by
 cases u with
 | none=>cases v with
   | none=>rfl
   | some q=>have:(-1:Int)=(q:Int):=h; omega
 | some p=>cases v with
   | none=>have:(p:Int) = -1:=h; omega
   | some q=>have:(p:Int)=(q:Int):=h; congr 1; omega
theorem dC {ns:List Nk} {p:Nat} {n:Nk} (h:ns[p]? = some n):idP ns p=n.id:=by
 unfold idP
 rw [AB,h]; rfl
theorem oK {ns ns':List Nk} {q:Nat} (h:oA ns' q=oA ns q) {n:Nk} (hn:ns[q]? = some n):∃ n',ns'[q]? = some n'∧aAG n'=aAG n:=by
 unfold oA at h
 rw [hn] at h
 cases h2:ns'[q]? with
 | none=>rw [h2] at h; cases h
 | some n'=>rw [h2] at h; injection h with h; exact ⟨n',rfl,h⟩
theorem aD6 {ns ns':List Nk} {q:Nat} (h:oA ns' q=oA ns q) (hn:ns[q]? = none):ns'[q]? = none:=by
 unfold oA at h
 rw [hn] at h
 cases h2:ns'[q]? with
 | none=>rfl
 | some n'=>rw [h2] at h; cases h
theorem aAF {ns ns':List Nk} {q:Nat} (h:oA ns' q=oA ns q):idP ns' q=idP ns q:=by
 cases hn:ns[q]? with
 | none =>
   have:=aD6 h hn
   unfold idP
   rw [AB,AB,hn,this]
 | some n =>
   obtain ⟨n',h1,h2⟩:=oK h hn
   rw [dC h1,dC hn]
   exact AJ (·.1) h2
theorem qU {n n':Nk} (h:aAG n'=aAG n):n'.id=n.id∧n'.up=n.up∧n'.weight=n.weight∧n'.closed=n.closed :=
 ⟨AJ (·.1) h,AJ (·.2.1) h,AJ (·.2.2.1) h,AJ (·.2.2.2) h⟩
theorem aGH {kids:Af Nat→List Nat} {u0 u:Af Nat} {p:Nat} (hnd:(kids u0).Nodup) (hp:∀ v,p∈kids v→v=u0) (v:Af Nat) (q:Nat):q∈sX (pI kids u0 p) u p v↔(q=p∧v=u)∨(q≠p∧q∈kids v):=by
 have hdrop:∀ v,q∈pI kids u0 p v↔(q≠p∧q∈kids v):=fun v=>by
  unfold pI
  by_cases e:v=u0
  · rw [Ay e,hnd.mem_erase_iff,e]
  · rw [Aq e]
    exact ⟨fun h=>⟨fun e2=>e (hp v (e2 ▸ h)),h⟩,fun h=>h.2⟩
 unfold sX
 by_cases e:v=u
 · rw [Ay e,Ax,hdrop u,e]
   constructor
   · rintro (h | h)
     · exact .inl ⟨h,rfl⟩
     · exact .inr h
   · rintro (h | h)
     · exact .inl h.1
     · exact .inr h
 · rw [Aq e,hdrop v]
   constructor
   · exact fun h=>.inr h
   · rintro (h | h)
     · exact AI h.2 e
     · exact h
theorem RL.par {A:AS} {sp:List Nat} {ns:List Nk} {first:Int} {kids:Af Nat→List Nat} {N:List Nd} (h:RL A sp ns first kids N) {p:Nat} (hp:fQ A p):∃ u n,hdK A u∧ns[p]? = some n∧n.up=upI u∧p∈kids u∧asN ns n u∈N∧∀ v,hdK A v→p∈kids v→v=u:=by
 obtain ⟨u,n,h1,h2,h3,h4,h5⟩:=h.up p hp
 exact ⟨u,n,h1,h2,h3,h4,h5,fun v hv hm=>h.lk.dj v u p hv h1 hm h4⟩
theorem xX {A:AS} {sp:List Nat} {ns:List Nk} {first:Int} {kids:Af Nat→List Nat} {N:List Nd} (h:RL A sp ns first kids N) (hk0:∀ u,¬hdK A u→kids u=[]) {p:Nat} (hp:fQ A p) {u:Af Nat} (hu:hdK A u) (hpu:u≠some p) (room keep:Int) (cl:List Int) :
 ∃ ns' first' kids',eS (p:Int) (upI u) room keep A.Cells A.Free A.Used ns first cl=some (room,keep,A.Cells,A.Free,A.Used,ns',first',cl)∧RL A sp ns' first' kids' (N.map (mvN (idP ns p) (idU ns u)))∧(∀ u,¬hdK A u→kids' u=[])∧(∀ q,idP ns' q=idP ns q)∧(∀ v q,q∈kids' v↔(q=p∧v=u)∨(q≠p∧q∈kids v)):=by
 obtain ⟨u0,np,a1,a2,a3,a4,a5,a6⟩:=h.par hp
 obtain ⟨ns1,first1,b1,b2,b3,b4⟩:=aA3 h.len h.lk a1 a2 a3 a4 room keep A.Cells A.Free A.Used cl
 obtain ⟨np1,c1,c2⟩:=oK (b4 p) a2
 have hnd:=h.lk.nd u0 a1
 have hpk:∀ v,p∈kids v→v=u0:=fun v hm=>by
  by_cases hv:hdK A v
  · exact a6 v hv hm
  · rw [hk0 v hv] at hm; cases hm
 have hpd:∀ v,hdK A v→p ∉ pI kids u0 p v:=fun v hv hm=>by
  unfold pI at hm
  split at hm
  · exact (hnd.mem_erase_iff.1 hm).1 rfl
  · rename_i e; exact e (hpk v hm)
 obtain ⟨ns2,first2,d1,d2,d3,d4,d5⟩:=aE9 b2 b3 hu c1 hpd hpu room keep A.Cells A.Free A.Used cl
 have hmem:=fun v q=>aGH (u:=u) hnd hpk v q
 have hv2:∀ q,q≠p→oA ns2 q=oA ns q:=fun q hq=>(d4 q hq).trans (b4 q)
 obtain ⟨e1,e2,e3,e4⟩:=qU c2
 have hvp:∃ n2,ns2[p]? = some n2∧n2.id=np.id∧n2.up=upI u∧n2.weight=np.weight∧n2.closed=np.closed:=by
  have:=d5 np1 c1
  unfold oA at this
  cases h2:ns2[p]? with
  | none=>rw [h2] at this; cases this
  | some n2 =>
    rw [h2] at this
    injection this with this
    refine ⟨n2,rfl,?_,?_,?_,?_⟩
    · rw [←e1]; exact AJ (·.1) this
    · exact AJ (·.2.1) this
    · rw [←e3]; exact AJ (·.2.2.1) this
    · rw [←e4]; exact AJ (·.2.2.2) this
 obtain ⟨n2,f1,f2,f3,f4,f5⟩:=hvp
 have hid:∀ q,idP ns2 q=idP ns q:=fun q=>by
  by_cases hq:q=p
  · subst hq; rw [dC f1,dC a2,f2]
  · exact aAF (hv2 q hq)
 have hidU:∀ v,idU ns2 v=idU ns v:=fun v=>by
  cases v with
  | none=>rfl
  | some q=>exact hid q
 have hidp:idP ns p=np.id:=dC a2
 refine ⟨ns2,first2,_,?_,?_,?_,hid,hmem⟩
 · unfold eS
   rw [b1,bnoS]
   show (bno (gN (p:Int) (upI u) room keep A.Cells A.Free A.Used ns1 first1 cl) _)=_
   rw [d1,bnoS]
 · refine ⟨h.ga,d2,d3,fun q hq=>?_,fun v q hv hm=>?_,fun m hm=>?_,fun q r hq hr e=>h.inj q r hq hr (by rw [←hid q,←hid r]; exact e),?_⟩
   · by_cases hqp:q=p
     · subst hqp
       refine ⟨u,n2,hu,f1,f3,(hmem u q).2 (.inl ⟨rfl,rfl⟩),?_⟩
       refine Am.2 ⟨asN ns np u0,a5,?_⟩
       unfold mvN asN
       rw [Ay (show np.id=idP ns q from hidp.symm),f2,f4,f5,hidU]
     · obtain ⟨v,n,g1,g2,g3,g4,g5⟩:=h.up q hq
       obtain ⟨n',k1,k2⟩:=oK (hv2 q hqp) g2
       obtain ⟨k3,k4,k5,k6⟩:=qU k2
       refine ⟨v,n',g1,k1,k4.trans g3,(hmem v q).2 (.inr ⟨hqp,g4⟩),?_⟩
       refine Am.2 ⟨asN ns n v,g5,?_⟩
       have hne:n.id≠idP ns p:=fun e=>hqp (h.inj q p hq hp (by rw [dC g2]; exact e))
       unfold mvN asN
       rw [Aq hne,k3,k5,k6,hidU]
   · rcases (hmem v q).1 hm with ⟨rfl,_⟩ | ⟨_,hm⟩
     · exact hp
     · exact h.kid v q hv hm
   · obtain ⟨m0,hm0,rfl⟩:=Am.1 hm
     obtain ⟨q,n,v,g1,g2,g3,g4,rfl⟩:=h.bw m0 hm0
     by_cases hqp:q=p
     · subst hqp
       rw [a2] at g3
       injection g3 with g3
       subst g3
       refine ⟨q,n2,u,hp,hu,f1,f3,?_⟩
       unfold mvN asN
       rw [Ay (show np.id=idP ns q from hidp.symm),f2,f4,f5,hidU]
     · obtain ⟨n',k1,k2⟩:=oK (hv2 q hqp) g3
       obtain ⟨k3,k4,k5,k6⟩:=qU k2
       have hne:n.id≠idP ns p:=fun e=>hqp (h.inj q p g1 hp (by rw [dC g3]; exact e))
       refine ⟨q,n',v,g1,g2,k1,k4.trans g4,?_⟩
       unfold mvN asN
       rw [Aq hne,k3,k5,k6,hidU]
   · rw [Bm]
     refine h.so.imp fun hab=>?_
     rw [mF,mF]; exact hab
 · intro v hv
   refine Cz.2 fun q hm=>?_
   rcases (hmem v q).1 hm with ⟨_,rfl⟩ | ⟨_,hm⟩
   · exact hv hu
   · rw [hk0 v hv] at hm; cases hm
theorem find_L {ns:List Nk} (hlen:ns.length=64) (id:Int) {l:List Nat} (hl:l.length≤64) (hs:∀ p∈l,∃ n,ns[p]? = some n) (r:List Nat):∀ (q:List Nat) (f:Nat),l=q++r→r.length<f→fT id ns (toI l) f (q.length:Int)=some (match r.find? (fun p=>decide (idP ns p=id)) with | some p=>(p:Int) | none=>-1):=by
 induction r with
 | nil =>
   intro q f h hf
   obtain ⟨f,rfl⟩:∃ g,f=g+1:=⟨f-1,by simp at hf; omega⟩
   rw [AW] at h
   rw [fT,bndD,show (toI l).length=q.length by unfold toI; rw [AA,h],Ah (by omega),bT]; rfl
 | cons p r ih =>
   intro q f h hf
   obtain ⟨f,rfl⟩:∃ g,f=g+1:=⟨f-1,by simp at hf; omega⟩
   obtain ⟨n,hn⟩:=hs p (by rw [h]; simp)
   have hI:toI l=toI q++(p:Int)::toI r:=by rw [h]; unfold toI; simp
   have hql:(toI q).length=q.length:=by unfold toI; simp
   have hll:(toI l).length=l.length:=by unfold toI; simp
   have e1:=pG hI
   have e2:=kM hI
   have e3:=w_at hI (by omega)
   rw [hql] at e1 e2 e3
   rw [fT,bndD,e1,cK,e2,bnoS,eA,hn,bnoS,chk,Ay hlen,Au,hn,bnoS,bndD,List.find?_cons,dC hn]
   by_cases hid:n.id=id
   · rw [Ai hid,cK]
   · rw [Ah hid,bT,bndD,e3]
     have:=ih (q++[p]) f (by rw [h]; simp) (by simpa using hf)
     rw [show ((toI q++[(p:Int)]).length:Int)=((q++[p]).length:Int) by simp [hql]]
     exact this
theorem nX {A:AS} {p:Nat}:fQ A p↔p∈nD A.Cells 0:=by
 rw [xZ]
 simp [fQ]
theorem aFM {A:AS} {sp:List Nat} {ns:List Nk} {first:Int} {kids:Af Nat→List Nat} {N:List Nd} (h:RL A sp ns first kids N) (id:Int) (room keep:Int) (cl:List Int) :
 (∃ p,fQ A p∧idP ns p=id∧dF id room keep A.Cells A.Free A.Used ns first cl=some (p:Int))∨((∀ p,fQ A p→idP ns p≠id)∧dF id room keep A.Cells A.Free A.Used ns first cl=some (-1)):=by
 have hlive:=aEi h.ga
 have hll:(nD A.Cells 0).length≤64:=by rw [uC]; exact BE Dj h.ga.len
 have hf:=find_L h.len id hll (fun p hp=>by obtain ⟨u,n,_,h2,_⟩:=h.up p (nX.2 hp); exact ⟨n,h2⟩) (nD A.Cells 0) [] fuel rfl (eZ (by omega))
 have hfind:dF id room keep A.Cells A.Free A.Used ns first cl=some (match (nD A.Cells 0).find? (fun p=>decide (idP ns p=id)) with | some p=>(p:Int) | none=>-1):=by
  unfold dF
  have hA:(⟨A.Cells,A.Free,A.Used⟩:AS)=A:=rfl
  rw [hA,hlive,bnoS]
  exact hf
 rw [hfind]
 cases hc:(nD A.Cells 0).find? (fun p=>decide (idP ns p=id)) with
 | none =>
   right
   refine ⟨fun p hp e=>?_,rfl⟩
   have:=CM.1 hc p (nX.1 hp)
   exact this (Ai e)
 | some p =>
   left
   have h1:=Ds hc
   have h2:=ES hc
   exact ⟨p,nX.2 h1,of_decide_eq_true h2,rfl⟩
def Up (ns:List Nk):Nat→List Nat→Prop
 | p,[]=>∃ n,ns[p]? = some n∧n.up = -1
 | p,q::l=>(∃ n,ns[p]? = some n∧n.up=(q:Int))∧Up ns q l
theorem aD8 {ns:List Nk} (hlen:ns.length=64) (t:Nat):∀ (l:List Nat) (p f:Nat),Up ns p l→l.length+1<f→eT (t:Int) ns f (p:Int)=some (decide (t∈l))
 | [],p,f+2,⟨n,h1,h2⟩,_=>by
   rw [eT,bndD,Ah (by omega),AT,cK,eA,h1,bnoS,chk,Ay hlen,Au,h1,bnoS,bndD,h2,Ah (by omega),bT]
   rw [eT,bndD,Ai rfl]
   simp
 | q :: l,p,f+1,⟨⟨n,h1,h2⟩,h3⟩,hf=>by
   rw [eT,bndD,Ah (by omega),AT,cK,eA,h1,bnoS,chk,Ay hlen,Au,h1,bnoS,bndD,h2]
   by_cases e:q=t
   · rw [Ai (by omega),cK,Ai (by simp [e])]
   · rw [Ah (by omega),bT,aD8 hlen t l q f h3 (by simpa using hf)]
     congr 1
     simp [Ax,Ne.symm e]
end Go.Fn
open Nat renaming lt_succ_self → An
open Go Go.IL
namespace Go.Fn
theorem aEa {A:AS} {sp:List Nat} {ns:List Nk} {first:Int} {kids:Af Nat→List Nat} {N:List Nd} (h:RL A sp ns first kids N) {p:Nat} (hp:fQ A p) {n:Nk} (hn:ns[p]? = some n):∃ u,hdK A u∧n.up=upI u∧p∈kids u∧asN ns n u∈N:=by
 obtain ⟨u,m,h1,h2,h3,h4,h5⟩:=h.up p hp
 rw [hn] at h2
 injection h2 with h2
 subst h2
 exact ⟨u,h1,h3,h4,h5⟩
theorem wQ {A:AS} {sp:List Nat} {ns:List Nk} {first:Int} {kids:Af Nat→List Nat} {N:List Nd} (h:RL A sp ns first kids N) (hpos:∀ m∈N,1≤m.ID) {u:Af Nat} (hu:hdK A u):idU ns u=0↔u=none:=by
 cases u with
 | none=>exact ⟨fun _=>rfl,fun _=>rfl⟩
 | some p =>
   obtain ⟨v,n,h1,h2,h3,h4,h5⟩:=h.up p hu
   have:=hpos _ h5
   have hi:idU ns (some p)=n.id:=dC h2
   exact ⟨fun e=>by have:1≤n.id:=this; omega,fun e=>by cases e⟩
theorem xM {A:AS} {sp:List Nat} {ns:List Nk} {first:Int} {kids:Af Nat→List Nat} {N:List Nd} (h:RL A sp ns first kids N) {p:Nat} (hp:fQ A p) {n:Nk} (hn:ns[p]? = some n) {u:Af Nat} (hu:n.up=upI u):rR N (idP ns p)=some (idU ns u):=by
 obtain ⟨v,h1,h2,h3,h4⟩:=aEa h hp hn
 have hv:v=u:=aBl (h2.symm.trans hu)
 subst hv
 have:=vO h.so h4
 rw [dC hn]
 exact this
theorem up_ok {A:AS} {sp:List Nat} {ns:List Nk} {first:Int} {kids:Af Nat→List Nat} {N:List Nd} (h:RL A sp ns first kids N) (hpos:∀ m∈N,1≤m.ID) {r:Int→Nat} (hr:∀ m∈N,m.aa≠0→r m.aa<r m.ID):∀ (k p:Nat),fQ A p→r (idP ns p)≤k→∃ l,Up ns p l∧(∀ q∈l,fQ A q)∧l.length≤k∧∀ j,l.length<j→iF N j (idP ns p)=l.map (idP ns)
 | k, p,hp,hk=>by
   obtain ⟨u,n,h1,h2,h3,h4,h5⟩:=h.up p hp
   have hpar:=xM h hp h2 h3
   cases u with
   | none =>
     refine ⟨[],⟨n,h2,h3⟩,by simp,CO _,fun j hj=>?_⟩
     obtain ⟨j,rfl⟩:∃ i,j=i+1:=⟨j-1,by simp at hj; omega⟩
     show (match rR N (idP ns p) with | some q=>if q=0 then [] else q::iF N j q | none=>[])=_
     rw [hpar]; rfl
   | some q =>
     have hne:idU ns (some q)≠0:=fun e=>by have:=(wQ h hpos h1).1 e; cases this
     have hlt:r (idP ns q)<r (idP ns p):=by
      have:=hr _ h5 hne
      rw [dC h2]
      exact this
     obtain ⟨k,rfl⟩:∃ i,k=i+1:=⟨k-1,by omega⟩
     obtain ⟨l,g1,g2,g3,g4⟩:=up_ok h hpos hr k q h1 (by omega)
     refine ⟨q::l,⟨⟨n,h2,h3⟩,g1⟩,fun x hx=>?_,by simpa using g3,fun j hj=>?_⟩
     · rcases Ax.1 hx with rfl | hx
       · exact h1
       · exact g2 x hx
     · obtain ⟨j,rfl⟩:∃ i,j=i+1:=⟨j-1,by simp at hj; omega⟩
       show (match rR N (idP ns p) with | some q=>if q=0 then [] else q::iF N j q | none=>[])=_
       rw [hpar]
       show (if idU ns (some q)=0 then [] else idU ns (some q)::iF N j (idU ns (some q)))=_
       rw [Aq hne]
       show idP ns q::iF N j (idP ns q)=idP ns q::l.map (idP ns)
       rw [g4 j (by simpa using hj)]
theorem aAJ {A:AS} {sp:List Nat} {ns:List Nk} {first:Int} {kids:Af Nat→List Nat} {N:List Nd} (h:RL A sp ns first kids N) (hpos:∀ m∈N,1≤m.ID) {r:Int→Nat} (hr:∀ m∈N,m.aa≠0→r m.aa<r m.ID) (hpa:∀ m∈N,m.aa=0∨∃ x∈N,x.ID=m.aa) {p:Nat} (hp:fQ A p):∃ l,Up ns p l∧(∀ q∈l,fQ A q)∧l.length<N.length∧iF N N.length (idP ns p)=l.map (idP ns):=by
 obtain ⟨l,h1,h2,h3,h4⟩:=up_ok h hpos hr (r (idP ns p)) p hp (AO _)
 obtain ⟨u,n,_,g2,_,_,g5⟩:=h.up p hp
 have hid:idP ns p=n.id:=dC g2
 have hmem:∃ m∈N,m.ID=idP ns p:=⟨_,g5,hid.symm⟩
 have hj:=h4 (l.length+1) (An _)
 have hps:=pJ h.so hr hpa (l.length+1) (idP ns p) hmem
 have hnd:=hps.1
 have hin:=hps.2
 rw [hj] at hnd hin
 have hle:(idP ns p::l.map (idP ns)).length≤(N.map (·.ID)).length:=xU hnd (fun x hx=>hin x hx)
 simp at hle
 exact ⟨l,h1,h2,by omega,h4 N.length (by omega)⟩
theorem mem_ids {A:AS} {sp:List Nat} {ns:List Nk} {first:Int} {kids:Af Nat→List Nat} {N:List Nd} (h:RL A sp ns first kids N) {l:List Nat} (hl:∀ q∈l,fQ A q) {p:Nat} (hp:fQ A p):p∈l↔idP ns p∈l.map (idP ns):=by
 rw [Am]
 exact ⟨fun hm=>⟨p,hm,rfl⟩,fun ⟨q,hq,e⟩=>by rw [←h.inj q p (hl q hq) hp e]; exact hq⟩
theorem aFr {A:AS} {sp:List Nat} {ns:List Nk} {first:Int} {kids:Af Nat→List Nat} {N:List Nd} (h:RL A sp ns first kids N) (hpos:∀ m∈N,1≤m.ID) (hN:N.length≤64) {r:Int→Nat} (hr:∀ m∈N,m.aa≠0→r m.aa<r m.ID) (hpa:∀ m∈N,m.aa=0∨∃ x∈N,x.ID=m.aa) {p t:Nat} (hp:fQ A p) (ht:fQ A t) (room keep:Int) (C:List AC) (F U:Int) (cl:List Int) :
 lA (p:Int) (t:Int) room keep C F U ns first cl=some (decide (idP ns t∈iF N N.length (idP ns p))):=by
 obtain ⟨l,h1,h2,h3,h4⟩:=aAJ h hpos hr hpa hp
 unfold lA
 rw [aD8 h.len t l p fuel h1 (eZ (by omega)),h4]
 congr 1
 exact decide_eq_decide.2 (mem_ids h h2 ht)
def setN (id:Int) (w:Int) (c:Bool) (n:Nd):Nd:=if n.ID=id then ⟨n.ID,n.aa,w,c⟩ else n
theorem qW (id w:Int) (c:Bool) (n:Nd):(setN id w c n).ID=n.ID:=by unfold setN; split <;> rfl
theorem aEH {A:AS} {sp:List Nat} {ns:List Nk} {first:Int} {kids:Af Nat→List Nat} {N:List Nd} (h:RL A sp ns first kids N) {p:Nat} (hp:fQ A p) {n:Nk} (hn:ns[p]? = some n) (w:Int) (c:Bool) :
 RL A sp (ns.set p (⟨n.id,n.up,n.first,n.next,w,c⟩:Nk)) first kids (N.map (setN (idP ns p) w c))∧∀ q,idP (ns.set p (⟨n.id,n.up,n.first,n.next,w,c⟩:Nk)) q=idP ns q:=by
 have hlt:=(Ag.1 hn).1
 have hid:∀ q,idP (ns.set p (⟨n.id,n.up,n.first,n.next,w,c⟩:Nk)) q=idP ns q:=fun q=>by
  by_cases e:p=q
  · subst e; rw [dC (Aw hlt),dC hn]
  · unfold idP; rw [AB,AB,AD e]
 have hidU:∀ v,idU (ns.set p (⟨n.id,n.up,n.first,n.next,w,c⟩:Nk)) v=idU ns v:=fun v=>by
  cases v with
  | none=>rfl
  | some q=>exact hid q
 have hfst:∀ v,nZ (ns.set p (⟨n.id,n.up,n.first,n.next,w,c⟩:Nk)) first v=nZ ns first v:=fun v=>by
  cases v with
  | none=>rfl
  | some q =>
    show ((ns.set p _).getD q default).first=(ns.getD q default).first
    rw [AB,AB]
    by_cases e:p=q
    · subst e; rw [Aw hlt,hn]; rfl
    · rw [AD e]
 refine ⟨⟨h.ga,by rw [Bv]; exact h.len,⟨fun v hv=>?_,h.lk.nd,h.lk.dj,fun q hq=>?_⟩,fun q hq=>?_,h.kid,fun m hm=>?_,fun q r hq hr e=>h.inj q r hq hr (by rw [←hid q,←hid r]; exact e),?_⟩,hid⟩
 · rw [hfst]
   exact jR.keep hn (by rfl) (h.lk.ch v hv)
 · obtain ⟨m,hm⟩:=h.lk.at' q hq
   by_cases e:p=q
   · subst e; exact ⟨_,Aw hlt⟩
   · exact ⟨m,by rw [AD e]; exact hm⟩
 · obtain ⟨u,m,h1,h2,h3,h4,h5⟩:=h.up q hq
   by_cases e:p=q
   · subst e
     rw [hn] at h2
     injection h2 with h2
     subst h2
     refine ⟨u,_,h1,Aw hlt,h3,h4,Am.2 ⟨_,h5,?_⟩⟩
     unfold setN asN
     rw [Ay (show n.id=idP ns p from (dC hn).symm),hidU]
   · refine ⟨u,m,h1,by rw [AD e]; exact h2,h3,h4,Am.2 ⟨_,h5,?_⟩⟩
     have hne:m.id≠idP ns p:=fun e2=>e (h.inj p q hp hq (by rw [dC h2]; exact e2.symm))
     unfold setN asN
     rw [Aq hne,hidU]
 · obtain ⟨m0,hm0,rfl⟩:=Am.1 hm
   obtain ⟨q,k,u,g1,g2,g3,g4,rfl⟩:=h.bw m0 hm0
   by_cases e:p=q
   · subst e
     rw [hn] at g3
     injection g3 with g3
     subst g3
     refine ⟨p,_,u,g1,g2,Aw hlt,g4,?_⟩
     unfold setN asN
     rw [Ay (show n.id=idP ns p from (dC hn).symm),hidU]
   · refine ⟨q,k,u,g1,g2,by rw [AD e]; exact g3,g4,?_⟩
     have hne:k.id≠idP ns p:=fun e2=>e (h.inj p q hp g1 (by rw [dC g3]; exact e2.symm))
     unfold setN asN
     rw [Aq hne,hidU]
 · rw [Bm]
   refine h.so.imp fun hab=>?_
   rw [qW,qW]; exact hab
end Go.Fn
open List renaming filter_nil → EU,map_congr_left → AV,map_cons → Aj,map_id → CY,map_map → BK,map_nil → As
open Go Go.IL
namespace Go.Fn
abbrev PT:=Int×Int×List aJ×Int×Int×List aI×Int×List Int
theorem coll2 {ns:List Nk} (x:Int) (T:PT) (r:List Nat):∀ (acc:List Nat) (a:Int) (f:Nat),jR ns a r→acc.length+r.length≤1000→r.length<f→fM x T ns f a (toI acc)=eI x (toI (acc++r)) fuel 0 T.1 T.2.1 T.2.2.1 T.2.2.2.1 T.2.2.2.2.1 ns T.2.2.2.2.2.2.1 T.2.2.2.2.2.2.2:=by
 induction r with
 | nil =>
   intro acc a f h _ hf
   obtain ⟨f,rfl⟩:∃ g,f=g+1:=⟨f-1,by simp at hf; omega⟩
   have h:a = -1:=h
   rw [fM,bndD,h,Ai rfl,AN,bT,AW]
 | cons p r ih =>
   intro acc a f h ha hf
   obtain ⟨f,rfl⟩:∃ g,f=g+1:=⟨f-1,by simp at hf; omega⟩
   obtain ⟨h1,n,h2,h3⟩:=h
   simp at ha
   have hal:(toI acc).length=acc.length:=by unfold toI; simp
   rw [fM,bndD,h1,Ah (by omega),AT,cK,eA,h2,bnoS,Au,h2,bnoS,nW (by simp; omega) (by simp; omega),bnoS]
   have:=ih (acc++[p]) n.next f h3 (by simp; omega) (by simpa using hf)
   rw [show toI (acc++[p])=toI acc++[(p:Int)] by unfold toI; simp] at this
   rw [this,AH]; rfl
theorem coll4 {ns:List Nk} (x:Int) (T:PT) (r:List Nat):∀ (acc:List Nat) (a:Int) (f:Nat),jR ns a r→acc.length+r.length≤1000→r.length<f→fL x T ns f a (toI acc)=eH x (toI (acc++r)) fuel 0 T.1 T.2.1 T.2.2.1 T.2.2.2.1 T.2.2.2.2.1 ns T.2.2.2.2.2.2.1 T.2.2.2.2.2.2.2:=by
 induction r with
 | nil =>
   intro acc a f h _ hf
   obtain ⟨f,rfl⟩:∃ g,f=g+1:=⟨f-1,by simp at hf; omega⟩
   have h:a = -1:=h
   rw [fL,bndD,h,Ai rfl,AN,bT,AW]
 | cons p r ih =>
   intro acc a f h ha hf
   obtain ⟨f,rfl⟩:∃ g,f=g+1:=⟨f-1,by simp at hf; omega⟩
   obtain ⟨h1,n,h2,h3⟩:=h
   simp at ha
   have hal:(toI acc).length=acc.length:=by unfold toI; simp
   rw [fL,bndD,h1,Ah (by omega),AT,cK,eA,h2,bnoS,Au,h2,bnoS,nW (by simp; omega) (by simp; omega),bnoS]
   have:=ih (acc++[p]) n.next f h3 (by simp; omega) (by simpa using hf)
   rw [show toI (acc++[p])=toI acc++[(p:Int)] by unfold toI; simp] at this
   rw [this,AH]; rfl
def uZ (ids:List Int) (d:Int) (n:Nd):Nd:=if n.ID∈ids then ⟨n.ID,d,n.ae,n.af⟩ else n
theorem aAg (d:Int) (N:List Nd):N.map (uZ [] d)=N:=by
 conv=>rhs; rw [←CY N]
 exact AV fun n _=>by unfold uZ; rw [Aq (by simp)]; rfl
theorem aBJ (a d:Int) (ids:List Int) (N:List Nd):(N.map (mvN a d)).map (uZ ids d)=N.map (uZ (a::ids) d):=by
 rw [BK]
 refine AV fun n _=>?_
 show uZ ids d (mvN a d n)=uZ (a::ids) d n
 unfold uZ
 rw [mF]
 unfold mvN
 by_cases h1:n.ID=a
 · rw [Ay h1,Ay (show n.ID∈a::ids by simp [h1])]
   split <;> rfl
 · rw [Aq h1]
   by_cases h2:n.ID∈ids
   · rw [Ay h2,Ay (show n.ID∈a::ids by simp [h2])]
   · rw [Aq h2,Aq (by simp [h1,h2])]
theorem gixI {l:List Nat} {q r:List Nat} {p:Nat} (h:l=q++p::r) (hl:l.length≤1000):decide ((q.length:Int)<((toI l).length:Int))=true∧gix (toI l) (q.length:Int)=some (p:Int)∧(toI l)[((q.length:Nat):Int).toNat]? = some (p:Int)∧Al .i64 ((q.length:Int)+1)=((q++[p]).length:Int):=by
 have hI:toI l=toI q++(p:Int)::toI r:=by rw [h]; unfold toI; simp
 have hql:(toI q).length=q.length:=by unfold toI; simp
 have hll:(toI l).length=l.length:=by unfold toI; simp
 have e1:=pG hI
 have e2:=kM hI
 rw [hql] at e1 e2
 have hpl:q.length≤1000:=by rw [h] at hl; simp at hl; omega
 exact ⟨e1,e2,by rw [eA] at e2; rw [Au]; exact e2,by rw [w64 (by omega) (by omega)]; simp⟩
theorem moves3 {A:AS} {sp:List Nat} {x:Nat} (hx:fQ A x) (room keep:Int) (cl:List Int) {ks:List Nat} (hks:ks.length≤1000) (hal:∀ p∈ks,fQ A p) (r:List Nat):∀ (q:List Nat) (f:Nat) (ns:List Nk) (first:Int) (kids:Af Nat→List Nat) (N:List Nd),ks=q++r→r.length<f→RL A sp ns first kids N→(∀ u,¬hdK A u→kids u=[]) →
 ∃ ns' first' kids',eI (x:Int) (toI ks) f (q.length:Int) room keep A.Cells A.Free A.Used ns first cl=some (room,keep,A.Cells,A.Free,A.Used,ns',first',cl)∧RL A sp ns' first' kids' (N.map (uZ ((r.filter (fun p=>decide (p≠x))).map (idP ns)) (idP ns x)))∧(∀ u,¬hdK A u→kids' u=[])∧∀ p,idP ns' p=idP ns p:=by
 induction r with
 | nil =>
   intro q f ns first kids N h hf hR h0
   obtain ⟨f,rfl⟩:∃ g,f=g+1:=⟨f-1,by simp at hf; omega⟩
   rw [AW] at h
   refine ⟨ns,first,kids,?_,by rw [EU,As,aAg]; exact hR,h0,fun _=>rfl⟩
   rw [eI,bndD,show (toI ks).length=q.length by unfold toI; rw [AA,h],Ah (by omega),bT]
 | cons p r ih =>
   intro q f ns first kids N h hf hR h0
   obtain ⟨f,rfl⟩:∃ g,f=g+1:=⟨f-1,by simp at hf; omega⟩
   obtain ⟨e1,e2,e3,e4⟩:=gixI h hks
   have hp:fQ A p:=hal p (by rw [h]; simp)
   rw [eI,bndD,e1,cK,e2,bnoS,e3,bnoS,bndD]
   by_cases hpx:p=x
   · subst hpx
     rw [Ai rfl,AN,bT,bndD,e4]
     obtain ⟨ns',first',kids',g1,g2,g3,g4⟩:=ih (q++[p]) f ns first kids N (by rw [h]; simp) (by simpa using hf) hR h0
     refine ⟨ns',first',kids',g1,?_,g3,g4⟩
     rw [Bs (by simp)]
     exact g2
   · rw [Ah (by omega),AT,cK]
     obtain ⟨ns1,first1,kids1,m1,m2,m3,m4,_⟩:=xX hR h0 hp (u:=some x) hx (fun e=>hpx (by injection e with e; exact e.symm)) room keep cl
     have m1:eS (p:Int) (x:Int) room keep A.Cells A.Free A.Used ns first cl=_:=m1
     rw [m1,bnoS,bndD,e4]
     obtain ⟨ns',first',kids',g1,g2,g3,g4⟩:=ih (q++[p]) f ns1 first1 kids1 _ (by rw [h]; simp) (by simpa using hf) m2 m3
     refine ⟨ns',first',kids',g1,?_,g3,fun y=>(g4 y).trans (m4 y)⟩
     have hmap:(r.filter (fun p=>decide (p≠x))).map (idP ns1)=(r.filter (fun p=>decide (p≠x))).map (idP ns):=AV fun y _=>m4 y
     rw [hmap,m4 x] at g2
     rw [BP (by simp [hpx]),Aj,←aBJ]
     exact g2
theorem moves5 {A:AS} {sp:List Nat} {x:Nat} (hx:fQ A x) (room keep:Int) (cl:List Int) {ks:List Nat} (hks:ks.length≤1000) (hal:∀ p∈ks,fQ A p) (r:List Nat):∀ (q:List Nat) (f:Nat) (ns:List Nk) (first:Int) (kids:Af Nat→List Nat) (N:List Nd),ks=q++r→r.length<f→RL A sp ns first kids N→(∀ u,¬hdK A u→kids u=[]) →
 ∃ ns' first' kids',eH (x:Int) (toI ks) f (q.length:Int) room keep A.Cells A.Free A.Used ns first cl=some (room,keep,A.Cells,A.Free,A.Used,ns',first',cl)∧RL A sp ns' first' kids' (N.map (uZ ((r.filter (fun p=>decide (p≠x))).map (idP ns)) (idP ns x)))∧(∀ u,¬hdK A u→kids' u=[])∧∀ p,idP ns' p=idP ns p:=by
 induction r with
 | nil =>
   intro q f ns first kids N h hf hR h0
   obtain ⟨f,rfl⟩:∃ g,f=g+1:=⟨f-1,by simp at hf; omega⟩
   rw [AW] at h
   refine ⟨ns,first,kids,?_,by rw [EU,As,aAg]; exact hR,h0,fun _=>rfl⟩
   rw [eH,bndD,show (toI ks).length=q.length by unfold toI; rw [AA,h],Ah (by omega),bT]
 | cons p r ih =>
   intro q f ns first kids N h hf hR h0
   obtain ⟨f,rfl⟩:∃ g,f=g+1:=⟨f-1,by simp at hf; omega⟩
   obtain ⟨e1,e2,e3,e4⟩:=gixI h hks
   have hp:fQ A p:=hal p (by rw [h]; simp)
   rw [eH,bndD,e1,cK,e2,bnoS,e3,bnoS,bndD]
   by_cases hpx:p=x
   · subst hpx
     rw [Ai rfl,AN,bT,bndD,e4]
     obtain ⟨ns',first',kids',g1,g2,g3,g4⟩:=ih (q++[p]) f ns first kids N (by rw [h]; simp) (by simpa using hf) hR h0
     refine ⟨ns',first',kids',g1,?_,g3,g4⟩
     rw [Bs (by simp)]
     exact g2
   · rw [Ah (by omega),AT,cK]
     obtain ⟨ns1,first1,kids1,m1,m2,m3,m4,_⟩:=xX hR h0 hp (u:=some x) hx (fun e=>hpx (by injection e with e; exact e.symm)) room keep cl
     have m1:eS (p:Int) (x:Int) room keep A.Cells A.Free A.Used ns first cl=_:=m1
     rw [m1,bnoS,bndD,e4]
     obtain ⟨ns',first',kids',g1,g2,g3,g4⟩:=ih (q++[p]) f ns1 first1 kids1 _ (by rw [h]; simp) (by simpa using hf) m2 m3
     refine ⟨ns',first',kids',g1,?_,g3,fun y=>(g4 y).trans (m4 y)⟩
     have hmap:(r.filter (fun p=>decide (p≠x))).map (idP ns1)=(r.filter (fun p=>decide (p≠x))).map (idP ns):=AV fun y _=>m4 y
     rw [hmap,m4 x] at g2
     rw [BP (by simp [hpx]),Aj,←aBJ]
     exact g2
end Go.Fn
open Eq renaming trans → FS
open Go Go.IL
namespace Go.Fn
theorem aAq {A:AS} {sp:List Nat} {ns:List Nk} {first:Int} {kids:Af Nat→List Nat} {N:List Nd} (h:RL A sp ns first kids N) (hpos:∀ m∈N,1≤m.ID) {u v:Af Nat} (hu:hdK A u) (hv:hdK A v) (e:idU ns u=idU ns v):u=v:=by
 cases u with
 | none =>
   exact ((wQ h hpos hv).1 e.symm).symm
 | some p=>cases v with
   | none=>exact (wQ h hpos hu).1 e
   | some q=>rw [h.inj p q hu hv e]
theorem vA {A:AS} {sp:List Nat} {ns:List Nk} {first:Int} {kids:Af Nat→List Nat} {N:List Nd} (h:RL A sp ns first kids N) (hpos:∀ m∈N,1≤m.ID) {u:Af Nat} (hu:hdK A u) {m:Nd} (hm:m∈N):m.ID∈(kids u).map (idP ns)↔m.aa=idU ns u:=by
 obtain ⟨p,n,v,g1,g2,g3,g4,rfl⟩:=h.bw m hm
 obtain ⟨v',k1,k2,k3,k4⟩:=aEa h g1 g3
 have hvv:v'=v:=aBl (k2.symm.trans g4)
 subst hvv
 have hid:idP ns p=n.id:=dC g3
 show n.id∈_↔idU ns v'=idU ns u
 rw [Am]
 constructor
 · rintro ⟨q,hq,e⟩
   have hqa:=h.kid u q hu hq
   have hqp:q=p:=h.inj q p hqa g1 (by rw [e,hid])
   subst hqp
   rw [h.lk.dj v' u q k1 hu k3 hq]
 · intro e
   have:v'=u:=aAq h hpos k1 hu e
   subst this
   exact ⟨p,k3,hid⟩
theorem vE {A:AS} {sp:List Nat} {ns:List Nk} {first:Int} {kids:Af Nat→List Nat} {N:List Nd} (h:RL A sp ns first kids N) (h0:∀ u,¬hdK A u→kids u=[]) (hpos:∀ m∈N,1≤m.ID) {x:Nat} (hx:fQ A x) {u:Af Nat} (hu:hdK A u) (hux:u≠some x) (w:Int) (only:Bool) (room keep:Int) (cl:List Int) :
 ∃ ns' first' kids',iC (x:Int) (upI u) w only room keep A.Cells A.Free A.Used ns first cl=some (room,keep,A.Cells,A.Free,A.Used,ns',first',cl)∧RL A sp ns' first' kids' (N.map (pV (idP ns x) (idU ns u) w only))∧(∀ u,¬hdK A u→kids' u=[])∧∀ p,idP ns' p=idP ns p:=by
 obtain ⟨ns1,first1,kids1,m1,m2,m3,m4,m5⟩:=xX h h0 hx hu hux room keep cl
 obtain ⟨v1,n1,a1,a2,a3,a4,a5⟩:=m2.up x hx
 obtain ⟨v0,n0,b1,b2,b3,b4,b5⟩:=h.up x hx
 obtain ⟨s1,s2⟩:=aEH m2 hx a2 w n1.closed
 have hid1:∀ p,idP (ns1.set x (⟨n1.id,n1.up,n1.first,n1.next,w,n1.closed⟩:Nk)) p=idP ns p:=fun p=>(s2 p).trans (m4 p)
 -- whether it is closed
 have hcl:n1.closed=n0.closed:=by
  have hmem:=a5
  obtain ⟨m,hm,e⟩:=Am.1 hmem
  have hi:m.ID=(asN ns n0 v0).ID:=by
   have:(mvN (idP ns x) (idU ns u) m).ID=(asN ns1 n1 v1).ID:=by rw [e]
   rw [mF] at this
   rw [this]
   show n1.id=n0.id
   rw [←dC a2,←dC b2,m4]
  have hm0:=rG h.so hm b5 hi
  subst hm0
  have:(mvN (idP ns x) (idU ns u) (asN ns n0 v0)).af=(asN ns1 n1 v1).af:=by rw [e]
  have h2:(mvN (idP ns x) (idU ns u) (asN ns n0 v0)).af=(asN ns n0 v0).af:=by unfold mvN; split <;> rfl
  rw [h2] at this
  exact this.symm
 have hxid:(asN ns n0 v0).ID=idP ns x:=(dC b2).symm
 have base:∀ (o:Bool) (ids:List Int),(∀ n∈N,n.ID≠idP ns x→(n.ID∈ids↔o=true∧n.aa=idU ns u))→idP ns x ∉ ids→((N.map (mvN (idP ns x) (idU ns u))).map (setN (idP ns1 x) w n1.closed)).map (uZ ids (idP ns x))=N.map (pV (idP ns x) (idU ns u) w o):=by
  intro o ids h1 h2
  rw [BK,BK,m4 x]
  refine AV fun n hn=>?_
  show uZ ids (idP ns x) (setN (idP ns x) w n1.closed (mvN (idP ns x) (idU ns u) n))=_
  unfold pV
  by_cases e:n.ID=idP ns x
  · have hnn:n=asN ns n0 v0:=rG h.so hn b5 (e.trans hxid.symm)
    rw [Ay e]
    unfold uZ
    rw [qW,mF,Aq (by rw [e]; exact h2)]
    unfold setN
    rw [mF,Ay e]
    unfold mvN
    rw [Ay e]
    show (⟨n.ID,idU ns u,w,n1.closed⟩:Nd)=⟨n.ID,idU ns u,w,n.af⟩
    rw [hcl,hnn]; rfl
  · rw [Aq e]
    unfold uZ
    rw [qW,mF]
    have hs:setN (idP ns x) w n1.closed (mvN (idP ns x) (idU ns u) n)=n:=by
     unfold setN
     rw [mF,Aq e]
     unfold mvN
     rw [Aq e]
    rw [hs]
    by_cases hc:o=true∧n.aa=idU ns u
    · rw [Ay ((h1 n hn e).2 hc),Ay hc]
    · rw [Aq (fun hm=>hc ((h1 n hn e).1 hm)),Aq hc]
 unfold iC
 rw [m1,bnoS]
 show ∃ ns' first' kids',(bno (gix ns1 (x:Int)) fun x26=>chk (ns1.length=64)<|bno (ns1[((x:Int)).toNat]?) fun x28=>bnd (ns1.set ((x:Int).toNat) (⟨x28.id,x28.up,x28.first,x28.next,w,x28.closed⟩:Nk)) fun x29=>_)=_∧_
 rw [eA,a2,bnoS,chk,Ay m2.len,Au,a2,bnoS,bndD]
 cases only with
 | false =>
   refine ⟨_,first1,kids1,rfl,?_,m3,hid1⟩
   have:=base false [] (fun n _ _=>by simp) (by simp)
   rw [aAg] at this
   rw [←this]
   exact s1
 | true =>
   rw [AN,bT,bndD]
   -- the kids that move
   have hks:∀ p∈kids1 u,fQ A p:=fun p hp=>m2.kid u p hu hp
   have hksl:(kids1 u).length≤64:=m2.lk.size m2.len hu
   have hch:jR (ns1.set x (⟨n1.id,n1.up,n1.first,n1.next,w,n1.closed⟩:Nk)) (nZ (ns1.set x (⟨n1.id,n1.up,n1.first,n1.next,w,n1.closed⟩:Nk)) first1 u) (kids1 u):=s1.lk.ch u hu
   have hids:∀ n∈N,n.ID≠idP ns x→(n.ID∈((kids1 u).filter (fun p=>decide (p≠x))).map (idP (ns1.set x (⟨n1.id,n1.up,n1.first,n1.next,w,n1.closed⟩:Nk)))↔true=true∧n.aa=idU ns u):=fun n hn hne=>by
    rw [show (true=true∧n.aa=idU ns u)↔n.aa=idU ns u from ⟨fun h=>h.2,fun h=>⟨rfl,h⟩⟩,←vA h hpos hu hn,Am,Am]
    constructor
    · rintro ⟨q,hq,e⟩
      have hq:=Bj.1 hq
      have hqx:q≠x:=of_decide_eq_true hq.2
      rcases (m5 u q).1 hq.1 with ⟨e2,_⟩ | ⟨_,hk⟩
      · exact AI e2 hqx
      · exact ⟨q,hk,by rw [←hid1 q]; exact e⟩
    · rintro ⟨q,hq,e⟩
      have hqx:q≠x:=fun e2=>hne (by rw [←e,e2])
      exact ⟨q,Bj.2 ⟨(m5 u q).2 (.inr ⟨hqx,hq⟩),Ai hqx⟩,by rw [hid1 q]; exact e⟩
   have hnx:idP ns x ∉ ((kids1 u).filter (fun p=>decide (p≠x))).map (idP (ns1.set x (⟨n1.id,n1.up,n1.first,n1.next,w,n1.closed⟩:Nk))):=fun hm=>by
    obtain ⟨q,hq,e⟩:=Am.1 hm
    have hq:=Bj.1 hq
    have hqx:q≠x:=of_decide_eq_true hq.2
    exact hqx (h.inj q x (hks q hq.1) hx (by rw [←hid1 q]; exact e))
   have hfin:=base true _ hids hnx
   have T:PT:=(room,keep,A.Cells,A.Free,A.Used,ns1,first1,cl)
   cases u with
   | none =>
     rw [show decide (upI none = -1)=true from rfl,cK]
     obtain ⟨ns',first',kids',g1,g2,g3,g4⟩:=moves3 (sp:=sp) hx room keep cl (ks:=kids1 none) (by omega) hks (kids1 none) [] fuel _ first1 kids1 _ rfl (eZ (by omega)) s1 m3
     refine ⟨ns',first',kids',?_,?_,g3,fun p=>(g4 p).trans (hid1 p)⟩
     · refine FS (coll2 (x:Int) (room,keep,A.Cells,A.Free,A.Used,ns1,first1,cl) (kids1 none) [] first1 fuel hch (by simp; omega) (eZ (by omega))) ?_
       exact g1
     · rw [←hfin]
       rw [hid1 x] at g2
       exact g2
   | some q =>
     obtain ⟨nq,hq⟩:=s1.lk.at' q hu
     rw [show decide (upI (some q) = -1)=false from Ah (show ¬(q:Int) = -1 by omega),bT,show upI (some q)=(q:Int) from rfl,eA,hq,bnoS,Au,hq,bnoS]
     obtain ⟨ns',first',kids',g1,g2,g3,g4⟩:=moves5 (sp:=sp) hx room keep cl (ks:=kids1 (some q)) (by omega) hks (kids1 (some q)) [] fuel _ first1 kids1 _ rfl (eZ (by omega)) s1 m3
     rw [mL hq] at hch
     refine ⟨ns',first',kids',?_,?_,g3,fun p=>(g4 p).trans (hid1 p)⟩
     · refine FS (coll4 (x:Int) (room,keep,A.Cells,A.Free,A.Used,ns1,first1,cl) (kids1 (some q)) [] nq.first fuel hch (by simp; omega) (eZ (by omega))) ?_
       exact g1
     · rw [←hfin]
       rw [hid1 x] at g2
       exact g2
end Go.Fn
open Go Go.IL
namespace Go.Fn
abbrev Ws:=gJ
def yT (N:List Nd) (w:Ws):Ws:=if w.dep≠0∧∀ m∈N,m.ID≠w.dep then ⟨0,16,false⟩ else w
def upN (N:List Nd) (x d:Int):List Nd:=if d≠0∧x∈iF N N.length d then N.map (mvN d ((rR N x).getD 0)) else N
def pW (N:List Nd) (x:Int) (w:Ws):List Nd:=(upN N x (yT N w).dep).map (pV x (yT N w).dep (yT N w).weight (yT N w).only)
theorem aF6 {N:List Nd} {r:Int→Nat} (hr:∀ m∈N,m.aa≠0→r m.aa<r m.ID) {k:Nat} {z x:Int} (h:x∈iF N k z):r x<r z:=xL hr k z x h
theorem vF {A:AS} {sp:List Nat} {ns:List Nk} {first:Int} {kids:Af Nat→List Nat} {N:List Nd} (h:RL A sp ns first kids N) (h0:∀ u,¬hdK A u→kids u=[]) (hpos:∀ m∈N,1≤m.ID) (hN:N.length≤64) {r:Int→Nat} (hr:∀ m∈N,m.aa≠0→r m.aa<r m.ID) (hpa:∀ m∈N,m.aa=0∨∃ x∈N,x.ID=m.aa) {x:Nat} (hx:fQ A x) {u:Af Nat} (hu:hdK A u) (hux:u≠some x) (v6 w:Int) (only:Bool) (room keep:Int) (cl:List Int) :
 ∃ ns' first' kids',iD (x:Int) room keep A.Cells A.Free A.Used ns first cl (upI u) v6 w only=some (room,keep,A.Cells,A.Free,A.Used,ns',first',cl)∧RL A sp ns' first' kids' ((upN N (idP ns x) (idU ns u)).map (pV (idP ns x) (idU ns u) w only))∧(∀ u,¬hdK A u→kids' u=[])∧∀ p,idP ns' p=idP ns p:=by
 obtain ⟨v,n,b1,b2,b3,b4,b5⟩:=h.up x hx
 unfold iD
 rw [bndD]
 cases u with
 | none =>
   rw [show decide (upI none = -1)=true from rfl,AN,show ((false == true):Bool)=false from rfl,gdff,bnoS,bndD,CS,bT]
   obtain ⟨ns',first',kids',g1,g2,g3,g4⟩:=vE h h0 hpos hx (u:=none) hu hux w only room keep cl
   refine ⟨ns',first',kids',g1,?_,g3,g4⟩
   have:upN N (idP ns x) (idU ns none)=N:=Aq (fun hh=>hh.1 rfl)
   rw [this]; exact g2
 | some q =>
   have hqx:q≠x:=fun e=>hux (by rw [e])
   have hne:idU ns (some q)≠0:=fun e=>by have:=(wQ h hpos hu).1 e; cases this
   rw [show decide (upI (some q) = -1)=false from Ah (show ¬(q:Int) = -1 by omega),AT,BH,gdtt,show upI (some q)=(q:Int) from rfl,aFr h hpos hN hr hpa (p:=q) (t:=x) hu hx,bnoS,bndD,CF]
   by_cases hm:idP ns x∈iF N N.length (idP ns q)
   · rw [Ai hm,cK,eA,b2,bnoS,chk,Ay h.len,Au,b2,bnoS,b3]
     have hlow:=aF6 hr hm
     have hvq:v≠some q:=fun e=>by
      subst e
      have hpar:(asN ns n (some q)).aa=idP ns q:=rfl
      have:=hr _ b5 (by rw [hpar]; exact hne)
      have h2:r (idP ns q)<r (idP ns x):=by rw [dC b2]; exact this
      omega
     obtain ⟨ns1,first1,kids1,m1,m2,m3,m4,m5⟩:=xX h h0 (p:=q) hu (u:=v) b1 hvq room keep cl
     rw [m1,bnoS]
     have hpos1:∀ m∈N.map (mvN (idP ns q) (idU ns v)),1≤m.ID:=fun m hm=>by
      obtain ⟨m0,hm0,rfl⟩:=Am.1 hm
      rw [mF]; exact hpos m0 hm0
     obtain ⟨ns',first',kids',g1,g2,g3,g4⟩:=vE m2 m3 hpos1 hx (u:=some q) hu hux w only room keep cl
     refine ⟨ns',first',kids',g1,?_,g3,fun p=>(g4 p).trans (m4 p)⟩
     have hpo:rR N (idP ns x)=some (idU ns v):=xM h hx b2 b3
     have hup:upN N (idP ns x) (idU ns (some q))=N.map (mvN (idP ns q) (idU ns v)):=by
      unfold upN
      rw [Ay ⟨hne,hm⟩,hpo]; rfl
     have hU:idU ns1 (some q)=idU ns (some q):=m4 q
     rw [m4 x,hU] at g2
     rw [hup]; exact g2
   · rw [Ah hm,bT]
     obtain ⟨ns',first',kids',g1,g2,g3,g4⟩:=vE h h0 hpos hx (u:=some q) hu hux w only room keep cl
     refine ⟨ns',first',kids',g1,?_,g3,g4⟩
     have:upN N (idP ns x) (idU ns (some q))=N:=Aq (fun hh=>hm hh.2)
     rw [this]; exact g2
theorem aC3 {A:AS} {sp:List Nat} {ns:List Nk} {first:Int} {kids:Af Nat→List Nat} {N:List Nd} (h:RL A sp ns first kids N) (h0:∀ u,¬hdK A u→kids u=[]) (hpos:∀ m∈N,1≤m.ID) (hN:N.length≤64) {r:Int→Nat} (hr:∀ m∈N,m.aa≠0→r m.aa<r m.ID) (hpa:∀ m∈N,m.aa=0∨∃ x∈N,x.ID=m.aa) {x:Nat} (hx:fQ A x) (w:Ws) (hw:w.dep≠idP ns x) (hw0:0≤w.dep) (room keep:Int) (cl:List Int) :
 ∃ ns' first' kids',gS (x:Int) w room keep A.Cells A.Free A.Used ns first cl=some (room,keep,A.Cells,A.Free,A.Used,ns',first',cl)∧RL A sp ns' first' kids' (pW N (idP ns x) w)∧(∀ u,¬hdK A u→kids' u=[])∧∀ p,idP ns' p=idP ns p:=by
 unfold gS
 rcases aFM h w.dep room keep cl with ⟨q,f1,f2,f3⟩ | ⟨f1,f3⟩
 · have hq0:w.dep≠0:=fun e=>by
    obtain ⟨u,n,_,g2,_,_,g5⟩:=h.up q f1
    have:=hpos _ g5
    have h2:1≤n.id:=this
    rw [dC g2] at f2; omega
   have hwS:yT N w=w:=by
    unfold yT
    rw [Aq]
    rintro ⟨_,hno⟩
    obtain ⟨u,n,_,g2,_,_,g5⟩:=h.up q f1
    exact hno _ g5 (by show n.id=w.dep; rw [←dC g2]; exact f2)
   rw [f3,bnoS,bndD,Ah (show ¬(q:Int) = -1 by omega),bndD,bndD,CS,bT]
   have hux:(some q:Af Nat)≠some x:=fun e=>by injection e with e; exact hw (by rw [←f2,e])
   obtain ⟨ns',first',kids',g1,g2,g3,g4⟩:=vF h h0 hpos hN hr hpa hx (u:=some q) f1 hux w.dep w.weight w.only room keep cl
   refine ⟨ns',first',kids',g1,?_,g3,g4⟩
   unfold pW
   rw [hwS,←f2]; exact g2
 · rw [f3,bnoS,bndD,Ai rfl,bndD,bndD,CF]
   have hno:∀ m∈N,m.ID≠w.dep:=fun m hm e=>by
    obtain ⟨p,n,u,g1,_,g3,_,rfl⟩:=h.bw m hm
    exact f1 p g1 ((dC g3).trans e)
   by_cases hd:w.dep=0
   · rw [Ai hd,AN,bT]
     have hwS:yT N w=w:=Aq (fun hh=>hh.1 hd)
     obtain ⟨ns',first',kids',g1,g2,g3,g4⟩:=vF h h0 hpos hN hr hpa hx (u:=none) trivial (by simp) w.dep w.weight w.only room keep cl
     refine ⟨ns',first',kids',g1,?_,g3,g4⟩
     unfold pW
     rw [hwS,hd]; exact g2
   · rw [Ah hd,AT,cK]
     have hwS:yT N w=⟨0,16,false⟩:=Ay ⟨hd,hno⟩
     obtain ⟨ns',first',kids',g1,g2,g3,g4⟩:=vF h h0 hpos hN hr hpa hx (u:=none) trivial (by simp) 0 16 false room keep cl
     refine ⟨ns',first',kids',g1,?_,g3,g4⟩
     unfold pW
     rw [hwS]; exact g2
end Go.Fn
open List renaming perm_ext_iff_of_nodup → Em,sum_cons → CN
open Go Go.IL
namespace Go.Fn
def wsum (ns:List Nk) (l:List Nat):Int:=(l.map fun p=>(ns.getD p default).weight).sum
theorem zI:∀ (N:List Nd) (id:Int),sumS N id=((N.filter (fun n=>decide (n.aa=id))).map (fun n=>n.ae)).sum
 | [],_=>rfl
 | n::N,id=>by
   have ih:=zI N id
   show (if n.aa=id then n.ae else 0)+sumS N id=_
   by_cases h:n.aa=id
   · rw [Ay h,BP (by simp [h]),Aj,CN,ih]
   · rw [Aq h,Bs (by simp [h]),ih]; omega
theorem aF5 {l m:List Int} (h:l.Perm m):l.sum=m.sum:=by
 induction h with
 | nil=>rfl
 | cons x _ ih=>rw [CN,CN,ih]
 | swap x y l=>rw [CN,CN,CN,CN]; omega
 | trans _ _ h1 h2=>exact h1.trans h2
theorem ws_sum {A:AS} {sp:List Nat} {ns:List Nk} {first:Int} {kids:Af Nat→List Nat} {N:List Nd} (h:RL A sp ns first kids N) (hpos:∀ m∈N,1≤m.ID) {x:Nat} (hx:fQ A x):wsum ns (kids (some x))=sumS N (idP ns x):=by
 rw [zI]
 have hk:∀ p∈kids (some x),fQ A p:=fun p hp=>h.kid (some x) p hx hp
 have hnode:∀ p∈kids (some x),asN ns (ns.getD p default) (some x)∈N:=fun p hp=>by
  obtain ⟨u,n,g1,g2,g3,g4,g5⟩:=h.up p (hk p hp)
  have hu:u=some x:=h.lk.dj u (some x) p g1 hx g4 hp
  subst hu
  rw [AB,g2]; exact g5
 have hmap:(kids (some x)).map (fun p=>(ns.getD p default).weight)=((kids (some x)).map (fun p=>asN ns (ns.getD p default) (some x))).map (fun n=>n.ae):=by rw [BK]; rfl
 have hp:((kids (some x)).map (fun p=>asN ns (ns.getD p default) (some x))).Perm (N.filter (fun n=>decide (n.aa=idP ns x))):=by
  refine (Em ?_ ?_).2 fun m=>?_
  · refine Bm.2 ((h.lk.nd (some x) hx).imp_of_mem fun {p q} hp hq hne e=>hne ?_)
    exact h.inj p q (hk p hp) (hk q hq) (AJ (·.ID) e)
  · refine List.Pairwise.filter _ ?_
    exact h.so.imp fun hab e=>by rw [e] at hab; omega
  · rw [Am,Bj]
    constructor
    · rintro ⟨p,hp,rfl⟩
      exact ⟨hnode p hp,Ai rfl⟩
    · rintro ⟨hm,hd⟩
      have hpar:m.aa=idU ns (some x):=of_decide_eq_true hd
      obtain ⟨p,hp,e⟩:=Am.1 ((vA h hpos (u:=some x) hx hm).2 hpar)
      refine ⟨p,hp,rG h.so (hnode p hp) hm e⟩
 unfold wsum
 rw [hmap]
 exact aF5 (hp.map _)
theorem off8 {ns:List Nk} {x:Nat} {room keep:Int} {C:List AC} {F U first:Int} {cl:List Int} (r:List Nat):∀ (a acc:Int) (f:Nat),jR ns a r→(∀ p∈r,0≤(ns.getD p default).weight∧(ns.getD p default).weight≤256)→0≤acc→acc+256*r.length≤1000000→r.length<f→gE (x:Int) room keep C F U ns first cl f a acc=iW (x:Int) room keep C F U ns first cl (acc+wsum ns r):=by
 induction r with
 | nil =>
   intro a acc f h _ _ _ hf
   obtain ⟨f,rfl⟩:∃ g,f=g+1:=⟨f-1,by simp at hf; omega⟩
   have h:a = -1:=h
   rw [gE,bndD,h,Ai rfl,AN,bT]
   simp [wsum]
 | cons p r ih =>
   intro a acc f h hw ha hb hf
   obtain ⟨f,rfl⟩:∃ g,f=g+1:=⟨f-1,by simp at hf; omega⟩
   obtain ⟨h1,n,h2,h3⟩:=h
   have hwp:=hw p (by simp)
   have hgn:ns.getD p default=n:=by rw [AB,h2]; rfl
   rw [hgn] at hwp
   simp at hb
   rw [gE,bndD,h1,Ah (by omega),AT,cK,eA,h2,bnoS,Au,h2,bnoS,bnoS,bnoS,bndD,w64 (by omega) (by omega)]
   rw [ih n.next (acc+n.weight) f h3 (fun q hq=>hw q (by simp [hq])) (by omega) (by omega) (by simpa using hf)]
   congr 1
   unfold wsum
   rw [Aj,CN,hgn]; omega
theorem coll5 {ns:List Nk} {x:Nat} {room keep S:Int} {C:List AC} {F U first:Int} {cl:List Int} (r:List Nat):∀ (acc:List Nat) (a:Int) (f:Nat),jR ns a r→acc.length+r.length≤1000→r.length<f→gF (x:Int) room keep C F U ns first cl S f a (toI acc)=dJ (x:Int) S (toI (acc++r)) fuel 0 room keep C F U ns first cl:=by
 induction r with
 | nil =>
   intro acc a f h _ hf
   obtain ⟨f,rfl⟩:∃ g,f=g+1:=⟨f-1,by simp at hf; omega⟩
   have h:a = -1:=h
   rw [gF,bndD,h,Ai rfl,AN,bT,AW]
 | cons p r ih =>
   intro acc a f h ha hf
   obtain ⟨f,rfl⟩:∃ g,f=g+1:=⟨f-1,by simp at hf; omega⟩
   obtain ⟨h1,n,h2,h3⟩:=h
   simp at ha
   have hal:(toI acc).length=acc.length:=by unfold toI; simp
   rw [gF,bndD,h1,Ah (by omega),AT,cK,eA,h2,bnoS,Au,h2,bnoS,nW (by simp; omega) (by simp; omega),bnoS]
   have:=ih (acc++[p]) n.next f h3 (by simp; omega) (by simpa using hf)
   rw [show toI (acc++[p])=toI acc++[(p:Int)] by unfold toI; simp] at this
   rw [this,AH]; rfl
end Go.Fn
open Go Go.IL
namespace Go.Fn
theorem aAX {A:AS} {sp:List Nat} {ns:List Nk} {first:Int} {kids:Af Nat→List Nat} {N:List Nd} (h:RL A sp ns first kids N) {p:Nat} (hp:fQ A p) {m:Nd} (hm:m∈N) (e:m.ID=idP ns p):∃ n u,ns[p]? = some n∧hdK A u∧n.up=upI u∧m=asN ns n u:=by
 obtain ⟨u,n,h1,h2,h3,h4,h5⟩:=h.up p hp
 refine ⟨n,u,h2,h1,h3,rG h.so hm h5 ?_⟩
 rw [e,dC h2]; rfl
def upsN (ids:List Int) (d W S:Int) (n:Nd):Nd:=if n.ID∈ids then ⟨n.ID,d,max (W*n.ae / S) 1,n.af⟩ else n
theorem aAI (ids:List Int) (d W S:Int) (n:Nd):(upsN ids d W S n).ID=n.ID:=by unfold upsN; split <;> rfl
theorem aD7 (d W S:Int) (N:List Nd):N.map (upsN [] d W S)=N:=by
 conv=>rhs; rw [←CY N]
 exact AV fun n _=>by unfold upsN; rw [Aq (by simp)]; rfl
theorem aFq {a:Int} {ids:List Int} (ha:a ∉ ids) (d W S w:Int) (c:Bool) {N:List Nd} (hso:N.Pairwise (fun a b=>a.ID<b.ID)) {m:Nd} (hm:m∈N) (hma:m.ID=a) (hw:w=max (W*m.ae / S) 1) (hc:c=m.af):((N.map (setN a w c)).map (mvN a d)).map (upsN ids d W S)=N.map (upsN (a::ids) d W S):=by
 rw [BK,BK]
 refine AV fun n hn=>?_
 show upsN ids d W S (mvN a d (setN a w c n))=upsN (a::ids) d W S n
 by_cases h1:n.ID=a
 · have hnm:n=m:=rG hso hn hm (h1.trans hma.symm)
   subst hnm
   have e1:mvN a d (setN a w c n)=⟨n.ID,d,w,c⟩:=by
    unfold mvN
    rw [qW,Ay h1]
    unfold setN
    rw [Ay h1]
   rw [e1]
   unfold upsN
   rw [Aq (show n.ID ∉ ids from h1 ▸ ha),Ay (show n.ID∈a::ids by simp [h1]),hw,hc]
 · have e1:mvN a d (setN a w c n)=n:=by
    unfold mvN
    rw [qW,Aq h1]
    unfold setN
    rw [Aq h1]
   rw [e1]
   unfold upsN
   by_cases h2:n.ID∈ids
   · rw [Ay h2,Ay (by simp [h2])]
   · rw [Aq h2,Aq (by simp [h1,h2])]
theorem off6 {A:AS} {sp:List Nat} {x:Nat} (hx:fQ A x) (room keep:Int) (cl:List Int) {S:Int} (hS:1≤S) {v:Af Nat} (hv:hdK A v) {W:Int} (hW:1≤W∧W≤256) {cx:Bool} {ks:List Nat} (hks:ks.length≤64) (hal:∀ p∈ks,fQ A p) (hkx:∀ p∈ks,p≠x) (hkv:∀ p∈ks,v≠some p) (hkn:ks.Nodup) (r:List Nat):∀ (q:List Nat) (f:Nat) (ns:List Nk) (first:Int) (kids:Af Nat→List Nat) (N:List Nd),ks=q++r→r.length<f→RL A sp ns first kids N→(∀ u,¬hdK A u→kids u=[])→(∀ m∈N,1≤m.ID)→(∀ m∈N,1≤m.ae∧m.ae≤256)→(∀ m∈N,m.ID∈r.map (idP ns)→m.ae≤S)→(⟨idP ns x,idU ns v,W,cx⟩:Nd)∈N →
 ∃ ns' first' kids' f',dJ (x:Int) S (toI ks) f (q.length:Int) room keep A.Cells A.Free A.Used ns first cl=dJ (x:Int) S (toI ks) (f'+1) (ks.length:Int) room keep A.Cells A.Free A.Used ns' first' cl∧RL A sp ns' first' kids' (N.map (upsN (r.map (idP ns)) (idU ns v) W S))∧(∀ u,¬hdK A u→kids' u=[])∧(∀ p,idP ns' p=idP ns p)∧∀ u p,(p ∉ r)→(p∈kids' u↔p∈kids u):=by
 induction r with
 | nil =>
   intro q f ns first kids N h hf hR h0 hpos hw hle hxN
   obtain ⟨f,rfl⟩:∃ g,f=g+1:=⟨f-1,by simp at hf; omega⟩
   rw [AW] at h
   exact ⟨ns,first,kids,f,by rw [h],by rw [As,aD7]; exact hR,h0,fun _=>rfl,fun _ _ _=>DA⟩
 | cons p r ih =>
   intro q f ns first kids N h hf hR h0 hpos hw hle hxN
   obtain ⟨f,rfl⟩:∃ g,f=g+1:=⟨f-1,by simp at hf; omega⟩
   obtain ⟨e1,e2,e3,e4⟩:=gixI h (by omega)
   have hpm:p∈ks:=by rw [h]; simp
   have hp:=hal p hpm
   have hpx:=hkx p hpm
   obtain ⟨nx,vx,x1,x2,x3,x4⟩:=aAX hR hx hxN rfl
   have hvx:vx=v:=aAq hR hpos x2 hv (AJ (·.aa) x4).symm
   subst hvx
   have hxw:nx.weight=W:=(AJ (·.ae) x4).symm
   obtain ⟨up,np,p1,p2,p3,p4,p5⟩:=hR.up p hp
   have hwp:=hw _ p5
   have hwp:1≤np.weight∧np.weight≤256:=hwp
   have hprod:0≤nx.weight*np.weight∧nx.weight*np.weight≤65536:=by
    rw [hxw]
    constructor
    · exact Int.mul_nonneg (by omega) (by omega)
    · calc W*np.weight≤256*256:=Fc hW.2 hwp.2 (by omega) (by decide)
       _=65536:=by decide
   have hquo:quoI .i64 (nx.weight*np.weight) S=some (W*np.weight / S):=by
    rw [quo_ok hprod.1 (by omega) (by omega),hxw]
   obtain ⟨s1,s2⟩:=aEH hR hp p2 (max (W*np.weight / S) 1) np.closed
   have hx1:(ns.set p (⟨np.id,np.up,np.first,np.next,max (W*np.weight / S) 1,np.closed⟩:Nk))[x]? = some nx:=by rw [AD hpx]; exact x1
   obtain ⟨ns1,first1,kids1,m1,m2,m3,m4,m5⟩:=xX s1 h0 hp (u:=vx) hv (hkv p hpm) room keep cl
   have hidp:∀ y,idP ns1 y=idP ns y:=fun y=>(m4 y).trans (s2 y)
   have hidU:∀ u,idU ns1 u=idU ns u:=fun u=>by cases u with
    | none=>rfl
    | some y=>exact hidp y
   have hidU2:idU (ns.set p (⟨np.id,np.up,np.first,np.next,max (W*np.weight / S) 1,np.closed⟩:Nk)) vx=idU ns vx:=by cases vx with
    | none=>rfl
    | some y=>exact s2 y
   rw [s2 p,hidU2] at m2
   have himg:∀ m∈(N.map (setN (idP ns p) (max (W*np.weight / S) 1) np.closed)).map (mvN (idP ns p) (idU ns vx)),1≤m.ID∧1≤m.ae∧m.ae≤256:=fun m hm=>by
    obtain ⟨m1,hm1,rfl⟩:=Am.1 hm
    obtain ⟨m0,hm0,rfl⟩:=Am.1 hm1
    have hmw:(mvN (idP ns p) (idU ns vx) (setN (idP ns p) (max (W*np.weight / S) 1) np.closed m0)).ae=(setN (idP ns p) (max (W*np.weight / S) 1) np.closed m0).ae:=by unfold mvN; split <;> rfl
    rw [mF,qW,hmw]
    refine ⟨hpos m0 hm0,?_⟩
    unfold setN
    split
    · show 1≤max (W*np.weight / S) 1∧max (W*np.weight / S) 1≤256
      have hws:np.weight≤S:=hle _ p5 (by rw [show ((asN ns np up:Nd)).ID=idP ns p from (dC p2).symm]; simp)
      have:W*np.weight / S≤256:=ET (by omega) (Fc hW.2 hws (by omega) (by decide))
      omega
    · exact hw m0 hm0
   have hmap:r.map (idP ns1)=r.map (idP ns):=AV fun y _=>hidp y
   have hnr:p ∉ r:=fun hm=>by
    rw [h] at hkn
    exact (Bo.1 (Cv.1 hkn).2.1).1 hm
   have hnid:idP ns p ∉ r.map (idP ns):=fun hm=>by
    obtain ⟨y,hy,e⟩:=Am.1 hm
    have hya:=hal y (by rw [h]; simp [hy])
    exact hnr (hR.inj y p hya hp e ▸ hy)
   have himl:∀ m∈(N.map (setN (idP ns p) (max (W*np.weight / S) 1) np.closed)).map (mvN (idP ns p) (idU ns vx)),m.ID∈r.map (idP ns1)→m.ae≤S:=fun m hm=>by
    obtain ⟨m1,hm1,rfl⟩:=Am.1 hm
    obtain ⟨m0,hm0,rfl⟩:=Am.1 hm1
    have hmw:(mvN (idP ns p) (idU ns vx) (setN (idP ns p) (max (W*np.weight / S) 1) np.closed m0)).ae=(setN (idP ns p) (max (W*np.weight / S) 1) np.closed m0).ae:=by unfold mvN; split <;> rfl
    rw [mF,qW,hmw,hmap]
    intro hmi
    have hne:m0.ID≠idP ns p:=fun e=>hnid (e ▸ hmi)
    unfold setN
    rw [Aq hne]
    exact hle m0 hm0 (by rw [Aj]; exact Br _ hmi)
   have hxN1:(⟨idP ns1 x,idU ns1 vx,W,cx⟩:Nd)∈(N.map (setN (idP ns p) (max (W*np.weight / S) 1) np.closed)).map (mvN (idP ns p) (idU ns vx)):=by
    rw [hidp x,hidU vx]
    have hne:idP ns x≠idP ns p:=fun e=>hpx (hR.inj x p hx hp e).symm
    refine Am.2 ⟨_,Am.2 ⟨_,hxN,rfl⟩,?_⟩
    unfold mvN
    rw [qW,Aq hne]
    unfold setN
    rw [Aq hne]
   obtain ⟨ns',first',kids',f',g1,g2,g3,g4,g5⟩:=ih (q++[p]) f ns1 first1 kids1 _ (by rw [h]; simp) (by simpa using hf) m2 m3 (fun m hm=>(himg m hm).1) (fun m hm=>(himg m hm).2) himl hxN1
   refine ⟨ns',first',kids',f',?_,?_,g3,fun y=>(g4 y).trans (hidp y),fun u y hy=>?_⟩
   · rw [dJ,bndD,e1,cK,e2,bnoS,e3,bnoS,eA,x1,bnoS,chk,Ay hR.len,Au,x1,bnoS,eA,p2,bnoS,Au,p2,bnoS,bndD,w64 (by omega) (by omega),hquo,bnoS,bndD,bnoS,bnoS,bndD,eA,hx1,bnoS,bnoS,x3,m1,bnoS,bndD,e4]
     exact g1
   · rw [hmap,hidU vx] at g2
     rw [Aj,←aFq hnid (idU ns vx) W S (max (W*np.weight / S) 1) np.closed hR.so p5 (dC p2).symm rfl rfl]
     exact g2
   · simp at hy
     rw [g5 u y hy.2,m5 u y]
     constructor
     · rintro (⟨e,_⟩ | ⟨_,hm⟩)
       · exact AI e hy.1
       · exact hm
     · exact fun hm=>.inr ⟨hy.1,hm⟩
end Go.Fn
open Go Go.IL
namespace Go.Fn
theorem del19 {E:List Int} {id:Int} (hl:E.length≤100000):dT E id=some (E.filter fun y=>!decide (y=id)) :=
 sU (P:=fun x=>lW x id) (q:=fun y=>decide (y=id)) (I:=dS E id) (L:=cV id) (fun _=>rfl) (fun _ _=>rfl) (fun _ _ _ _=>rfl) hl
theorem mR {A:AS} {x:Nat} (hx:fQ A x) (p:Nat):fQ (qK A x) p↔fQ A p∧p≠x:=by
 obtain ⟨c,hc,_⟩:=hx
 unfold fQ qK
 by_cases e:p=x
 · subst e
   rw [Aw (Ag.1 hc).1]
   constructor
   · rintro ⟨d,hd,hl⟩
     injection hd with hd
     subst hd
     cases hl
   · exact fun h=>AI rfl h.2
 · rw [AD (Ne.symm e)]
   exact ⟨fun h=>⟨h,e⟩,fun h=>h.1⟩
theorem rF {A:AS} {x:Nat} (hx:fQ A x) (u:Af Nat):hdK (qK A x) u↔hdK A u∧u≠some x:=by
 cases u with
 | none=>exact ⟨fun h=>⟨h,nofun⟩,fun h=>h.1⟩
 | some p =>
   constructor
   · exact fun h=>⟨((mR hx p).1 h).1,fun e=>((mR hx p).1 h).2 (Option.some.inj e)⟩
   · exact fun h=>(mR hx p).2 ⟨h.1,fun e=>h.2 (e ▸ rfl)⟩
theorem gone_ok {A:AS} {sp:List Nat} {ns:List Nk} {first:Int} {kids:Af Nat→List Nat} {N:List Nd} (h:RL A sp ns first kids N) (h0:∀ u,¬hdK A u→kids u=[]) {x:Nat} (hx:fQ A x) (hk:kids (some x)=[]) (room keep:Int) {cl:List Int} (hcl:cl.length≤100000) {S:Int} {ks:List Nat} (hks:ks.length≤1000) (f:Nat) :
 ∃ ns' first' kids',dJ (x:Int) S (toI ks) (f+1) (ks.length:Int) room keep A.Cells A.Free A.Used ns first cl=some (room,keep,(qK A x).Cells,(qK A x).Free,(qK A x).Used,ns',first',cl.filter fun y=>!decide (y=(x:Int)))∧RL (qK A x) (x::sp) ns' first' kids' (N.filter fun n=>!decide (n.ID=idP ns x))∧(∀ u,¬hdK (qK A x) u→kids' u=[])∧(∀ q,idP ns' q=idP ns q):=by
 obtain ⟨u,nx,a1,a2,a3,a4,a5,a6⟩:=h.par hx
 obtain ⟨ns1,first1,b1,b2,b3,b4⟩:=aA3 h.len h.lk a1 a2 a3 a4 room keep A.Cells A.Free A.Used cl
 obtain ⟨c,hc,hl⟩:=hx
 obtain ⟨g1,g2⟩:=give_ok h.ga hc hl
 have hx:fQ A x:=⟨c,hc,hl⟩
 have hid:∀ q,idP ns1 q=idP ns q:=fun q=>aAF (b4 q)
 have hidU:∀ v,idU ns1 v=idU ns v:=fun v=>by
  cases v with
  | none=>rfl
  | some q=>exact hid q
 have hnd:=h.lk.nd u a1
 have hdr:∀ v q,hdK A v→(q∈pI kids u x v↔q≠x∧q∈kids v):=fun v q hv=>by
  unfold pI
  by_cases e:v=u
  · rw [Ay e,hnd.mem_erase_iff,e]
  · rw [Aq e]
    exact ⟨fun hm=>⟨fun e2=>e (a6 v hv (e2 ▸ hm)),hm⟩,fun hm=>hm.2⟩
 refine ⟨ns1,first1,_,?_,⟨g2,b2,⟨fun v hv=>b3.ch v ((rF hx v).1 hv).1,fun v hv=>b3.nd v ((rF hx v).1 hv).1,fun v w p hv hw=>b3.dj v w p ((rF hx v).1 hv).1 ((rF hx w).1 hw).1,fun p hp=>b3.at' p ((rF hx (some p)).1 hp).1⟩,fun p hp=>?_,fun v p hv hm=>?_,fun m hm=>?_,fun p q hp hq e=>h.inj p q ((mR hx p).1 hp).1 ((mR hx q).1 hq).1 (by rw [←hid p,←hid q]; exact e),?_⟩,fun v hv=>?_,hid⟩
 · rw [dJ,bndD,show (toI ks).length=ks.length by unfold toI; simp,Ah (by omega),bT,b1,bnoS]
   show (bno (oG A (x:Int)) _)=_
   rw [g1,bnoS]
   show (chk (ns1.length=64)<|bno (dT cl (x:Int)) _)=_
   rw [chk,Ay b2,del19 hcl,bnoS]
 · obtain ⟨hpa,hpx⟩:=(mR hx p).1 hp
   obtain ⟨v,n,k1,k2,k3,k4,k5⟩:=h.up p hpa
   have hvx:v≠some x:=fun e=>by rw [e,hk] at k4; cases k4
   obtain ⟨n',q1,q2⟩:=oK (b4 p) k2
   obtain ⟨q3,q4,q5,q6⟩:=qU q2
   refine ⟨v,n',(rF hx v).2 ⟨k1,hvx⟩,q1,q4.trans k3,(hdr v p k1).2 ⟨hpx,k4⟩,?_⟩
   have e:asN ns1 n' v=asN ns n v:=by unfold asN; rw [q3,q5,q6,hidU]
   rw [e]
   refine Bj.2 ⟨k5,?_⟩
   have hne:(asN ns n v).ID≠idP ns x:=fun e=>hpx (h.inj p x hpa hx (by rw [dC k2]; exact e))
   rw [Ah hne]; rfl
 · obtain ⟨hv1,hv2⟩:=(rF hx v).1 hv
   obtain ⟨e1,e2⟩:=(hdr v p hv1).1 hm
   exact (mR hx p).2 ⟨h.kid v p hv1 e2,e1⟩
 · obtain ⟨hm1,hm2⟩:=Bj.1 hm
   obtain ⟨p,n,v,k1,k2,k3,k4,rfl⟩:=h.bw m hm1
   have hpx:p≠x:=fun e=>by
    subst e
    have:(asN ns n v).ID=idP ns p:=(dC k3).symm
    rw [Ai this] at hm2
    cases hm2
   have hvx:v≠some x:=fun e=>by
    obtain ⟨v',n',q1,q2,q3,q4,q5⟩:=h.up p k1
    rw [k3] at q2
    injection q2 with q2
    subst q2
    have:v=v':=aBl (k4.symm.trans q3)
    rw [←this,e,hk] at q4; cases q4
   obtain ⟨n',q1,q2⟩:=oK (b4 p) k3
   obtain ⟨q3,q4,q5,q6⟩:=qU q2
   refine ⟨p,n',v,(mR hx p).2 ⟨k1,hpx⟩,(rF hx v).2 ⟨k2,hvx⟩,q1,q4.trans k4,?_⟩
   unfold asN
   rw [q3,q5,q6,hidU]
 · exact List.Pairwise.filter _ h.so
 · by_cases hv2:hdK A v
   · have hvx:v=some x:=by
      refine Classical.byContradiction fun e=>hv ((rF hx v).2 ⟨hv2,e⟩)
     refine Cz.2 fun q hm=>?_
     have:=((hdr v q hv2).1 hm).2
     rw [hvx,hk] at this; cases this
   · refine Cz.2 fun q hm=>?_
     unfold pI at hm
     split at hm
     · rename_i e; exact hv2 (e ▸ a1)
     · rw [h0 v hv2] at hm; cases hm
end Go.Fn
open List renaming exists_mem_of_ne_nil → Er,map_append → Ch
open Nat renaming lt_irrefl → BO
open Go Go.IL
namespace Go.Fn
theorem off_ok {A:AS} {sp:List Nat} {ns:List Nk} {first:Int} {kids:Af Nat→List Nat} {N:List Nd} (h:RL A sp ns first kids N) (h0:∀ u,¬hdK A u→kids u=[]) (hpos:∀ m∈N,1≤m.ID) (hw:∀ m∈N,1≤m.ae∧m.ae≤256) {r:Int→Nat} (hr:∀ m∈N,m.aa≠0→r m.aa<r m.ID) {x:Nat} (hx:fQ A x) (room keep:Int) {cl:List Int} (hcl:cl.length≤100000) :
 ∃ L y R ns' first' kids',N=L++y::R∧y.ID=idP ns x∧fR (x:Int) room keep A.Cells A.Free A.Used ns first cl=some (room,keep,(qK A x).Cells,(qK A x).Free,(qK A x).Used,ns',first',cl.filter fun y=>!decide (y=(x:Int)))∧RL (qK A x) (x::sp) ns' first' kids' (offS L y R)∧(∀ u,¬hdK (qK A x) u→kids' u=[])∧(∀ q,idP ns' q=idP ns q):=by
 obtain ⟨v,nx,hv,hxn,hup,hxk,hxN⟩:=h.up x hx
 have hyid:(asN ns nx v).ID=idP ns x:=(dC hxn).symm
 obtain ⟨L,R,hN⟩:=Df hxN
 have hsize:=h.lk.size h.len (u:=some x) hx
 have hal:∀ p∈kids (some x),fQ A p:=fun p hp=>h.kid (some x) p hx hp
 have hposx:1≤idP ns x:=hyid ▸ hpos _ hxN
 have hkid:∀ m∈N,(m.ID∈(kids (some x)).map (idP ns)↔m.aa=idP ns x):=fun m hm=>vA h hpos (u:=some x) hx hm
 have hnode:∀ p∈kids (some x),∃ n,ns[p]? = some n∧n.up=upI (some x)∧asN ns n (some x)∈N:=fun p hp=>by
  obtain ⟨u,n,g1,g2,g3,g4,g5⟩:=h.up p (hal p hp)
  have hu:u=some x:=h.lk.dj u (some x) p g1 hx g4 hp
  subst hu
  exact ⟨n,g2,g3,g5⟩
 have hrk:∀ p∈kids (some x),r (idP ns x)<r (idP ns p):=fun p hp=>by
  obtain ⟨n,g1,g2,g3⟩:=hnode p hp
  have:=hr _ g3 (show idP ns x≠0 by omega)
  rw [dC g1]; exact this
 have hvx:v≠some x:=fun e=>by
  subst e
  have:=hr _ hxN (show idP ns x≠0 by omega)
  rw [hyid] at this
  exact BO _ this
 have hkx:∀ p∈kids (some x),p≠x:=fun p hp e=>by
  have:=hrk p hp
  rw [e] at this; omega
 have hkv:∀ p∈kids (some x),v≠some p:=fun p hp e=>by
  subst e
  obtain ⟨n,g1,g2,g3⟩:=hnode p hp
  have h1:=hrk p hp
  have h2:=hr _ hxN (show idP ns p≠0 by
   have:=hpos _ g3
   rw [dC g1]
   have:1≤n.id:=this
   omega)
  rw [hyid] at h2
  have h2:r (idP ns p)<r (idP ns x):=h2
  omega
 have hW:=hw _ hxN
 have hW:1≤nx.weight∧nx.weight≤256:=hW
 have hsum:wsum ns (kids (some x))=sumS N (idP ns x):=ws_sum h hpos hx
 have hS2:sumS N (idP ns x)=sumS (L++R) (asN ns nx v).ID:=by
  rw [hyid]
  have hne:(asN ns nx v).aa≠idP ns x:=fun e=>hvx (aAq h hpos hv (v:=some x) hx e)
  rw [hN,aBm,aBm]
  show _+((if (asN ns nx v).aa=idP ns x then _ else 0)+_)=_
  rw [Aq hne]; omega
 have hch:jR ns nx.first (kids (some x)):=by
  have:=h.lk.ch (some x) hx
  rw [mL hxn] at this; exact this
 have hwk:∀ p∈kids (some x),0≤(ns.getD p default).weight∧(ns.getD p default).weight≤256:=fun p hp=>by
  obtain ⟨n,g1,g2,g3⟩:=hnode p hp
  have:=hw _ g3
  have:1≤n.weight∧n.weight≤256:=this
  rw [AB,g1]
  exact ⟨by show 0≤n.weight; omega,this.2⟩
 obtain ⟨f0,hf0⟩:∃ f,fuel=f+1:=⟨fuel-1,by decide⟩
 have hstep:fR (x:Int) room keep A.Cells A.Free A.Used ns first cl=dJ (x:Int) (sumS N (idP ns x)) (toI (kids (some x))) fuel 0 room keep A.Cells A.Free A.Used ns first cl:=by
  unfold fR
  rw [bndD,Ah (by omega),bT,eA,hxn,bnoS,chk,Ay h.len,Au,hxn,bnoS]
  rw [off8 (kids (some x)) nx.first 0 fuel hch hwk (by omega) (by omega) (eZ (by omega))]
  unfold iW
  rw [bndD,Ah (by omega),bT,eA,hxn,bnoS,chk,Ay h.len,Au,hxn,bnoS]
  have:=coll5 (x:=x) (room:=room) (keep:=keep) (S:=0+wsum ns (kids (some x))) (C:=A.Cells) (F:=A.Free) (U:=A.Used) (first:=first) (cl:=cl) (kids (some x)) [] nx.first fuel hch (by simp; omega) (eZ (by omega))
  rw [show toI []=([]:List Int) from rfl,BM] at this
  rw [this,Int.zero_add,hsum]
 have hall:∃ ns1 first1 kids1 f1,dJ (x:Int) (sumS N (idP ns x)) (toI (kids (some x))) fuel 0 room keep A.Cells A.Free A.Used ns first cl=dJ (x:Int) (sumS N (idP ns x)) (toI (kids (some x))) (f1+1) ((kids (some x)).length:Int) room keep A.Cells A.Free A.Used ns1 first1 cl∧RL A sp ns1 first1 kids1 (N.map (upsN ((kids (some x)).map (idP ns)) (idU ns v) nx.weight (sumS N (idP ns x))))∧(∀ u,¬hdK A u→kids1 u=[])∧(∀ p,idP ns1 p=idP ns p):=by
  by_cases hk:kids (some x)=[]
  · rw [hk]
    exact ⟨ns,first,kids,f0,by rw [hf0]; rfl,by rw [As,aD7]; exact h,h0,fun _=>rfl⟩
  · obtain ⟨p,hp⟩:=Er _ hk
    obtain ⟨n,g1,g2,g3⟩:=hnode p hp
    have hge:=aCS hw g3
    have hge:n.weight≤sumS N (idP ns x):=hge
    have h1:=(hw _ g3).1
    have h1:1≤n.weight:=h1
    obtain ⟨ns1,first1,kids1,f1,c1,c2,c3,c4,c5⟩:=off6 hx room keep cl (S:=sumS N (idP ns x)) (by omega) hv hW (cx:=nx.closed) hsize hal hkx hkv (h.lk.nd (some x) hx) (kids (some x)) [] fuel ns first kids N rfl (eZ (by omega)) h h0 hpos hw (fun m hm hmi=>by
     have hp:=(hkid m hm).1 hmi
     have:=aCS hw hm
     rw [hp] at this; exact this) (by rw [dC hxn]; exact hxN)
    exact ⟨ns1,first1,kids1,f1,c1,c2,c3,c4⟩
 obtain ⟨ns1,first1,kids1,f1,c1,c2,c3,c4⟩:=hall
 have hidU:∀ u,idU ns1 u=idU ns u:=fun u=>by cases u with
  | none=>rfl
  | some y=>exact c4 y
 have hpos1:∀ m∈N.map (upsN ((kids (some x)).map (idP ns)) (idU ns v) nx.weight (sumS N (idP ns x))),1≤m.ID:=fun m hm=>by
  obtain ⟨m0,hm0,rfl⟩:=Am.1 hm
  rw [aAI]; exact hpos m0 hm0
 have hk1:kids1 (some x)=[]:=by
  refine Cz.2 fun p hp=>?_
  obtain ⟨u,n,g1,g2,g3,g4,g5⟩:=c2.up p (c2.kid (some x) p hx hp)
  have hpar:=(vA c2 hpos1 (u:=some x) hx g5).1 (Am.2 ⟨p,hp,dC g2⟩)
  rw [hidU] at hpar
  obtain ⟨m0,hm0,e⟩:=Am.1 g5
  rw [←e] at hpar
  unfold upsN at hpar
  split at hpar
  · exact hvx (aAq h hpos hv (v:=some x) hx hpar)
  · rename_i hn
    exact hn ((hkid m0 hm0).2 hpar)
 obtain ⟨ns2,first2,kids2,d1,d2,d3,d4⟩:=gone_ok c2 c3 hx hk1 room keep hcl (S:=sumS N (idP ns x)) (ks:=kids (some x)) (by omega) f1
 refine ⟨L,asN ns nx v,R,ns2,first2,kids2,hN,hyid,?_,?_,d3,fun q=>(d4 q).trans (c4 q)⟩
 · rw [hstep,c1,d1]
 · have hL:(N.map (upsN ((kids (some x)).map (idP ns)) (idU ns v) nx.weight (sumS N (idP ns x)))).filter (fun n=>!decide (n.ID=idP ns1 x))=offS L (asN ns nx v) R:=by
    have hso:=h.so
    rw [hN] at hso
    have hdis:∀ m∈L++R,m.ID≠idP ns x:=fun m hm e=>by
     obtain ⟨s1,s2,s3⟩:=BD.1 hso
     rcases AM.1 hm with hm | hm
     · have:=s3 m hm _ (BX ..)
       omega
     · have:=(AU.1 s2).1 m hm
       omega
    have hmem:∀ m∈L++R,m∈N:=fun m hm=>by
     rw [hN]
     rcases AM.1 hm with hm | hm
     · exact AM.2 (.inl hm)
     · exact AM.2 (.inr (Br _ hm))
    have hmapN:∀ m∈L++R,upsN ((kids (some x)).map (idP ns)) (idU ns v) nx.weight (sumS N (idP ns x)) m=offN (asN ns nx v) (sumS (L++R) (asN ns nx v).ID) m:=fun m hm=>by
     unfold upsN offN
     rw [hS2]
     by_cases e:m.aa=idP ns x
     · rw [Ay ((hkid m (hmem m hm)).2 e),Ay (e.trans hyid.symm)]; rfl
     · rw [Aq (fun hc=>e ((hkid m (hmem m hm)).1 hc)),Aq (fun hc=>e (hc.trans hyid))]
    unfold offS
    rw [c4 x]
    conv=>lhs; rw [hN]
    rw [Ch,Aj,CB,Bs (by rw [aAI,hyid]; simp),Ch]
    congr 1
    · rw [Ci.2]
      · exact AV fun m hm=>by rw [←hN]; exact hmapN m (AM.2 (.inl hm))
      · intro a ha
        obtain ⟨m,hm,rfl⟩:=Am.1 ha
        rw [aAI,Ah (hdis m (AM.2 (.inl hm)))]; rfl
    · rw [Ci.2]
      · exact AV fun m hm=>by rw [←hN]; exact hmapN m (AM.2 (.inr hm))
      · intro a ha
        obtain ⟨m,hm,rfl⟩:=Am.1 ha
        rw [aAI,Ah (hdis m (AM.2 (.inr hm)))]; rfl
   rw [←hL]; exact d2
end Go.Fn
open Go Go.IL
namespace Go.Fn
theorem new_ok {A:AS} {sp:List Nat} {ns:List Nk} {first:Int} {kids:Af Nat→List Nat} {N:List Nd} (h:RL A sp ns first kids N) (h0:∀ u,¬hdK A u→kids u=[]) (hu:A.Used<64) {id:Int} {L R:List Nd} (hN:N=L++R) (hso:(L++(⟨id,0,16,false⟩:Nd)::R).Pairwise (fun a b=>a.ID<b.ID)) (room keep:Int) (cl:List Int) :
 ∃ ns' first' kids',gN (takeP A sp:Int) (-1) room keep (takeS A id sp).Cells (takeS A id sp).Free (takeS A id sp).Used (ns.set (takeP A sp) (⟨id,0,-1,-1,16,false⟩:Nk)) first cl=some (room,keep,(takeS A id sp).Cells,(takeS A id sp).Free,(takeS A id sp).Used,ns',first',cl)∧RL (takeS A id sp) sp.tail ns' first' kids' (L++(⟨id,0,16,false⟩:Nd)::R)∧(∀ u,¬hdK (takeS A id sp) u→kids' u=[])∧idP ns' (takeP A sp)=id∧(∀ p,p≠takeP A sp→idP ns' p=idP ns p)∧¬ fQ A (takeP A sp)∧∀ p,fQ (takeS A id sp) p↔fQ A p∨p=takeP A sp:=by
 obtain ⟨t1,t2,t3,t4,t5,t6⟩:=aEA h.ga id hu
 generalize takeP A sp=q at *
 generalize takeS A id sp=A' at *
 have hal:∀ p,fQ A' p↔fQ A p∨p=q:=fun p=>by
  by_cases e:p=q
  · subst e
    exact ⟨fun _=>.inr rfl,fun _=>⟨_,t3,rfl⟩⟩
  · unfold fQ
    rw [t4 p e]
    exact ⟨fun h=>.inl h,fun h=>h.elim (fun h=>h) (fun h=>AI h e)⟩
 have hqn:¬ fQ A q:=fun ⟨c,hc,hl⟩=>by rw [t5 c hc] at hl; cases hl
 have hqk:∀ v,q ∉ kids v:=fun v hm=>by
  by_cases hv:hdK A v
  · exact hqn (h.kid v q hv hm)
  · rw [h0 v hv] at hm; cases hm
 have hkq:kids (some q)=[]:=h0 _ hqn
 have hhd:∀ u,hdK A' u↔hdK A u∨u=some q:=fun u=>by
  cases u with
  | none=>exact ⟨fun h=>.inl h,fun _=>trivial⟩
  | some p =>
    rw [show hdK A' (some p)↔_ from hal p]
    exact ⟨fun h=>h.elim .inl (fun e=>.inr (e ▸ rfl)),fun h=>h.elim .inl (fun e=>.inr (Option.some.inj e))⟩
 have hvq:∀ v,hdK A v→v≠some q:=fun v hv e=>by subst e; exact hqn hv
 have hq:(ns.set q (⟨id,0,-1,-1,16,false⟩:Nk))[q]? = some (⟨id,0,-1,-1,16,false⟩:Nk):=Aw (by rw [h.len]; exact t6)
 have hoth:∀ p,p≠q→(ns.set q (⟨id,0,-1,-1,16,false⟩:Nk))[p]? = ns[p]?:=fun p e=>AD (Ne.symm e)
 have hlk:Lk (ns.set q (⟨id,0,-1,-1,16,false⟩:Nk)) first (hdK A') kids:=by
  refine ⟨fun u hu=>?_,fun u hu=>?_,fun u v p hu hv hpu hpv=>?_,fun p hp=>?_⟩
  · rcases (hhd u).1 hu with hu | rfl
    · have hc:=(h.lk.ch u hu).other (hqk u) (⟨id,0,-1,-1,16,false⟩:Nk)
      have hf:nZ (ns.set q (⟨id,0,-1,-1,16,false⟩:Nk)) first u=nZ ns first u:=by
       cases u with
       | none=>rfl
       | some p =>
         have hpq:p≠q:=fun e=>hvq _ hu (e ▸ rfl)
         show ((ns.set q _).getD p default).first=(ns.getD p default).first
         rw [AB,hoth p hpq,←AB]
      rw [hf]; exact hc
    · rw [hkq,mL hq]; rfl
  · rcases (hhd u).1 hu with hu | rfl
    · exact h.lk.nd u hu
    · rw [hkq]; exact CR
  · rcases (hhd u).1 hu with hu | rfl
    · rcases (hhd v).1 hv with hv | rfl
      · exact h.lk.dj u v p hu hv hpu hpv
      · rw [hkq] at hpv; cases hpv
    · rw [hkq] at hpu; cases hpu
  · rcases (hal p).1 hp with hp | rfl
    · obtain ⟨n,hn⟩:=h.lk.at' p hp
      exact ⟨n,by rw [hoth p (fun e=>hqn (e ▸ hp))]; exact hn⟩
    · exact ⟨_,hq⟩
 obtain ⟨ns',first',e1,e2,e3,e4,e5⟩:=aE9 (by rw [Bv]; exact h.len) hlk (u:=none) trivial hq (fun v _=>hqk v) nofun room keep A'.Cells A'.Free A'.Used cl
 have hv1:∀ p,p≠q→oA ns' p=oA ns p:=fun p e=>by
  rw [e4 p e]
  unfold oA
  rw [hoth p e]
 have hn2:∃ n2,ns'[q]? = some n2∧n2.id=id∧n2.up = -1∧n2.weight=16∧n2.closed=false:=by
  have:=e5 _ hq
  unfold oA at this
  cases h2:ns'[q]? with
  | none=>rw [h2] at this; cases this
  | some n2 =>
    rw [h2] at this
    injection this with this
    exact ⟨n2,rfl,AJ (·.1) this,AJ (·.2.1) this,AJ (·.2.2.1) this,AJ (·.2.2.2) this⟩
 obtain ⟨n2,f1,f2,f3,f4,f5⟩:=hn2
 have hidq:idP ns' q=id:=by rw [dC f1,f2]
 have hid:∀ p,p≠q→idP ns' p=idP ns p:=fun p e=>aAF (hv1 p e)
 have hidU:∀ v,hdK A v→idU ns' v=idU ns v:=fun v hv=>by
  cases v with
  | none=>rfl
  | some p=>exact hid p (fun e=>hvq _ hv (e ▸ rfl))
 have has:asN ns' n2 none=(⟨id,0,16,false⟩:Nd):=by unfold asN; rw [f2,f4,f5]; rfl
 have hmem:∀ m,m∈L++(⟨id,0,16,false⟩:Nd)::R↔m=⟨id,0,16,false⟩∨m∈N:=fun m=>by
  rw [hN]; simp only [AM,Ax]
  constructor
  · rintro (a | a | a)
    · exact .inr (.inl a)
    · exact .inl a
    · exact .inr (.inr a)
  · rintro (a | a | a)
    · exact .inr (.inl a)
    · exact .inl a
    · exact .inr (.inr a)
 have hne:∀ m∈N,m.ID≠id:=fun m hm e=>by
  obtain ⟨s1,s2,s3⟩:=BD.1 hso
  rw [hN] at hm
  rcases AM.1 hm with hm | hm
  · have:=s3 m hm _ (BX ..)
    have:m.ID<id:=this
    omega
  · have:=(AU.1 s2).1 m hm
    have:id<m.ID:=this
    omega
 have hida:∀ p,fQ A p→idP ns' p=idP ns p∧idP ns p≠id:=fun p hp=>by
  refine ⟨hid p (fun e=>hqn (e ▸ hp)),fun e=>?_⟩
  obtain ⟨v,n,k1,k2,k3,k4,k5⟩:=h.up p hp
  exact hne _ k5 (by rw [dC k2] at e; exact e)
 refine ⟨ns',first',_,e1,⟨t2,e2,e3,fun p hp=>?_,fun u p hu hm=>?_,fun m hm=>?_,fun p r hp hr e=>?_,hso⟩,fun v hv=>?_,hidq,hid,hqn,hal⟩
 · by_cases e:p=q
   · subst e
     refine ⟨none,n2,trivial,f1,f3,?_,(hmem _).2 (.inl has)⟩
     unfold sX; rw [Ay rfl]; exact BX ..
   · have hp:fQ A p:=((hal p).1 hp).elim (fun h=>h) (fun h=>AI h e)
     obtain ⟨v,n,k1,k2,k3,k4,k5⟩:=h.up p hp
     obtain ⟨n',q1,q2⟩:=oK (hv1 p e) k2
     obtain ⟨q3,q4,q5,q6⟩:=qU q2
     refine ⟨v,n',(hhd v).2 (.inl k1),q1,q4.trans k3,?_,(hmem _).2 (.inr ?_)⟩
     · unfold sX
       split
       · rename_i e; subst e; exact Br _ k4
       · exact k4
     · have e:asN ns' n' v=asN ns n v:=by unfold asN; rw [q3,q5,q6,hidU v k1]
       rw [e]; exact k5
 · unfold sX at hm
   split at hm
   · rcases Ax.1 hm with e | hm
     · exact (hal p).2 (.inr e)
     · exact (hal p).2 (.inl (h.kid none p trivial hm))
   · rcases (hhd u).1 hu with hu | rfl
     · exact (hal p).2 (.inl (h.kid u p hu hm))
     · rw [hkq] at hm; cases hm
 · rcases (hmem m).1 hm with rfl | hm
   · exact ⟨q,n2,none,(hal q).2 (.inr rfl),trivial,f1,f3,has.symm⟩
   · obtain ⟨p,n,v,k1,k2,k3,k4,rfl⟩:=h.bw m hm
     obtain ⟨n',q1,q2⟩:=oK (hv1 p (fun e=>hqn (e ▸ k1))) k3
     obtain ⟨q3,q4,q5,q6⟩:=qU q2
     refine ⟨p,n',v,(hal p).2 (.inl k1),(hhd v).2 (.inl k2),q1,q4.trans k4,?_⟩
     unfold asN; rw [q3,q5,q6,hidU v k2]
 · rcases (hal p).1 hp with hp | rfl
   · rcases (hal r).1 hr with hr | rfl
     · exact h.inj p r hp hr (by rw [←(hida p hp).1,←(hida r hr).1]; exact e)
     · exact AI (((hida p hp).1.symm.trans e).trans hidq) (hida p hp).2
   · rcases (hal r).1 hr with hr | rfl
     · exact AI (((hida r hr).1.symm.trans e.symm).trans hidq) (hida r hr).2
     · rfl
 · have hv2:¬ hdK A v:=fun hh=>hv ((hhd v).2 (.inl hh))
   unfold sX
   split
   · rename_i e; subst e; exact AI trivial hv
   · exact h0 v hv2
end Go.Fn
open List renaming cons_append → Cj
open Go Go.IL
namespace Go.Fn
def lowN (N:List Nd) (id:Int):List Nd:=N.filter fun n=>decide (n.ID<id)
def aGW (N:List Nd) (id:Int):List Nd:=N.filter fun n=>decide (id<n.ID)
def newS (N:List Nd) (id:Int):List Nd:=lowN N id++(⟨id,0,16,false⟩:Nd)::aGW N id
theorem wK {id:Int}:∀ {N:List Nd},N.Pairwise (fun a b=>a.ID<b.ID)→(∀ m∈N,m.ID≠id)→N=lowN N id++aGW N id
 | [],_,_=>rfl
 | n :: N,hs,hn=>by
   obtain ⟨s1,s2⟩:=AU.1 hs
   have ih:=wK s2 fun m hm=>hn m (Br _ hm)
   have hne:=hn n (BX ..)
   unfold lowN aGW at *
   by_cases h:n.ID<id
   · rw [BP (by simp [h]),Bs (by simp; omega),Cj,←ih]
   · have hl:N.filter (fun n=>decide (n.ID<id))=[]:=Dc.2 fun m hm=>by have:=s1 m hm; simp; omega
     rw [hl,BM] at ih
     rw [Bs (by simp [h]),BP (by simp; omega),hl,BM,←ih]
theorem zP {id:Int} {N:List Nd} (hs:N.Pairwise (fun a b=>a.ID<b.ID)):(newS N id).Pairwise (fun a b=>a.ID<b.ID):=by
 unfold newS lowN aGW
 refine BD.2 ⟨hs.filter _,AU.2 ⟨fun m hm=>of_decide_eq_true (Bj.1 hm).2,hs.filter _⟩,fun a ha b hb=>?_⟩
 have h1:a.ID<id:=of_decide_eq_true (Bj.1 ha).2
 rcases Ax.1 hb with rfl | hb
 · exact h1
 · have h2:id<b.ID:=of_decide_eq_true (Bj.1 hb).2
   omega
theorem aB0 {id:Int} {N:List Nd} (hs:N.Pairwise (fun a b=>a.ID<b.ID)) (hn:∀ m∈N,m.ID≠id) (m:Nd):m∈newS N id↔m=⟨id,0,16,false⟩∨m∈N:=by
 conv=>rhs; rw [wK hs hn]
 unfold newS
 simp only [AM,Ax]
 constructor
 · rintro (a | a | a)
   · exact .inr (.inl a)
   · exact .inl a
   · exact .inr (.inr a)
 · rintro (a | a | a)
   · exact .inr (.inl a)
   · exact .inl a
   · exact .inr (.inr a)
theorem aBx {id:Int} {N:List Nd} (hs:N.Pairwise (fun a b=>a.ID<b.ID)) (hn:∀ m∈N,m.ID≠id):(newS N id).length=N.length+1:=by
 conv=>rhs; rw [wK hs hn]
 unfold newS
 simp; omega
theorem aGT {A:AS} {sp:List Nat} {ns:List Nk} {first:Int} {kids:Af Nat→List Nat} {N:List Nd} (h:RL A sp ns first kids N) (h0:∀ u,¬hdK A u→kids u=[]) (hpos:∀ m∈N,1≤m.ID) (hu:A.Used<64) (hN:N.length<64) {r:Int→Nat} (hr:∀ m∈N,m.aa≠0→r m.aa<r m.ID) (hpa:∀ m∈N,m.aa=0∨∃ x∈N,x.ID=m.aa) {id:Int} (hid:1≤id) (hno:∀ m∈N,m.ID≠id) (w:Ws) (hw:w.dep≠id) (hw0:0≤w.dep) (room keep:Int) (cl:List Int) :
 ∃ A' sp' ns' first' kids',fY id w room keep A.Cells A.Free A.Used ns first cl=some (0,room,keep,A'.Cells,A'.Free,A'.Used,ns',first',cl)∧RL A' sp' ns' first' kids' (pW (newS N id) id w)∧(∀ u,¬hdK A' u→kids' u=[])∧∀ p,fQ A p→fQ A' p∧idP ns' p=idP ns p:=by
 obtain ⟨t1,_,_,_,_,t6⟩:=aEA h.ga id hu
 obtain ⟨ns1,first1,kids1,e1,e2,e3,e4,e5,e6,e7⟩:=new_ok h h0 hu (wK h.so hno) (zP h.so) room keep cl
 have e2:RL (takeS A id sp) sp.tail ns1 first1 kids1 (newS N id):=e2
 have hmem:=aB0 h.so hno
 obtain ⟨ns',first',kids',g1,g2,g3,g4⟩:=aC3 e2 e3 (fun m hm=>by
  rcases (hmem m).1 hm with rfl | hm
  · exact hid
  · exact hpos m hm) (by rw [aBx h.so hno]; omega) (r:=r) (fun m hm hp=>by
  rcases (hmem m).1 hm with rfl | hm
  · exact AI rfl hp
  · exact hr m hm hp) (fun m hm=>by
  rcases (hmem m).1 hm with rfl | hm
  · exact .inl rfl
  · rcases hpa m hm with e | ⟨x,hx,e⟩
    · exact .inl e
    · exact .inr ⟨x,(hmem x).2 (.inr hx),e⟩) (x:=takeP A sp) ((e7 _).2 (.inr rfl)) w (by rw [e4]; exact hw) hw0 room keep cl
 rw [e4] at g2
 obtain ⟨n0,hn0⟩:∃ n,ns[takeP A sp]? = some n:=⟨_,AL (by rw [h.len]; exact t6)⟩
 refine ⟨takeS A id sp,sp.tail,ns',first',kids',?_,g2,g3,fun p hp=>⟨(e7 p).2 (.inl hp),(g4 p).trans (e5 p fun e=>e6 (e ▸ hp))⟩⟩
 unfold fY
 rw [show oF (⟨A.Cells,A.Free,A.Used⟩:AS) id=_ from t1,bnoS,bndD]
 show (bif (!decide ((0:Int)=0)) then _ else _)=_
 rw [Ai rfl,AN,bT]
 show (bno (gix ns (takeP A sp:Int)) _)=_
 rw [eA,hn0,bnoS,chk,Ay h.len]
 show (bno (ns[((takeP A sp:Nat):Int).toNat]?) _)=_
 rw [Au,hn0,bnoS,bndD]
 show (bno (gN (takeP A sp:Int) (-1) room keep (takeS A id sp).Cells (takeS A id sp).Free (takeS A id sp).Used (ns.set (((takeP A sp:Nat):Int).toNat) (⟨id,0,-1,-1,16,false⟩:Nk)) first cl) _)=_
 rw [Au,e1,bnoS]
 show (bno (gS (takeP A sp:Int) w room keep (takeS A id sp).Cells (takeS A id sp).Free (takeS A id sp).Used ns1 first1 cl) _)=_
 rw [g1,bnoS]
end Go.Fn
open Go Go.IL
namespace Go.Fn
theorem aDn {N:List Nd} {x:Int} {w:Ws} {r:Int→Nat} (h:HP N x r) (hf:(∀ n∈N,n.aa≠0→r n.aa<r n.ID)∧∀ n∈N,n.aa=0∨∃ m∈N,m.ID=n.aa) (hne:w.dep≠x) (hw:1≤w.weight∧w.weight≤256):∃ g,pW N x w=N.map g∧Hung N g:=by
 unfold pW
 by_cases hc:w.dep≠0∧∀ m∈N,m.ID≠w.dep
 · have hws:yT N w=⟨0,16,false⟩:=Ay hc
   rw [hws]
   have:upN N x 0=N:=Aq (fun hh=>hh.1 rfl)
   exact ⟨pV x 0 16 false,by show (upN N x 0).map _=_; rw [this],aAr h (by decide) (fun hh=>AI rfl hh)⟩
 · have hws:yT N w=w:=Aq hc
   rw [hws]
   by_cases h0:w.dep=0
   · have:upN N x w.dep=N:=Aq (fun hh=>hh.1 h0)
     exact ⟨pV x w.dep w.weight w.only,by rw [this],aAr h hw (fun hh=>AI h0 hh)⟩
   · have hex:∃ k∈N,k.ID=w.dep:=by
      refine Classical.byContradiction fun hn=>hc ⟨h0,fun m hm e=>hn ⟨m,hm,e⟩⟩
     obtain ⟨k,hkm,hk⟩:=hex
     obtain ⟨y,hy,hyx⟩:=h.xm
     have hkx:k.ID≠x:=by rw [hk]; exact hne
     by_cases hin:x∈iF N N.length w.dep
     · have hanc:Anc N x k.ID:=by rw [hk]; exact aCi h.ok.so _ _ hne hin (by have:=h.ok.ra y hy; omega)
       obtain ⟨h1,h2⟩:=hp_move h hy hyx hkm hkx hanc hf
       have hu:=aAr (d:=w.dep) (w:=w.weight) (o:=w.only) h1 hw (fun _=>⟨⟨_,Am.2 ⟨k,hkm,rfl⟩,(mF _ _ _).trans hk⟩,by rw [←hk]; exact h2⟩)
       have hpar:rR N x=some y.aa:=by rw [←hyx]; exact vO h.ok.so hy
       have hup:upN N x w.dep=N.map (mvN k.ID y.aa):=by
        unfold upN
        rw [Ay ⟨h0,hin⟩,hpar,hk]; rfl
       refine ⟨pV x w.dep w.weight w.only ∘ mvN k.ID y.aa,by rw [hup,BK],⟨fun n=>(hu.id _).trans (mF _ _ _),fun n=>(hu.cl _).trans ?_,fun n hn=>hu.ra _ (Am.2 ⟨n,hn,rfl⟩),fun n hn=>?_,?_⟩⟩
       · unfold mvN; split <;> rfl
       · rcases hu.pa _ (Am.2 ⟨n,hn,rfl⟩) with e | ⟨m,hm,e⟩
         · exact .inl e
         · obtain ⟨z,hz,ez⟩:=Am.1 hm
           have e2:z.ID=m.ID:=by rw [←ez,mF]
           exact .inr ⟨z,hz,e2.trans e⟩
       · obtain ⟨r',hr'⟩:=hu.rk
         rw [BK] at hr'
         exact ⟨r',hr'⟩
     · have hna:¬ Anc N x w.dep:=not_anc h.ok.so hf.1 hf.2 ⟨k,hkm,hk⟩ hne hin
       have hup:upN N x w.dep=N:=Aq (fun hh=>hin hh.2)
       exact ⟨pV x w.dep w.weight w.only,by rw [hup],aAr h hw (fun _=>⟨⟨k,hkm,hk⟩,hna⟩)⟩
theorem aC7 {K:Int} {N:List Nd} {E:List Int} (h:FV K ⟨24,K,N,E⟩) {x:Int} (hx:∃ n∈N,n.ID=x) {w:Ws} (hne:w.dep≠x) (hw:1≤w.weight∧w.weight≤256):FV K ⟨24,K,pW N x w,E⟩∧(pW N x w).length=N.length:=by
 obtain ⟨r,hr⟩:=h.rk
 have hp:HP N x r:=⟨h.ok,hx,fun n hn=>(h.ra n hn).2,fun n hn _=>h.pa n hn,fun n hn _ hz=>hr n hn hz,.inl ⟨hr,h.pa⟩⟩
 obtain ⟨g,e,hg⟩:=aDn hp ⟨hr,h.pa⟩ hne hw
 rw [e]
 exact ⟨fv_hung h.bs hg,AA ..⟩
theorem fv_new {K:Int} {N:List Nd} {E:List Int} (h:FV K ⟨24,K,N,E⟩) {id:Int} (hid:1≤id∧id≤1048576) (hno:∀ m∈N,m.ID≠id) (hlt:N.length<24):FV K ⟨24,K,newS N id,E⟩:=by
 have hmem:=aB0 h.so hno
 obtain ⟨r,hr⟩:=h.rk
 refine ⟨rfl,h.kp,by show (newS N id).length≤24; rw [aBx (N:=N) h.so hno]; exact hlt,h.el,zP h.so,fun n hn=>?_,fun n hn=>?_,⟨r,fun n hn hp=>?_⟩,fun n hn=>?_,h.nd,fun e he=>?_⟩
 · rcases (hmem n).1 hn with rfl | hn
   · exact ⟨hid,by show (1:Int)≤16; decide,by show (16:Int)≤256; decide⟩
   · exact h.ra n hn
 · rcases (hmem n).1 hn with rfl | hn
   · exact .inl rfl
   · rcases h.pa n hn with e | ⟨m,hm,e⟩
     · exact .inl e
     · exact .inr ⟨m,(hmem m).2 (.inr hm),e⟩
 · rcases (hmem n).1 hn with rfl | hn
   · exact AI rfl hp
   · exact hr n hn hp
 · rcases (hmem n).1 hn with rfl | hn
   · refine ⟨fun hc=>(by cases hc),fun hc=>?_⟩
     obtain ⟨m,hm,e2⟩:=h.es _ hc
     exact AI e2 (hno m hm)
   · exact h.en n hn
 · obtain ⟨n,hn,e2⟩:=h.es e he
   exact ⟨n,(hmem n).2 (.inr hn),e2⟩
end Go.Fn
open Go Go.IL
namespace Go.Fn
structure TS (A:AS) (ns:List Nk) (first:Int) (cl:List Int) (R K:Int) (N:List Nd) (E:List Int):Prop where
 rl:∃ sp kids,RL A sp ns first kids N∧∀ u,¬hdK A u→kids u=[]
 cn:∃ cN:List Nat,cl=toI cN∧(∀ p∈cN,fQ A p)∧E=cN.map (idP ns)
 fv:FV K ⟨24,K,N,E⟩
 ln:(N.length:Int)≤R
 rm:R≤24
theorem aAH {A:AS} {sp:List Nat} {ns:List Nk} {first:Int} {kids:Af Nat→List Nat} {N:List Nd} (h:RL A sp ns first kids N):A.Used=(N.length:Int):=by
 rw [h.ga.used]
 have hl:=uC A.Cells 0
 rw [←hl]
 have hp:((nD A.Cells 0).map (idP ns)).Perm (N.map (·.ID)):=by
  refine (Em ?_ (aBW h.so)).2 fun i=>?_
  · refine Bm.2 ((tJ A.Cells 0).imp_of_mem fun {p q} hp hq hne e=>hne (h.inj p q (nX.2 hp) (nX.2 hq) e))
  · constructor
    · intro hi
      obtain ⟨p,hp,rfl⟩:=Am.1 hi
      obtain ⟨v,n,k1,k2,k3,k4,k5⟩:=h.up p (nX.2 hp)
      exact Am.2 ⟨_,k5,(dC k2).symm⟩
    · intro hi
      obtain ⟨m,hm,rfl⟩:=Am.1 hi
      obtain ⟨p,n,v,k1,k2,k3,k4,rfl⟩:=h.bw m hm
      exact Am.2 ⟨p,nX.1 k1,dC k3⟩
 have:=hp.length_eq
 rw [AA,AA] at this
 rw [this]
theorem zH (x:Nat):∀ (l:List Nat),(toI l).filter (fun y=>!decide (y=(x:Int)))=toI (l.filter fun p=>!decide (p=x))
 | []=>rfl
 | p::l=>by
   have ih:=zH x l
   rw [show toI (p::l)=(p:Int)::toI l from rfl]
   by_cases e:p=x
   · rw [Bs (by simp [e]),Bs (by simp [e]),ih]
   · rw [BP (by simp; omega),BP (by simp [e]),ih]; rfl
theorem aEY {A:AS} {ns:List Nk} {first:Int} {cl:List Int} {R K:Int} {N:List Nd} {E:List Int} (h:TS A ns first cl R K N E) {x:Nat} (hx:fQ A x) (room keep:Int) :
 ∃ L y Rr ns' first' cl',N=L++y::Rr∧y.ID=idP ns x∧fR (x:Int) room keep A.Cells A.Free A.Used ns first cl=some (room,keep,(qK A x).Cells,(qK A x).Free,(qK A x).Used,ns',first',cl')∧TS (qK A x) ns' first' cl' R K (offS L y Rr) (E.filter fun e=>!decide (e=y.ID))∧∀ q,idP ns' q=idP ns q:=by
 obtain ⟨sp,kids,hR,h0⟩:=h.rl
 obtain ⟨cN,c1,c2,c3⟩:=h.cn
 obtain ⟨r,hr⟩:=h.fv.rk
 have hEl:(E.length:Int)≤K:=h.fv.el
 have hK:K≤24:=h.fv.kp.2.2
 have hcl:cl.length≤100000:=by
  rw [c1]
  rw [c3,AA] at hEl
  unfold toI
  rw [AA]; omega
 obtain ⟨L,y,Rr,ns',first',kids',g1,g2,g3,g4,g5,g6⟩:=off_ok hR h0 (fun m hm=>(h.fv.ra m hm).1.1) (fun m hm=>(h.fv.ra m hm).2) hr hx room keep hcl
 refine ⟨L,y,Rr,ns',first',_,g1,g2,g3,⟨⟨_,kids',g4,g5⟩,⟨cN.filter fun p=>!decide (p=x),by rw [c1,zH],fun p hp=>?_,?_⟩,fv_off h.fv g1,?_,h.rm⟩,g6⟩
 · obtain ⟨h1,h2⟩:=Bj.1 hp
   exact (mR hx p).2 ⟨c2 p h1,fun e=>by rw [Ai e] at h2; cases h2⟩
 · rw [g2,c3,List.filter_map,AV (fun p _=>g6 p)]
   congr 1
   refine List.filter_congr fun p hp=>?_
   show (!decide (idP ns p=idP ns x)) = !decide (p=x)
   congr 1
   by_cases e:p=x
   · rw [Ai e,Ai (by rw [e])]
   · rw [Ah e,Ah (fun hh=>e (hR.inj p x (c2 p hp) hx hh))]
 · have:=h.ln
   rw [g1] at this
   unfold offS
   rw [AA]
   simp at this ⊢
   omega
end Go.Fn
open Go Go.IL
namespace Go.Fn
def offT (N:List Nd) (e:Int):List Nd:=match N.find? (fun n=>decide (n.ID=e)) with
 | some y=>(N.filter fun n=>!decide (n.ID=e)).map (offN y (sumS (N.filter fun n=>!decide (n.ID=e)) y.ID))
 | none=>N
theorem off_T {N L Rr:List Nd} {y:Nd} {e:Int} (hs:N.Pairwise (fun a b=>a.ID<b.ID)) (hN:N=L++y::Rr) (he:y.ID=e):offS L y Rr=offT N e:=by
 rw [hN] at hs
 obtain ⟨s1,s2,s3⟩:=BD.1 hs
 have hL:∀ m∈L,m.ID≠e:=fun m hm hh=>by
  have:=s3 m hm y (BX ..)
  omega
 have hR:∀ m∈Rr,m.ID≠e:=fun m hm hh=>by
  have:=(AU.1 s2).1 m hm
  omega
 have hf:N.find? (fun n=>decide (n.ID=e))=some y:=by
  rw [hN,DQ,CM.2 (fun m hm=>by simp [hL m hm]),Option.none_or,List.find?_cons_of_pos (by simp [he])]
 have hfl:N.filter (fun n=>!decide (n.ID=e))=L++Rr:=by
  rw [hN,CB,Bs (by simp [he]),Ci.2 (fun m hm=>by simp [hL m hm]),Ci.2 (fun m hm=>by simp [hR m hm])]
 unfold offT offS
 rw [hf,hfl]
def aGZ (id:Int) (w:Ws):Prop:=(1≤id∧id≤1048576)∧w.dep≠id∧0≤w.dep∧1≤w.weight∧w.weight≤256
def fullS (N:List Nd) (id:Int) (w:Ws):List Int→Int×List Nd×List Int
 | []=>(7,N,[])
 | e::E=>(0,pW (newS (offT N e) id) id w,(e::E).filter fun z=>!decide (z=e))
def insS (R:Int) (N:List Nd) (E:List Int) (id:Int) (w:Ws):Int×List Nd×List Int :=
 if (N.length:Int)<R then (0,pW (newS N id) id w,E) else fullS N id w E
theorem aC0 {A:AS} {ns:List Nk} {first:Int} {cl:List Int} {R K:Int} {N:List Nd} {E:List Int} (h:TS A ns first cl R K N E) (hlt:(N.length:Int)<R) {id:Int} {w:Ws} (hw:aGZ id w) (hno:∀ m∈N,m.ID≠id) (room keep:Int) :
 ∃ A' ns' first',fY id w room keep A.Cells A.Free A.Used ns first cl=some (0,room,keep,A'.Cells,A'.Free,A'.Used,ns',first',cl)∧TS A' ns' first' cl R K (pW (newS N id) id w) E:=by
 obtain ⟨sp,kids,hR,h0⟩:=h.rl
 obtain ⟨cN,c1,c2,c3⟩:=h.cn
 obtain ⟨r,hr⟩:=h.fv.rk
 have hrm:=h.rm
 obtain ⟨w1,w2,w3,w4⟩:=hw
 have hul:=aAH hR
 obtain ⟨A',sp',ns',first',kids',g1,g2,g3,g4⟩:=aGT hR h0 (fun m hm=>(h.fv.ra m hm).1.1) (by omega) (by omega) hr h.fv.pa w1.1 hno w w2 w3 room keep cl
 have hfn:=fv_new h.fv w1 hno (by omega)
 obtain ⟨f1,f2⟩:=aC7 hfn (x:=id) ⟨_,(aB0 h.fv.so hno _).2 (.inl rfl),rfl⟩ w2 w4
 refine ⟨A',ns',first',g1,⟨⟨sp',kids',g2,g3⟩,⟨cN,c1,fun p hp=>(g4 p (c2 p hp)).1,?_⟩,f1,?_,hrm⟩⟩
 · rw [c3]
   exact AV fun p hp=>((g4 p (c2 p hp)).2).symm
 · rw [f2,aBx (N:=N) h.fv.so hno]; omega
theorem aBV {A:AS} {ns:List Nk} {first:Int} {cl:List Int} {R K:Int} {N:List Nd} {E:List Int} (h:TS A ns first cl R K N E) {id:Int} {w:Ws} (hw:aGZ id w) (hno:∀ m∈N,m.ID≠id) :
 ∃ A' ns' first' cl',iX id w R K A.Cells A.Free A.Used ns first cl=some ((insS R N E id w).1,R,K,A'.Cells,A'.Free,A'.Used,ns',first',cl')∧TS A' ns' first' cl' R K (insS R N E id w).2.1 (insS R N E id w).2.2:=by
 obtain ⟨sp,kids,hR,h0⟩:=h.rl
 obtain ⟨cN,c1,c2,c3⟩:=h.cn
 have hul:=aAH hR
 have hln:=h.ln
 unfold iX mY
 rw [bnoS,bndD,hul]
 by_cases hlt:(N.length:Int)<R
 · rw [Ah (by omega),bT]
   obtain ⟨A',ns',first',g1,g2⟩:=aC0 h hlt hw hno R K
   rw [hul] at g1
   have e:insS R N E id w=(0,pW (newS N id) id w,E):=Ay hlt
   rw [e]
   exact ⟨A',ns',first',cl,g1,g2⟩
 · rw [Ai (by omega),cK,chk,Ay hR.len,bndD]
   have e:insS R N E id w=fullS N id w E:=Aq hlt
   rw [e]
   cases cN with
   | nil =>
     have hc:cl=[]:=c1
     have hE:E=[]:=c3
     subst hc
     subst hE
     refine ⟨A,ns,first,[],?_,h⟩
     rw [←hul]; rfl
   | cons p cN =>
     have hE:E=idP ns p::cN.map (idP ns):=c3
     have hc:cl=(p:Int)::toI cN:=c1
     obtain ⟨L,y,Rr,ns1,first1,cl1,g1,g2,g3,g4,g5⟩:=aEY h (c2 p (by simp)) R K
     rw [hul] at g3
     have hT:offS L y Rr=offT N (idP ns p):=off_T h.fv.so g1 g2
     rw [hT,g2] at g4
     have hno1:∀ m∈offT N (idP ns p),m.ID≠id:=fun m hm=>by
      rw [←hT] at hm
      unfold offS at hm
      obtain ⟨m0,hm0,rfl⟩:=Am.1 hm
      rw [uW]
      refine hno m0 ?_
      rw [g1]
      rcases AM.1 hm0 with hm | hm
      · exact AM.2 (.inl hm)
      · exact AM.2 (.inr (Br _ hm))
     have hl1:((offT N (idP ns p)).length:Int)<R:=by
      rw [←hT]
      rw [g1] at hln
      unfold offS
      rw [AA]
      simp at hln ⊢
      omega
     obtain ⟨A',ns',first',k1,k2⟩:=aC0 g4 hl1 hw hno1 R K
     rw [hE] at k2 ⊢
     refine ⟨A',ns',first',cl1,?_,k2⟩
     rw [hc]
     rw [show decide ((((p:Int)::toI cN).length:Int)=0)=false from Ah (by simp; omega),bT]
     show (bno (fR (p:Int) R K A.Cells A.Free (N.length:Int) ns first ((p:Int)::toI cN)) _)=_
     rw [←hc,g3,bnoS]
     exact k1
end Go.Fn
open Go Go.IL
namespace Go.Fn
def fitW (id:Int) (w:Ws):Prop:=(1≤id∧id≤1048576)∧(0≤w.dep∧w.dep≤1048576)∧1≤w.weight∧w.weight≤256
instance (id:Int) (w:Ws):Decidable (fitW id w):=inferInstanceAs (Decidable (_∧_))
def yU (id:Int) (w:Ws):Int:=if fitW id w then (if id=w.dep then 4 else 0) else 8
theorem aE5 (a b c:Int):nQ a b c=some (decide (b≤a∧a≤c)):=by
 unfold nQ
 rw [bndD,bndD,bndD,←Bool.decide_and]
theorem aD5 (id:Int) (w:Ws):kW w id=some (yU id w):=by
 unfold kW iV yU
 rw [aE5,bnoS]
 by_cases h1:1≤id∧id≤1048576
 · rw [Ai h1,AN,bT,aE5,bnoS]
   by_cases h2:0≤w.dep∧w.dep≤1048576
   · rw [Ai h2,AN,bT,aE5,bnoS]
     by_cases h3:1≤w.weight∧w.weight≤256
     · rw [Ai h3,AN,bT,bndD,Ay (show fitW id w from ⟨h1,h2,h3⟩)]
       by_cases h4:id=w.dep
       · rw [Ai h4,cK,Ay h4]
       · rw [Ah h4,bT,Aq h4]
     · rw [Ah h3,AT,cK,Aq (fun hh:fitW id w=>h3 hh.2.2)]
   · rw [Ah h2,AT,cK,cK,Aq (fun hh:fitW id w=>h2 hh.2.1)]
 · rw [Ah h1,AT,cK,cK,Aq (fun hh:fitW id w=>h1 hh.1)]
theorem wW {id:Int} {w:Ws} (h:yU id w=0):aGZ id w:=by
 unfold yU at h
 split at h
 · rename_i hf
   split at h
   · cases h
   · rename_i hn
     exact ⟨hf.1,fun e=>hn e.symm,hf.2.1.1,hf.2.2⟩
 · cases h
def hasN (N:List Nd) (id:Int):Prop:=∃ m∈N,m.ID=id
instance (N:List Nd) (id:Int):Decidable (hasN N id):=inferInstanceAs (Decidable (∃ m∈N,m.ID=id))
theorem tM {A:AS} {ns:List Nk} {first:Int} {cl:List Int} {R K:Int} {N:List Nd} {E:List Int} (h:TS A ns first cl R K N E) (id:Int) (room keep:Int) :
 (hasN N id∧∃ p,fQ A p∧idP ns p=id∧dF id room keep A.Cells A.Free A.Used ns first cl=some (p:Int))∨(¬hasN N id∧dF id room keep A.Cells A.Free A.Used ns first cl=some (-1)):=by
 obtain ⟨sp,kids,hR,h0⟩:=h.rl
 rcases aFM hR id room keep cl with ⟨p,p1,p2,p3⟩ | ⟨p1,p2⟩
 · obtain ⟨v,n,k1,k2,k3,k4,k5⟩:=hR.up p p1
   exact .inl ⟨⟨_,k5,(dC k2).symm.trans p2⟩,p,p1,p2,p3⟩
 · refine .inr ⟨fun ⟨m,hm,e⟩=>?_,p2⟩
   obtain ⟨p,n,v,k1,k2,k3,k4,rfl⟩:=hR.bw m hm
   exact p1 p k1 ((dC k3).trans e)
theorem aGY {A:AS} {ns:List Nk} {first:Int} {cl:List Int} {R K:Int} {N:List Nd} {E:List Int} (h:TS A ns first cl R K N E) {x:Nat} (hx:fQ A x) {w:Ws} (hw:aGZ (idP ns x) w) (room keep:Int) :
 ∃ ns' first',gS (x:Int) w room keep A.Cells A.Free A.Used ns first cl=some (room,keep,A.Cells,A.Free,A.Used,ns',first',cl)∧TS A ns' first' cl R K (pW N (idP ns x) w) E:=by
 obtain ⟨sp,kids,hR,h0⟩:=h.rl
 obtain ⟨cN,c1,c2,c3⟩:=h.cn
 obtain ⟨r,hr⟩:=h.fv.rk
 have hln:N.length≤24:=h.fv.ln
 obtain ⟨w1,w2,w3,w4⟩:=hw
 obtain ⟨ns',first',kids',g1,g2,g3,g4⟩:=aC3 hR h0 (fun m hm=>(h.fv.ra m hm).1.1) (by omega) hr h.fv.pa hx w w2 w3 room keep cl
 obtain ⟨v,n,k1,k2,k3,k4,k5⟩:=hR.up x hx
 obtain ⟨f1,f2⟩:=aC7 h.fv (x:=idP ns x) ⟨_,k5,(dC k2).symm⟩ w2 w4
 refine ⟨ns',first',g1,⟨sp,kids',g2,g3⟩,⟨cN,c1,c2,?_⟩,f1,by rw [f2]; exact h.ln,h.rm⟩
 rw [c3]
 exact AV fun p hp=>(g4 p).symm
def aA1 (R:Int) (N:List Nd) (E:List Int) (id:Int) (w:Ws):Int×List Nd×List Int :=
 if yU id w=0 then (if hasN N id then (13,N,E) else insS R N E id w) else (yU id w,N,E)
def aGp (R:Int) (N:List Nd) (E:List Int) (id:Int) (w:Ws):Int×List Nd×List Int :=
 if yU id w=0 then (if hasN N id then (0,pW N id w,E) else insS R N E id w) else (yU id w,N,E)
def aA0 (N:List Nd) (E:List Int) (id:Int):Int×List Nd×List Int :=
 if hasN N id then (0,offT N id,E.filter fun e=>!decide (e=id)) else (6,N,E)
theorem aFm {A:AS} {ns:List Nk} {first:Int} {cl:List Int} {R K:Int} {N:List Nd} {E:List Int} (h:TS A ns first cl R K N E) (id dep weight:Int) (only:Bool) :
 ∃ A' ns' first' cl',gH id dep weight only R K A.Cells A.Free A.Used ns first cl=some ((aA1 R N E id ⟨dep,weight,only⟩).1,R,K,A'.Cells,A'.Free,A'.Used,ns',first',cl')∧TS A' ns' first' cl' R K (aA1 R N E id ⟨dep,weight,only⟩).2.1 (aA1 R N E id ⟨dep,weight,only⟩).2.2:=by
 unfold gH aA1
 rw [aD5,bnoS,bndD]
 by_cases h1:yU id ⟨dep,weight,only⟩=0
 · rw [Ai h1,AN,bT,Ay h1]
   rcases tM h id R K with ⟨f1,p,f2,f3,f4⟩ | ⟨f1,f4⟩
   · rw [f4,bnoS,bndD,Ah (by omega),AT,cK,Ay f1]
     exact ⟨A,ns,first,cl,rfl,h⟩
   · rw [f4,bnoS,bndD,Ai rfl,AN,bT,Aq f1]
     obtain ⟨A',ns',first',cl',g1,g2⟩:=aBV h (wW h1) fun m hm e=>f1 ⟨m,hm,e⟩
     rw [g1,bnoS]
     exact ⟨A',ns',first',cl',rfl,g2⟩
 · rw [Ah h1,AT,cK,Aq h1]
   exact ⟨A,ns,first,cl,rfl,h⟩
theorem Move_ts {A:AS} {ns:List Nk} {first:Int} {cl:List Int} {R K:Int} {N:List Nd} {E:List Int} (h:TS A ns first cl R K N E) (id dep weight:Int) (only:Bool) :
 ∃ A' ns' first' cl',lN id dep weight only R K A.Cells A.Free A.Used ns first cl=some ((aGp R N E id ⟨dep,weight,only⟩).1,R,K,A'.Cells,A'.Free,A'.Used,ns',first',cl')∧TS A' ns' first' cl' R K (aGp R N E id ⟨dep,weight,only⟩).2.1 (aGp R N E id ⟨dep,weight,only⟩).2.2:=by
 unfold lN aGp
 rw [aD5,bnoS,bndD]
 by_cases h1:yU id ⟨dep,weight,only⟩=0
 · rw [Ai h1,AN,bT,Ay h1]
   rcases tM h id R K with ⟨f1,p,f2,f3,f4⟩ | ⟨f1,f4⟩
   · rw [f4,bnoS,bndD,Ah (by omega),bT,Ay f1]
     obtain ⟨ns',first',g1,g2⟩:=aGY h f2 (by rw [f3]; exact wW h1) R K
     rw [g1,bnoS]
     rw [f3] at g2
     exact ⟨A,ns',first',cl,rfl,g2⟩
   · rw [f4,bnoS,bndD,Ai rfl,cK,Aq f1]
     obtain ⟨A',ns',first',cl',g1,g2⟩:=aBV h (wW h1) fun m hm e=>f1 ⟨m,hm,e⟩
     rw [g1,bnoS]
     exact ⟨A',ns',first',cl',rfl,g2⟩
 · rw [Ah h1,AT,cK,Aq h1]
   exact ⟨A,ns,first,cl,rfl,h⟩
theorem aFj {A:AS} {ns:List Nk} {first:Int} {cl:List Int} {R K:Int} {N:List Nd} {E:List Int} (h:TS A ns first cl R K N E) (id:Int) :
 ∃ A' ns' first' cl',kK id R K A.Cells A.Free A.Used ns first cl=some ((aA0 N E id).1,R,K,A'.Cells,A'.Free,A'.Used,ns',first',cl')∧TS A' ns' first' cl' R K (aA0 N E id).2.1 (aA0 N E id).2.2:=by
 unfold kK aA0
 rcases tM h id R K with ⟨f1,p,f2,f3,f4⟩ | ⟨f1,f4⟩
 · rw [f4,bnoS,bndD,Ah (by omega),bT,Ay f1]
   obtain ⟨L,y,Rr,ns',first',cl',g1,g2,g3,g4,g5⟩:=aEY h f2 R K
   rw [g3,bnoS]
   rw [off_T h.fv.so g1 (g2.trans f3),g2.trans f3] at g4
   exact ⟨qK A p,ns',first',cl',rfl,g4⟩
 · rw [f4,bnoS,bndD,Ai rfl,cK,Aq f1]
   exact ⟨A,ns,first,cl,rfl,h⟩
end Go.Fn
open List renaming length_singleton → DU
open Go Go.IL
namespace Go.Fn
def clN (id:Int) (n:Nd):Nd:=if n.ID=id then ⟨n.ID,n.aa,n.ae,true⟩ else n
theorem aAB (id:Int) (n:Nd):(clN id n).ID=n.ID:=by unfold clN; split <;> rfl
theorem aFY (id:Int) (n:Nd):(clN id n).aa=n.aa:=by unfold clN; split <;> rfl
theorem clN_w (id:Int) (n:Nd):(clN id n).ae=n.ae:=by unfold clN; split <;> rfl
theorem fv_shut {st:Fs} (h:FV 24 st) {y:Nd} (hy:y∈st.ai) (hc:y.af=false):FV 24 ⟨st.aq,st.au,st.ai.map (clN y.ID),st.aj++[y.ID]⟩∧st.aj.length+1≤24:=by
 obtain ⟨r,hr⟩:=h.rk
 have hln:=h.ln
 have hlen:st.aj.length+1≤24:=by
  obtain ⟨A,C,hN⟩:=Df hy
  have h1:(A.filter (·.af)).length+(C.filter (·.af)).length=st.aj.length:=by
   have:=aDu h
   rw [hN,CB,Bs (by rw [hc]; simp),AX] at this
   exact this
  rw [hN] at hln
  have h2:=Cn (·.af) A
  have h3:=Cn (·.af) C
  simp only [AX,AZ] at hln
  omega
 have hni:¬ y.ID∈st.aj:=fun hm=>by have:=(h.en y hy).2 hm; rw [hc] at this; cases this
 have himg:∀ m∈st.ai.map (clN y.ID),∃ n∈st.ai,m=clN y.ID n:=fun m hm=>by
  obtain ⟨n,hn,e⟩:=Am.1 hm
  exact ⟨n,hn,e.symm⟩
 have hin:∀ p:Int,(∃ m∈st.ai,m.ID=p)→∃ m∈st.ai.map (clN y.ID),m.ID=p:=fun p ⟨m,hm,e⟩=>⟨_,Am.2 ⟨m,hm,rfl⟩,(aAB _ _).trans e⟩
 refine ⟨⟨h.rm,h.kp,by show (st.ai.map _).length≤24; rw [AA]; exact hln,by show ((st.aj++[y.ID]).length:Int)≤24; rw [AX,DU]; omega,?_,fun m hm=>?_,fun m hm=>?_,⟨r,fun m hm hz=>?_⟩,fun m hm=>?_,?_,fun e he=>?_⟩,hlen⟩
 · show (st.ai.map _).Pairwise _
   rw [Bm]
   exact h.so.imp (fun hab=>by rw [aAB,aAB]; exact hab)
 · obtain ⟨n,hn,rfl⟩:=himg m hm
   rw [aAB,clN_w]; exact h.ra n hn
 · obtain ⟨n,hn,rfl⟩:=himg m hm
   rw [aFY]; exact (h.pa n hn).imp id (hin _)
 · obtain ⟨n,hn,rfl⟩:=himg m hm
   rw [aFY] at hz ⊢
   rw [aAB]
   exact hr n hn hz
 · obtain ⟨n,hn,rfl⟩:=himg m hm
   have hen:=h.en n hn
   rw [aAB]
   show _↔n.ID∈st.aj++[y.ID]
   rw [AM,Bx]
   unfold clN
   split
   · rename_i e
     exact ⟨fun _=>.inr e,fun _=>rfl⟩
   · rename_i e
     rw [hen]
     exact ⟨.inl,fun hh=>hh.resolve_right e⟩
 · show (st.aj++[y.ID]).Nodup
   rw [Cv]
   exact ⟨h.nd,by simp,fun a ha b hb=>by rw [Bx.1 hb]; rintro rfl; exact hni ha⟩
 · have he:e∈st.aj++[y.ID]:=he
   rcases AM.1 he with he | he
   · exact hin e (h.es e he)
   · exact hin e ⟨y,hy,(Bx.1 he).symm⟩
end Go.Fn
open List renaming length → Ek
open Go Go.IL
namespace Go.Fn
theorem aC6 {K K':Int} {N:List Nd} {E:List Int} (h:FV K ⟨24,K,N,E⟩) (h1:0≤K'∧K'≤24) (h2:(E.length:Int)≤K'):FV K' ⟨24,K',N,E⟩ :=
 ⟨rfl,⟨rfl,h1⟩,h.ln,h2,h.so,h.ra,h.pa,h.rk,h.en,h.nd,h.es⟩
theorem TS.keep {A:AS} {ns:List Nk} {first:Int} {cl:List Int} {R K K':Int} {N:List Nd} {E:List Int} (h:TS A ns first cl R K N E) (h1:0≤K'∧K'≤24) (h2:(E.length:Int)≤K'):TS A ns first cl R K' N E :=
 ⟨h.rl,h.cn,aC6 h.fv h1 h2,h.ln,h.rm⟩
def aFx (N:List Nd) (id:Int):Prop:=∃ m∈N,m.ID=id∧m.af=true
instance (N:List Nd) (id:Int):Decidable (aFx N id):=inferInstanceAs (Decidable (∃ m∈N,m.ID=id∧m.af=true))
def aDK (K:Int) (N:List Nd) (E:List Int) (id:Int):Int×List Nd×List Int :=
 if hasN N id then (if aFx N id then (9,N,E) else if K<((E++[id]).length:Int) then (0,offT (N.map (clN id)) ((E++[id]).headD 0),(E++[id]).filter fun e=>!decide (e=(E++[id]).headD 0)) else (0,N.map (clN id),E++[id])) else (6,N,E)
theorem aGr {A:AS} {ns:List Nk} {first:Int} {cl:List Int} {R K:Int} {N:List Nd} {E:List Int} (h:TS A ns first cl R K N E) (id:Int) :
 ∃ A' ns' first' cl',lC id R K A.Cells A.Free A.Used ns first cl=some ((aDK K N E id).1,R,K,A'.Cells,A'.Free,A'.Used,ns',first',cl')∧TS A' ns' first' cl' R K (aDK K N E id).2.1 (aDK K N E id).2.2:=by
 have hK:0≤K∧K≤24:=h.fv.kp.2
 have hEl:(E.length:Int)≤K:=h.fv.el
 unfold lC aDK
 rcases tM h id R K with ⟨f1,p,f2,f3,f4⟩ | ⟨f1,f4⟩
 · obtain ⟨sp,kids,hR,h0⟩:=h.rl
   obtain ⟨cN,c1,c2,c3⟩:=h.cn
   obtain ⟨v,n,k1,k2,k3,k4,k5⟩:=hR.up p f2
   have hyid:(asN ns n v).ID=id:=(dC k2).symm.trans f3
   have hshut:aFx N id↔n.closed=true:=by
    constructor
    · rintro ⟨m,hm,e1,e2⟩
      have:=rG hR.so hm k5 (e1.trans hyid.symm)
      rw [this] at e2; exact e2
    · exact fun hc=>⟨_,k5,hyid,hc⟩
   rw [f4,bnoS,bndD,Ah (by omega),bT,Ay f1,eA,k2,bnoS,chk,Ay hR.len,Au,k2,bnoS]
   by_cases hs:aFx N id
   · rw [Ay hs,hshut.1 hs,cK]
     exact ⟨A,ns,first,cl,rfl,h⟩
   · have hcf:n.closed=false:=by
      cases hc:n.closed with
      | false=>rfl
      | true=>exact AI (hshut.2 hc) hs
     have hcll:cl.length=E.length:=by rw [c1,c3]; unfold toI; simp
     rw [Aq hs,hcf,bT,bnoS,bnoS,bndD,nW (by simp; omega) (by simp; omega),bnoS,bndD]
     obtain ⟨s1,s2⟩:=aEH hR f2 k2 n.weight true
     have hmap:N.map (setN (idP ns p) n.weight true)=N.map (clN id):=AV fun m hm=>by
      unfold setN clN
      rw [f3]
      by_cases e:m.ID=id
      · have:=rG hR.so hm k5 (e.trans hyid.symm)
        rw [Ay e,Ay e,this]; 
        have hpid:(asN ns n v).aa=(asN ns n v).aa:=rfl
        rfl
      · rw [Aq e,Aq e]
     rw [hmap] at s1
     obtain ⟨w1,w2⟩:=fv_shut (aC6 h.fv (K':=24) (by omega) (by omega)) k5 hcf
     rw [hyid] at w1
     have hts:TS A (ns.set p (⟨n.id,n.up,n.first,n.next,n.weight,true⟩:Nk)) first (cl++[(p:Int)]) R 24 (N.map (clN id)) (E++[id]):=by
      refine ⟨⟨sp,kids,s1,h0⟩,⟨cN++[p],by rw [c1]; unfold toI; simp,fun q hq=>?_,?_⟩,w1,by rw [AA]; exact h.ln,h.rm⟩
      · rcases AM.1 hq with hq | hq
        · exact c2 q hq
        · rw [Bx.1 hq]; exact f2
      · rw [AV (fun q _=>s2 q),Ch,c3]
        show _++[id]=_++[idP ns p]
        rw [f3]
     have hlen:(cl++[(p:Int)]).length=(E++[id]).length:=by simp [hcll]
     rw [hlen]
     by_cases hk:K<((E++[id]).length:Int)
     · rw [Ai hk,cK,Ay hk]
       obtain ⟨dN,d1,d2,d3⟩:=hts.cn
       cases dN with
       | nil=>have:=AJ Ek d1; simp [toI] at this
       | cons q dN =>
         have hd1:cl++[(p:Int)]=(q:Int)::toI dN:=d1
         have hd3:E++[id]=idP _ q::dN.map _:=d3
         have hnd:(E++[id]).Nodup:=w1.nd
         obtain ⟨L,y,Rr,ns1,first1,cl1,g1,g2,g3,g4,g5⟩:=aEY hts (d2 q (by simp)) R K
         have hT:=off_T hts.fv.so g1 g2
         rw [hT,g2] at g4
         have hhead:(E++[id]).headD 0=idP (ns.set p (⟨n.id,n.up,n.first,n.next,n.weight,true⟩:Nk)) q:=by rw [hd3]; rfl
         rw [hhead]
         refine ⟨qK A q,ns1,first1,cl1,?_,g4.keep hK ?_⟩
         · rw [hd1]
           show (bno (fR (q:Int) R K A.Cells A.Free A.Used _ first ((q:Int)::toI dN)) _)=_
           rw [←hd1,g3,bnoS]
         · have hl:=AJ Ek hd3
           rw [hd3,Bs (by simp)]
           have:=Cn (fun e=>!decide (e=idP (ns.set p (⟨n.id,n.up,n.first,n.next,n.weight,true⟩:Nk)) q)) (dN.map (idP (ns.set p (⟨n.id,n.up,n.first,n.next,n.weight,true⟩:Nk))))
           simp at hl this ⊢
           omega
     · rw [Ah hk,bT,Aq hk]
       exact ⟨A,_,first,_,rfl,hts.keep hK (by omega)⟩
 · rw [f4,bnoS,bndD,Ai rfl,cK,Aq f1]
   exact ⟨A,ns,first,cl,rfl,h⟩
end Go.Fn
open List renaming length_replicate → Cm,replicate → AF
open Go Go.IL
namespace Go.Fn
theorem new_ts {R K:Int} (hR:0≤R∧R≤24) (hK:0≤K∧K≤24):TS ⟨[],-1,0⟩ (AF 64 (⟨0,0,0,0,0,false⟩:Nk)) (-1) [] R K [] []:=by
 have hal:∀ p,¬fQ ⟨[],-1,0⟩ p:=fun p ⟨c,hc,_⟩=>by cases hc
 refine ⟨⟨[],fun _=>[],⟨⟨by decide,(fun c hc=>by cases hc),mX.nil,CR,rfl,rfl,fun i c hc=>by cases hc⟩,Cm ..,⟨fun u hu=>?_,fun _ _=>CR,fun u v p _ _ hp=>(by cases hp),fun p hp=>AI hp (hal p)⟩,fun p hp=>AI hp (hal p),fun u p _ hp=>(by cases hp),fun m hm=>(by cases hm),fun p q hp=>AI hp (hal p),List.Pairwise.nil⟩,fun _ _=>rfl⟩,⟨[],rfl,fun p hp=>(by cases hp),rfl⟩,⟨rfl,⟨rfl,hK⟩,CO _,hK.1,List.Pairwise.nil,fun n hn=>(by cases hn),fun n hn=>(by cases hn),⟨fun _=>0,fun n hn=>(by cases hn)⟩,fun n hn=>(by cases hn),CR,fun e he=>(by cases he)⟩,hR.1,hR.2⟩
 cases u with
 | none=>rfl
 | some p=>exact AI hu (hal p)
end Go.Fn
open Go Go.IL
namespace Go.Fn
theorem aE8 {A:AS} {sp:List Nat} {ns:List Nk} {first:Int} {kids:Af Nat→List Nat} {N:List Nd} (h:RL A sp ns first kids N) {u:Af Nat} (hu:hdK A u) (room keep:Int) (C:List AC) (F U:Int) (cl:List Int):eU (upI u) room keep C F U ns first cl=some (idU ns u):=by
 unfold eU
 rw [bndD]
 cases u with
 | none=>rfl
 | some p =>
   obtain ⟨v,n,k1,k2,k3,k4,k5⟩:=h.up p hu
   rw [show decide (upI (some p) = -1)=false from Ah (show ¬(p:Int) = -1 by omega),bT,show upI (some p)=(p:Int) from rfl,eA,k2,bnoS,chk,Ay h.len,Au,k2,bnoS]
   show _=some (idP ns p)
   rw [dC k2]
end Go.Fn
open Go Go.IL
namespace Go.Fn
theorem aF7 {A:AS} {sp:List Nat} {ns:List Nk} {first:Int} {kids:Af Nat→List Nat} {N:List Nd} (h:RL A sp ns first kids N) (room keep:Int) (C:List AC) (F U:Int) (cl:List Int):∀ (l:List Nat) (p:Nat) (acc:List Int) (f:Nat),Up ns p l→(∀ q∈l,fQ A q)→acc.length+l.length≤1000→l.length<f→eQ room keep C F U ns first cl f acc (p:Int)=some (acc++l.map (idP ns)):=by
 intro l
 induction l with
 | nil =>
   intro p acc f hu _ _ hf
   obtain ⟨f,rfl⟩:∃ g,f=g+1:=⟨f-1,by simp at hf; omega⟩
   obtain ⟨n,h1,h2⟩:=hu
   rw [eQ,bndD,Ah (by omega),AT,BH,gdtt,eA,h1,bnoS,chk,Ay (fun _=>h.len),gdtt,Au,h1,bnoS,bndD,h2,Ai rfl,AN,bndD,Dt,bT,As,AW]
 | cons q l ih =>
   intro p acc f hu hl ha hf
   obtain ⟨f,rfl⟩:∃ g,f=g+1:=⟨f-1,by simp at hf; omega⟩
   obtain ⟨⟨n,h1,h2⟩,h3⟩:=hu
   have hid:eU (q:Int) room keep C F U ns first cl=some (idP ns q):=aE8 h (u:=some q) (hl q (by simp)) room keep C F U cl
   simp at ha
   rw [eQ,bndD,Ah (by omega),AT,BH,gdtt,eA,h1,bnoS,chk,Ay (fun _=>h.len),gdtt,Au,h1,bnoS,bndD,h2,Ah (by omega),AT,bndD,Eb,cK,bnoS,chk,Ay h.len,bnoS,h2,hid,bnoS,nW (by simp; omega) (by simp; omega),bnoS]
   rw [ih q (acc++[idP ns q]) f h3 (fun z hz=>hl z (by simp [hz])) (by simp; omega) (by simpa using hf)]
   rw [Aj,AH]; rfl
theorem aFl {A:AS} {ns:List Nk} {first:Int} {cl:List Int} {R K:Int} {N:List Nd} {E:List Int} (h:TS A ns first cl R K N E) (id:Int) (room keep:Int):jY id room keep A.Cells A.Free A.Used ns first cl=some (if hasN N id then iF N N.length id else []):=by
 obtain ⟨sp,kids,hR,h0⟩:=h.rl
 obtain ⟨r,hr⟩:=h.fv.rk
 have hN:N.length≤24:=h.fv.ln
 unfold jY
 rcases tM h id room keep with ⟨f1,p,f2,f3,f4⟩ | ⟨f1,f4⟩
 · obtain ⟨l,l1,l2,l3,l4⟩:=aAJ hR (fun m hm=>(h.fv.ra m hm).1.1) hr h.fv.pa f2
   rw [f4,bnoS,Ay f1,aF7 hR room keep A.Cells A.Free A.Used cl l p [] fuel l1 l2 (by simp; omega) (eZ (by omega)),←f3,l4]; rfl
 · rw [f4,bnoS,Aq f1]
   rfl
end Go.Fn
open Go Go.IL
namespace Go.Fn
def yW (ns:List Nk) (p:Nat):Nd:=⟨(ns.getD p default).id,(if (ns.getD p default).up = -1 then 0 else idP ns (ns.getD p default).up.toNat),(ns.getD p default).weight,(ns.getD p default).closed⟩
theorem xB {A:AS} {sp:List Nat} {ns:List Nk} {first:Int} {kids:Af Nat→List Nat} {N:List Nd} (h:RL A sp ns first kids N) {p:Nat} (hp:fQ A p):yW ns p∈N∧(yW ns p).ID=idP ns p∧∃ n u,ns[p]? = some n∧n.up=upI u∧hdK A u∧yW ns p=asN ns n u:=by
 obtain ⟨u,n,k1,k2,k3,k4,k5⟩:=h.up p hp
 have e:yW ns p=asN ns n u:=by
  unfold yW asN
  rw [AB,k2]
  show (⟨n.id,(if n.up = -1 then 0 else idP ns n.up.toNat),n.weight,n.closed⟩:Nd)=_
  rw [k3]
  cases u with
  | none=>rfl
  | some q =>
    rw [show upI (some q)=(q:Int) from rfl,Aq (by omega),Au]; rfl
 rw [e]
 exact ⟨k5,(dC k2).symm,n,u,k2,k3,k1,rfl⟩
theorem aFt {A:AS} {sp:List Nat} {ns:List Nk} {first:Int} {kids:Af Nat→List Nat} {N:List Nd} (h:RL A sp ns first kids N) {lv:List Nat} (hl:lv.length≤1000) (hc:∀ p∈lv,fQ A p) (room keep:Int) (C:List AC) (F U:Int) (cl:List Int) (r:List Nat):∀ (q:List Nat) (f:Nat),lv=q++r→r.length<f→fN room keep C F U ns first cl (toI lv) f (q.map (yW ns)) (q.length:Int)=(bno (dV (lv.map (yW ns))) fun x31=>chk (x31.length=(lv.map (yW ns)).length)<|some x31):=by
 induction r with
 | nil =>
   intro q f h1 hf
   obtain ⟨f,rfl⟩:∃ g,f=g+1:=⟨f-1,by simp at hf; omega⟩
   rw [AW] at h1
   subst h1
   rw [fN,bndD,show (toI lv).length=lv.length by unfold toI; simp,Ah (by omega),bT]
 | cons p r ih =>
   intro q f h1 hf
   obtain ⟨f,rfl⟩:∃ g,f=g+1:=⟨f-1,by simp at hf; omega⟩
   obtain ⟨e1,e2,e3,e4⟩:=gixI h1 hl
   have hq:q.length≤1000:=by rw [h1] at hl; simp at hl; omega
   obtain ⟨_,_,n,u,k1,k2,k3,k4⟩:=xB h (hc p (by rw [h1]; simp))
   rw [fN,bndD,e1,cK,e2,bnoS,eA,k1,bnoS,chk,Ay h.len,Au,k1,bnoS,k2,aE8 h k3,bnoS,nW (by simp; omega) (by simp; omega),bnoS,bndD,e4]
   have:=ih (q++[p]) f (by rw [h1]; simp) (by simpa using hf)
   rw [Ch,List.map_singleton,k4] at this
   exact this
end Go.Fn
open Go Go.IL
namespace Go.Fn
theorem kids_L3 {A:AS} {sp:List Nat} {ns:List Nk} {first:Int} {kids:Af Nat→List Nat} {N:List Nd} (h:RL A sp ns first kids N) (room keep:Int) (C:List AC) (F U:Int) (cl:List Int):∀ (r:List Nat) (acc:List Int) (a:Int) (f:Nat),jR ns a r→(∀ p∈r,fQ A p)→acc.length+r.length≤1000→r.length<f→fV room keep C F U ns first cl f a acc=fW (acc++r.map (idP ns)):=by
 intro r
 induction r with
 | nil =>
   intro acc a f hc _ _ hf
   obtain ⟨f,rfl⟩:∃ g,f=g+1:=⟨f-1,by simp at hf; omega⟩
   have hc:a = -1:=hc
   rw [fV,bndD,hc,Ai rfl,AN,bT,As,AW]
 | cons p r ih =>
   intro acc a f hc hl ha hf
   obtain ⟨f,rfl⟩:∃ g,f=g+1:=⟨f-1,by simp at hf; omega⟩
   obtain ⟨h1,n,h2,h3⟩:=hc
   have hid:eU (p:Int) room keep C F U ns first cl=some (idP ns p):=aE8 h (u:=some p) (hl p (by simp)) room keep C F U cl
   simp at ha
   rw [fV,bndD,h1,Ah (by omega),AT,cK,eA,h2,bnoS,Au,h2,bnoS,hid,bnoS,nW (by simp; omega) (by simp; omega),bnoS]
   rw [ih (acc++[idP ns p]) n.next f h3 (fun z hz=>hl z (by simp [hz])) (by simp; omega) (by simpa using hf),Aj,AH]; rfl
theorem kids_L4 {A:AS} {sp:List Nat} {ns:List Nk} {first:Int} {kids:Af Nat→List Nat} {N:List Nd} (h:RL A sp ns first kids N) (room keep:Int) (C:List AC) (F U:Int) (cl:List Int):∀ (r:List Nat) (acc:List Int) (a:Int) (f:Nat),jR ns a r→(∀ p∈r,fQ A p)→acc.length+r.length≤1000→r.length<f→fU room keep C F U ns first cl f a acc=fW (acc++r.map (idP ns)):=by
 intro r
 induction r with
 | nil =>
   intro acc a f hc _ _ hf
   obtain ⟨f,rfl⟩:∃ g,f=g+1:=⟨f-1,by simp at hf; omega⟩
   have hc:a = -1:=hc
   rw [fU,bndD,hc,Ai rfl,AN,bT,As,AW]
 | cons p r ih =>
   intro acc a f hc hl ha hf
   obtain ⟨f,rfl⟩:∃ g,f=g+1:=⟨f-1,by simp at hf; omega⟩
   obtain ⟨h1,n,h2,h3⟩:=hc
   have hid:eU (p:Int) room keep C F U ns first cl=some (idP ns p):=aE8 h (u:=some p) (hl p (by simp)) room keep C F U cl
   simp at ha
   rw [fU,bndD,h1,Ah (by omega),AT,cK,eA,h2,bnoS,Au,h2,bnoS,hid,bnoS,nW (by simp; omega) (by simp; omega),bnoS]
   rw [ih (acc++[idP ns p]) n.next f h3 (fun z hz=>hl z (by simp [hz])) (by simp; omega) (by simpa using hf),Aj,AH]; rfl
end Go.Fn
open Go Go.IL
namespace Go.Fn
theorem aGq {A:AS} {ns:List Nk} {first:Int} {cl:List Int} {R K:Int} {N:List Nd} {E:List Int} (h:TS A ns first cl R K N E) (id:Int) (room keep:Int) :
 (¬(hasN N id∨id=0)∧iY id room keep A.Cells A.Free A.Used ns first cl=some []) ∨
 (hasN N id∨id=0)∧∃ l:List Int,iY id room keep A.Cells A.Free A.Used ns first cl=fW l∧l.Nodup∧l.length≤64∧(∀ m∈N,(m.ID∈l↔m.aa=id))∧∀ i∈l,hasN N i:=by
 obtain ⟨sp,kids,hR,h0⟩:=h.rl
 have hpos:∀ m∈N,1≤m.ID:=fun m hm=>(h.fv.ra m hm).1.1
 have hnd:∀ u,hdK A u→((kids u).map (idP ns)).Nodup:=fun u hu =>
  Bm.2 ((hR.lk.nd u hu).imp_of_mem fun {p q} hp hq hne e=>hne (hR.inj p q (hR.kid u p hu hp) (hR.kid u q hu hq) e))
 have hin:∀ u,hdK A u→∀ i∈(kids u).map (idP ns),hasN N i:=fun u hu i hi=>by
  obtain ⟨p,hp,rfl⟩:=Am.1 hi
  obtain ⟨v,n,k1,k2,k3,k4,k5⟩:=hR.up p (hR.kid u p hu hp)
  exact ⟨_,k5,(dC k2).symm⟩
 unfold iY
 rcases tM h id room keep with ⟨f1,p,f2,f3,f4⟩ | ⟨f1,f4⟩
 · have hsz:=hR.lk.size hR.len (u:=some p) f2
   obtain ⟨v,n,k1,k2,k3,k4,k5⟩:=hR.up p f2
   have hch:=hR.lk.ch (some p) f2
   rw [mL k2] at hch
   refine .inr ⟨.inl f1,(kids (some p)).map (idP ns),?_,hnd (some p) f2,by rw [AA]; exact hsz,fun m hm=>?_,hin (some p) f2⟩
   · rw [f4,bnoS,bndD,bndD,bndD,Ah (show ¬(p:Int) = -1 by omega),CS,bT,bndD,bT,eA,k2,bnoS,chk,Ay hR.len,Au,k2,bnoS]
     rw [kids_L4 hR room keep A.Cells A.Free A.Used cl (kids (some p)) [] n.first fuel hch (fun z hz=>hR.kid (some p) z f2 hz) (by simp; omega) (eZ (by omega))]; rfl
   · rw [vA hR hpos (u:=some p) f2 hm,←f3]; rfl
 · by_cases e:id=0
   · have hsz:=hR.lk.size hR.len (u:=none) trivial
     refine .inr ⟨.inr e,(kids none).map (idP ns),?_,hnd none trivial,by rw [AA]; exact hsz,fun m hm=>?_,hin none trivial⟩
     · rw [f4,bnoS,bndD,bndD,bndD,Ai e,AN,Dt,bT,bndD,show decide ((-1:Int) = -1)=true from rfl,cK,chk,Ay hR.len]
       rw [kids_L3 hR room keep A.Cells A.Free A.Used cl (kids none) [] first fuel (hR.lk.ch none trivial) (fun z hz=>hR.kid none z trivial hz) (by simp; omega) (eZ (by omega))]; rfl
     · rw [vA hR hpos (u:=none) trivial hm,e]; rfl
   · refine .inl ⟨fun hh=>hh.elim f1 e,?_⟩
     rw [f4,bnoS,bndD,bndD,bndD,Ah e,AT,Eb,show decide ((-1:Int) = -1)=true from rfl,cK]
end Go.Fn
open _root_ renaming decide_eq_true_iff → BY
open Go Go.IL
namespace Go.Fn
theorem tG {α:Type} {k:α→Int}:∀ {w:List α},w.Pairwise (fun a b=>k a≤k b)→(w.map k).Nodup→w.Pairwise (fun a b=>k a<k b)
 | [],_,_=>.nil
 | x::w,h,hn=>by
   obtain ⟨h1,h2⟩:=AU.1 h
   obtain ⟨n1,n2⟩:=Bo.1 hn
   refine AU.2 ⟨fun y hy=>?_,tG h2 n2⟩
   have:=h1 y hy
   have:k x≠k y:=fun e=>n1 (Am.2 ⟨y,hy,e.symm⟩)
   omega
theorem aD9 {l:List Int} (hl:l.length≤24) (hn:l.Nodup):∃ w,aBq l=some w∧w.Perm l∧w.Pairwise (· < ·):=by
 have hp:=oD id l
 refine ⟨_,sortI_t (by omega),hp,?_⟩
 refine tG (k:=id) (pH id l) ?_
 rw [CY]
 exact (hp.nodup_iff).2 hn
theorem ksort_t {l:List Nd} (hl:l.length≤24) (hn:(l.map (·.ID)).Nodup) (hg:∀ m∈l,0≤m.ID∧m.ID≤1048576):∃ w,dV l=some w∧w.Perm l∧w.Pairwise (fun a b=>a.ID<b.ID):=by
 have hp:=oD (fun m:Nd=>m.ID) l
 refine ⟨_,sortK_t (by omega) (fun m hm=>?_) hn,hp,tG (pH _ l) (((hp.map _).nodup_iff).2 hn)⟩
 have:=hg m hm
 rw [Az,BY,BY]
 exact this
end Go.Fn
open Go Go.IL
namespace Go.Fn
theorem Kids_ts {A:AS} {ns:List Nk} {first:Int} {cl:List Int} {R K:Int} {N:List Nd} {E:List Int} (h:TS A ns first cl R K N E) (id:Int) (room keep:Int) :
 ∃ w:List Int,iY id room keep A.Cells A.Free A.Used ns first cl=some w∧w.Pairwise (· < ·)∧(∀ i∈w,hasN N i)∧(¬(hasN N id∨id=0)→w=[])∧((hasN N id∨id=0)→∀ m∈N,(m.ID∈w↔m.aa=id)):=by
 rcases aGq h id room keep with ⟨h1,h2⟩ | ⟨h1,l,h2,h3,h4,h5,h6⟩
 · exact ⟨[],h2,List.Pairwise.nil,fun i hi=>(by cases hi),fun _=>rfl,fun hh=>AI hh h1⟩
 · have hl:l.length≤24:=by
    have:=pF h3 (m:=N.map (·.ID)) fun i hi=>by
     obtain ⟨m,hm,e⟩:=h6 i hi
     exact Am.2 ⟨m,hm,e⟩
    rw [AA] at this
    have hN:N.length≤24:=h.fv.ln
    omega
   obtain ⟨w,hw,hp,hs⟩:=aD9 hl h3
   refine ⟨w,?_,hs,fun i hi=>h6 i (hp.mem_iff.1 hi),fun hh=>AI h1 hh,fun _ m hm=>?_⟩
   · rw [h2]
     unfold fW
     unfold gM
     rw [hw,bnoS,chk,Ay hp.length_eq]
   · rw [hp.mem_iff]; exact h5 m hm
end Go.Fn
open Go Go.IL
namespace Go.Fn
theorem aCm:∀ {l m:List Nd},l.Pairwise (fun a b=>a.ID<b.ID)→m.Pairwise (fun a b=>a.ID<b.ID)→(∀ x,x∈l↔x∈m)→l=m
 | [],[],_,_,_=>rfl
 | [],y::m,_,_,h=>by have:=(h y).2 (by simp); cases this
 | x::l,[],_,_,h=>by have:=(h x).1 (by simp); cases this
 | x :: l,y::m,h1,h2,h=>by
   obtain ⟨a1,a2⟩:=AU.1 h1
   obtain ⟨b1,b2⟩:=AU.1 h2
   have e:x=y:=by
    rcases Ax.1 ((h x).1 (by simp)) with e | hx
    · exact e
    · rcases Ax.1 ((h y).2 (by simp)) with e | hy
      · exact e.symm
      · have:=a1 y hy
        have:=b1 x hx
        omega
   subst e
   rw [aCm a2 b2 fun z=>?_]
   constructor
   · intro hz
     rcases Ax.1 ((h z).1 (Br _ hz)) with e | hz2
     · have:=a1 z hz
       rw [e] at this; omega
     · exact hz2
   · intro hz
     rcases Ax.1 ((h z).2 (Br _ hz)) with e | hz2
     · have:=b1 z hz
       rw [e] at this; omega
     · exact hz2
theorem aDH {A:AS} {ns:List Nk} {first:Int} {cl:List Int} {R K:Int} {N:List Nd} {E:List Int} (h:TS A ns first cl R K N E) (room keep:Int):jI room keep A.Cells A.Free A.Used ns first cl=some N:=by
 obtain ⟨sp,kids,hR,h0⟩:=h.rl
 have hN:N.length≤24:=h.fv.ln
 have hlen:(nD A.Cells 0).length=N.length:=by
  have h1:=aAH hR
  rw [hR.ga.used,←uC A.Cells 0] at h1
  omega
 have hc:∀ p∈nD A.Cells 0,fQ A p:=fun p hp=>nX.2 hp
 unfold jI
 rw [aEi hR.ga,bnoS]
 have:=aFt hR (lv:=nD A.Cells 0) (by omega) hc room keep A.Cells A.Free A.Used cl (nD A.Cells 0) [] fuel rfl (eZ (by omega))
 rw [show ((0:Int))=(([]:List Nat).length:Int) from rfl]
 refine FS this ?_
 have hids:((nD A.Cells 0).map (yW ns)).map (·.ID)=(nD A.Cells 0).map (idP ns):=by
  rw [BK]
  exact AV fun p hp=>(xB hR (hc p hp)).2.1
 obtain ⟨w,e,hp,hs⟩:=ksort_t (l:=(nD A.Cells 0).map (yW ns)) (by rw [AA]; omega) (by
  rw [hids]
  exact Bm.2 ((tJ A.Cells 0).imp_of_mem fun {p q} hp hq hne e=>hne (hR.inj p q (hc p hp) (hc q hq) e))) (fun m hm=>by
  obtain ⟨p,hp,rfl⟩:=Am.1 hm
  have:=(h.fv.ra _ (xB hR (hc p hp)).1).1
  omega)
 rw [e,bnoS,chk,Ay hp.length_eq]
 congr 1
 refine aCm hs hR.so fun x=>?_
 rw [hp.mem_iff]
 constructor
 · intro hx
   obtain ⟨p,hp,rfl⟩:=Am.1 hx
   exact (xB hR (hc p hp)).1
 · intro hx
   obtain ⟨p,n,u,k1,k2,k3,k4,rfl⟩:=hR.bw x hx
   obtain ⟨g1,g2,_⟩:=xB hR k1
   refine Am.2 ⟨p,nX.1 k1,rG hR.so g1 hx ?_⟩
   rw [g2,dC k3]; rfl
theorem Do_ts {A:AS} {ns:List Nk} {first:Int} {cl:List Int} {R K:Int} {N:List Nd} {E:List Int} (h:TS A ns first cl R K N E) {a:dL} (h0:0≤a.al) (h1:a.al≤255) :
 ∃ c A' ns' first' cl' N' E',lV a R K A.Cells A.Free A.Used ns first cl=some (c,R,K,A'.Cells,A'.Free,A'.Used,ns',first',cl')∧TS A' ns' first' cl' R K N' E':=by
 obtain ⟨r,hr⟩:=aF1 h0 h1
 obtain ⟨A1,ns1,f1,cl1,i1,i2⟩:=aFm h a.ID a.ap a.ae a.am
 obtain ⟨A2,ns2,f2,cl2,m1,m2⟩:=Move_ts h a.ID a.ap a.ae a.am
 obtain ⟨A3,ns3,f3,cl3,c1,c2⟩:=aGr h a.ID
 obtain ⟨A4,ns4,f4,cl4,r1,r2⟩:=aFj h a.ID
 unfold lV
 rw [hr,bnoS,bndD]
 unfold kG kF
 by_cases e:r=0
 · rw [Ai e,cK,cK,i1,bnoS]
   exact ⟨_,_,_,_,_,_,_,rfl,i2⟩
 · rw [Ah e,bT,bndD]
   by_cases e:r=1
   · rw [Ai e,cK,i1,bnoS]
     exact ⟨_,_,_,_,_,_,_,rfl,i2⟩
   · rw [Ah e,bT,bndD]
     by_cases e:r=2
     · rw [Ai e,cK,cK,m1,bnoS]
       exact ⟨_,_,_,_,_,_,_,rfl,m2⟩
     · rw [Ah e,bT,bndD]
       by_cases e:r=3
       · rw [Ai e,cK,m1,bnoS]
         exact ⟨_,_,_,_,_,_,_,rfl,m2⟩
       · rw [Ah e,bT,bndD]
         by_cases e:r=4
         · rw [Ai e,cK,c1,bnoS]
           exact ⟨_,_,_,_,_,_,_,rfl,c2⟩
         · rw [Ah e,bT,r1,bnoS]
           exact ⟨_,_,_,_,_,_,_,rfl,r2⟩
end Go.Fn
open Go Go.IL
namespace Go.Fn
end Go.Fn
open Go Go.IL
namespace Go.Fn
end Go.Fn
open Go Go.IL
namespace Go.Fn
end Go.Fn
open Go Go.IL
namespace Go.Fn
inductive Dsc (N:List Nd) (d:Int):Int→Prop
 | child (n:Nd) (hn:n∈N) (hp:n.aa=d):Dsc N d n.ID
 | up (n:Nd) (hn:n∈N) (hp:n.aa≠0) (h:Dsc N d n.aa):Dsc N d n.ID
structure Tr (N:List Nd) (r:Int→Nat):Prop where
 so:N.Pairwise (fun a b=>a.ID<b.ID)
 id:∀ n∈N,1≤n.ID
 pa:∀ n∈N,n.aa=0∨∃ m∈N,m.ID=n.aa
 rk:∀ n∈N,n.aa≠0→r n.aa<r n.ID
theorem FV.tr {K:Int} {st:Fs} (h:FV K st):∃ r,Tr st.ai r:=by
 obtain ⟨r,hr⟩:=h.rk
 exact ⟨r,h.so,fun n hn=>(h.ra n hn).1.1,h.pa,hr⟩
section
variable {N:List Nd} {r:Int→Nat}
theorem aAY (h:Tr N r) {n:Nd} (hn:n∈N):iF N N.length n.ID=if n.aa=0 then [] else n.aa::iF N N.length n.aa:=by
 obtain ⟨k,hk⟩:∃ k,N.length=k+1:=⟨N.length-1,by have:=DL hn; omega⟩
 by_cases hz:n.aa=0
 · rw [Ay hz,hk,iF,vO h.so hn]
   simp only [Ay hz]
 · rw [Aq hz]
   have e1:iF N N.length n.ID=n.aa::iF N k n.aa:=by
    rw [hk,iF,vO h.so hn]
    simp only [Aq hz]
   obtain ⟨h1,h2⟩:=pJ h.so h.rk h.pa N.length n.ID ⟨n,hn,rfl⟩
   have h3:=pF h1 h2
   rw [e1,AZ,AZ,AA] at h3
   have h4:=xK (N:=N) k n.aa (by omega)
   rw [e1,hk,h4]
end
end Go.Fn
open Go Go.IL
namespace Go.Fn
end Go.Fn
open Go Go.IL
namespace Go.Fn
def GoodD (l:List dL):Prop:=∀ a∈l,0≤a.al∧a.al≤255
end Go.Fn
open List renaming getElem?_set → Ew
open Go Go.IL
namespace Go.Fn
def askI (N:List Nd) (l:List Int) (i:Int):Bool:=decide (i∈l)&&N.any fun m=>decide (m.ID=i) && !m.af
def pO (N:List Nd) (l:List Int) (i:Int):Bool:=askI N l i && !((iF N N.length i).any (askI N l))
structure tN (A:AS) (ns:List Nk) (q:List Int) (B:List Bool):Prop where
 len:B.length=64
 mr:∀ p:Nat,B[p]? = some true↔fQ A p∧idP ns p∈q∧(ns.getD p default).closed=false
theorem aBh {A:AS} {sp:List Nat} {ns:List Nk} {first:Int} {kids:Af Nat→List Nat} {N:List Nd} (h:RL A sp ns first kids N) {l:List Int} {p:Nat} (hp:fQ A p):askI N l (idP ns p)=true↔idP ns p∈l∧(ns.getD p default).closed=false:=by
 obtain ⟨u,n,h1,h2,h3,h4,h5⟩:=h.up p hp
 have hid:=dC h2
 have hc:(ns.getD p default).closed=n.closed:=by rw [AB,h2]; rfl
 unfold askI
 rw [Az,BY,Bz,hc]
 constructor
 · rintro ⟨g1,m,g2,g3⟩
   rw [Az,BY,Dk] at g3
   have:=rG h.so g2 h5 (g3.1.trans hid)
   subst this
   exact ⟨g1,g3.2⟩
 · rintro ⟨g1,g2⟩
   refine ⟨g1,_,h5,?_⟩
   rw [Az,BY,Dk]
   exact ⟨hid.symm,g2⟩
theorem aCo {A:AS} {sp:List Nat} {ns:List Nk} {first:Int} {kids:Af Nat→List Nat} {N:List Nd} (h:RL A sp ns first kids N) {l:List Int} {B:List Bool} (hB:tN A ns l B) {p:Nat} (hp:fQ A p):B[p]? = some (askI N l (idP ns p)):=by
 obtain ⟨u,n,h1,h2,h3,h4,h5⟩:=h.up p hp
 have hlt:p<B.length:=by
  rw [hB.len,←h.len]
  exact (Ag.1 h2).1
 have h9:=aBh h (l:=l) hp
 cases ha:askI N l (idP ns p) with
 | true=>exact (hB.mr p).2 ⟨hp,h9.1 ha⟩
 | false =>
   have e:=AL hlt
   cases hb:B[p] with
   | false=>rw [e,hb]
   | true =>
     rw [hb] at e
     have:=h9.2 ((hB.mr p).1 e).2
     rw [ha] at this; cases this
theorem aCX {A:AS} {sp:List Nat} {ns:List Nk} {first:Int} {kids:Af Nat→List Nat} {N:List Nd} (h:RL A sp ns first kids N) {l:List Int} {B:List Bool} (hB:tN A ns l B) (room keep:Int) (C:List AC) (F U:Int) (cl:List Int) {v98:List Int} (hv:v98.length≤1000) {at_:Nat} (hat:fQ A at_) (kk:List Int→Int→Af (List Int)):∀ (us:List Nat) (p:Nat) (f:Nat),Up ns p us→(∀ q∈us,fQ A q)→us.length<f →
 eJ room keep C F U ns first cl B v98 (at_:Int) kk f true (p:Int)=if (us.map (idP ns)).any (askI N l)=true then kk v98 ((at_:Int)+1) else kk (v98++[idP ns at_]) ((at_:Int)+1)
 | us,p,0,_,_,hf=>AI hf (by omega)
 | us, p,f+1,hu,ha,hf=>by
   have hat64:at_<64:=by
    obtain ⟨u,n,h1,h2,h3,h4,h5⟩:=h.up at_ hat
    rw [←h.len]
    exact (Ag.1 h2).1
   have hid:eU (at_:Int) room keep C F U ns first cl=some (idP ns at_):=aE8 h (u:=some at_) hat room keep C F U cl
   have hw:Al .i64 ((at_:Int)+1)=(at_:Int)+1:=w64 (by omega) (by omega)
   cases us with
   | nil =>
     obtain ⟨n,h1,h2⟩:=hu
     rw [eJ,BH,gdtt,eA,h1,bnoS,chk,Ay (fun _=>h.len),gdtt,Au,h1,bnoS,bndD,h2,Ai rfl,AN,bndD,Dt,bT,cK,hid,bnoS,nW (by simp; omega) (by simp; omega),bnoS,hw,bndD,Aq (by simp)]
   | cons q us =>
     obtain ⟨⟨n,h1,h2⟩,h3⟩:=hu
     have hq:=ha q (by simp)
     have hm:=aCo h hB hq
     rw [eJ,BH,gdtt,eA,h1,bnoS,chk,Ay (fun _=>h.len),gdtt,Au,h1,bnoS,bndD,h2,Ah (by omega),AT,bndD,EC,cK,bnoS,chk,Ay h.len,bnoS,h2,eA,hm,bnoS,chk,Ay hB.len,Au,hm,bnoS,Aj,List.any_cons]
     cases hc:askI N l (idP ns q) with
     | false =>
       rw [AT,Ec]
       exact aCX h hB room keep C F U cl hv hat kk us q f h3 (fun z hz=>ha z (by simp [hz])) (by simpa using hf)
     | true =>
       rw [AN,Bool.true_or,Ay rfl]
       obtain ⟨g,rfl⟩:∃ g,f=g+1:=⟨f-1,by simp at hf; omega⟩
       rw [eJ,ft,gdff,bnoS,chk,Ay (fun hh=>by cases hh),gdff,bnoS,bndD,bndD,CS,bT,bT,hw,bndD]
structure aFk (A:AS) (ns:List Nk) (N:List Nd) (l:List Int) (k:Nat) (acc:List Int):Prop where
 nd:acc.Nodup
 ln:acc.length≤k
 me:∀ i,i∈acc↔∃ p,p<k∧fQ A p∧idP ns p=i∧pO N l i=true
theorem aCY {A:AS} {ns:List Nk} {first:Int} {cl:List Int} {R K:Int} {N:List Nd} {E:List Int} (h:TS A ns first cl R K N E) {l:List Int} {B:List Bool} (hB:tN A ns l B) (room keep:Int):∀ (m k f:Nat) (acc:List Int),k+m=64→m<f→aFk A ns N l k acc →
 ∃ acc',aFk A ns N l 64 acc'∧eK room keep A.Cells A.Free A.Used ns first cl B f acc (k:Int)=(bno (gM acc') fun x192=>chk (x192.length=acc'.length)<|some x192)
 | _,_,0,_,_,hf,_=>AI hf (by omega)
 | 0,k,f+1,acc,hk,hf,ha=>by
   have hk:k=64:=by omega
   subst hk
   exact ⟨acc,ha,by rw [eK,bndD,Ah (by omega),bT]⟩
 | m + 1,k,f+1,acc,hk,hf,ha=>by
   obtain ⟨sp,kids,hR,h0⟩:=h.rl
   have hlt:k<B.length:=by rw [hB.len]; omega
   have hw:Al .i64 ((k:Int)+1)=((k+1:Nat):Int):=by rw [w64 (by omega) (by omega)]; omega
   have hln:=ha.ln
   rw [eK,bndD,Ai (by omega),cK,eA,AL hlt,bnoS]
   have hskip:∀ (hno:¬ (fQ A k∧pO N l (idP ns k)=true)),aFk A ns N l (k+1) acc:=fun hno=>⟨ha.nd,by omega,fun i=>by
    rw [ha.me]
    constructor
    · rintro ⟨p,p1,p2⟩
      exact ⟨p,by omega,p2⟩
    · rintro ⟨p,p1,p2,p3,p4⟩
      by_cases e:p=k
      · subst e
        exact AI ⟨p2,by rw [p3]; exact p4⟩ hno
      · exact ⟨p,by omega,p2,p3,p4⟩⟩
   have hadd:∀ (hk:fQ A k) (hr:pO N l (idP ns k)=true),aFk A ns N l (k+1) (acc++[idP ns k]):=fun hk hr=>⟨by
    refine Cv.2 ⟨ha.nd,by simp,fun a h1 b h2 e=>?_⟩
    rw [Bx] at h2
    subst h2
    subst e
    obtain ⟨p,p1,p2,p3,p4⟩:=(ha.me _).1 h1
    have:=hR.inj p k p2 hk p3
    omega,by simp; omega,fun i=>by
    rw [AM,ha.me,Bx]
    constructor
    · rintro (⟨p,p1,p2⟩ | rfl)
      · exact ⟨p,by omega,p2⟩
      · exact ⟨k,by omega,hk,rfl,hr⟩
    · rintro ⟨p,p1,p2,p3,p4⟩
      by_cases e:p=k
      · subst e
        exact .inr p3.symm
      · exact .inl ⟨p,by omega,p2,p3,p4⟩⟩
   have hrecn:=fun (acc:List Int) (hac:aFk A ns N l (k+1) acc)=>aCY h hB room keep m (k+1) f acc (by omega) (by omega) hac
   cases hb:B[k] with
   | false =>
     have hno:¬ (fQ A k∧pO N l (idP ns k)=true):=fun ⟨g1,g2⟩=>by
      have:=aCo hR hB g1
      rw [AL hlt,hb] at this
      unfold pO at g2
      rw [←Option.some.inj this] at g2
      cases g2
     obtain ⟨acc',r1,r2⟩:=hrecn acc (hskip hno)
     refine ⟨acc',r1,?_⟩
     obtain ⟨g,hg⟩:∃ g,fuel=g+1:=⟨fuel-1,by have:=eZ (n:=1) (by decide); omega⟩
     rw [hg,eJ,ft,gdff,bnoS,chk,Ay (fun hh=>by cases hh),gdff,bnoS,bndD,bndD,CS,bT,bT,hw,bndD]
     exact r2
   | true =>
     have hmk:=(hB.mr k).1 (by rw [AL hlt,hb])
     obtain ⟨rk,hrk⟩:=h.fv.rk
     obtain ⟨us,u1,u2,u3,u4⟩:=aAJ hR (fun m hm=>(h.fv.ra m hm).1.1) hrk h.fv.pa hmk.1
     have hN:N.length≤24:=h.fv.ln
     have hask:askI N l (idP ns k)=true:=(aBh hR hmk.1).2 hmk.2
     have hw2:((k:Int)+1)=((k+1:Nat):Int):=by omega
     rw [aCX hR hB room keep A.Cells A.Free A.Used cl (by omega) hmk.1 _ us k fuel u1 u2 (eZ (by omega)),←u4,hw2]
     by_cases hany:(iF N N.length (idP ns k)).any (askI N l)=true
     · rw [Ay hany]
       exact hrecn acc (hskip fun ⟨_,g2⟩=>by
        unfold pO at g2
        rw [hany,AN,Dt] at g2
        cases g2)
     · rw [Aq hany]
       exact hrecn _ (hadd hmk.1 (by
        unfold pO
        rw [hask,Bool.not_eq_true _ |>.mp hany]; rfl))
theorem aCZ {A:AS} {ns:List Nk} {first:Int} {cl:List Int} {R K:Int} {N:List Nd} {E:List Int} (h:TS A ns first cl R K N E) {l:List Int} (hl:l.length≤1000) (room keep:Int):∀ (r q:List Int) (f:Nat) (B:List Bool),l=q++r→r.length<f→tN A ns q B →
 ∃ B',tN A ns l B'∧eV l room keep A.Cells A.Free A.Used ns first cl f (q.length:Int) B=eK room keep A.Cells A.Free A.Used ns first cl B' fuel [] 0
 | _,_,0,_,_,hf,_=>AI hf (by omega)
 | [],q,f+1,B,h1,hf,hB=>by
   rw [AW] at h1
   exact ⟨B,by rw [h1]; exact hB,by rw [eV,bndD,h1,Ah (by omega),bT,chk,Ay hB.len]⟩
 | i :: r, q,f+1,B,h1,hf,hB=>by
   obtain ⟨sp,kids,hR,h0⟩:=h.rl
   have hrec:=fun (B:List Bool) (hB:tN A ns (q++[i]) B)=>aCZ h hl room keep r (q++[i]) f B (by rw [h1]; simp) (by simpa using hf) hB
   have hwq:=w_at h1 (show l.length≤1000000 by omega)
   rw [eV,bndD,pG h1,cK,kM h1,bnoS]
   rcases tM h i room keep with ⟨f1,p,f2,f3,f4⟩ | ⟨f1,f4⟩
   · obtain ⟨u,n,k1,k2,k3,k4,k5⟩:=hR.up p f2
     have hlt:p<B.length:=by
      rw [hB.len,←hR.len]
      exact (Ag.1 k2).1
     have hcl:(ns.getD p default).closed=n.closed:=by rw [AB,k2]; rfl
     rw [f4,bnoS,bndD,Ah (by omega),AT,BH,gdtt,eA,k2,bnoS,chk,Ay (fun _=>hR.len),gdtt,Au,k2,bnoS,bndD,CF]
     cases hc:n.closed with
     | true =>
       rw [AN,bT,hwq,bndD]
       refine hrec B ⟨hB.len,fun z=>?_⟩
       rw [hB.mr z,AM,Bx]
       constructor
       · exact fun ⟨g1,g2,g3⟩=>⟨g1,.inl g2,g3⟩
       · rintro ⟨g1,g2 | g2,g3⟩
         · exact ⟨g1,g2,g3⟩
         · have:=hR.inj z p g1 f2 (g2.trans f3.symm)
           rw [this,hcl,hc] at g3; cases g3
     | false =>
       rw [AT,cK,eA,AL hlt,bnoS,chk,Ay hB.len,bnoS,bndD,hwq,bndD]
       refine hrec _ ⟨by rw [Bv]; exact hB.len,fun z=>?_⟩
       rw [Ew,AM,Bx]
       by_cases e:p=z
       · subst e
         rw [Ay rfl,Ay hlt]
         exact ⟨fun _=>⟨f2,.inr f3,by rw [hcl,hc]⟩,fun _=>rfl⟩
       · rw [Aq e,hB.mr z]
         constructor
         · exact fun ⟨g1,g2,g3⟩=>⟨g1,.inl g2,g3⟩
         · rintro ⟨g1,g2 | g2,g3⟩
           · exact ⟨g1,g2,g3⟩
           · exact AI (hR.inj z p g1 f2 (g2.trans f3.symm)).symm e
   · rw [f4,bnoS,bndD,Ai rfl,AN,ft,gdff,bnoS,chk,Ay (fun hh=>by cases hh),gdff,bnoS,bndD,CS,bT,hwq,bndD]
     refine hrec B ⟨hB.len,fun z=>?_⟩
     rw [hB.mr z,AM,Bx]
     constructor
     · exact fun ⟨g1,g2,g3⟩=>⟨g1,.inl g2,g3⟩
     · rintro ⟨g1,g2 | g2,g3⟩
       · exact ⟨g1,g2,g3⟩
       · obtain ⟨u,n,k1,k2,k3,k4,k5⟩:=hR.up z g1
         exact AI ⟨_,k5,(dC k2).symm.trans g2⟩ f1
theorem aGo {A:AS} {ns:List Nk} {first:Int} {cl:List Int} {R K:Int} {N:List Nd} {E:List Int} (h:TS A ns first cl R K N E) {l:List Int} (hl:l.length≤1000) (room keep:Int) :
 ∃ w,lB l room keep A.Cells A.Free A.Used ns first cl=some w∧w.Pairwise (· < ·)∧w.length≤24∧(∀ i,i∈w↔hasN N i∧pO N l i=true):=by
 obtain ⟨sp,kids,hR,h0⟩:=h.rl
 have hN:N.length≤24:=h.fv.ln
 have hm0:tN A ns [] (AF 64 false):=⟨by rw [Cm],fun p=>by
  constructor
  · intro hh
    have:=Dl hh
    rw [List.mem_replicate] at this
    cases this.2
  · rintro ⟨_,g,_⟩
    cases g⟩
 obtain ⟨B,b1,b2⟩:=aCZ h hl room keep l [] fuel (AF 64 false) rfl (eZ (by omega)) hm0
 obtain ⟨acc,a1,a2⟩:=aCY h b1 room keep 64 0 fuel [] rfl (eZ (by decide)) ⟨CR,AO _,fun i=>⟨fun hh=>(Bw hh).elim,fun ⟨p,p1,_⟩=>AI p1 (by omega)⟩⟩
 have hin:∀ i,i∈acc↔hasN N i∧pO N l i=true:=fun i=>by
  rw [a1.me]
  constructor
  · rintro ⟨p,p1,p2,p3,p4⟩
    obtain ⟨u,n,k1,k2,k3,k4,k5⟩:=hR.up p p2
    exact ⟨⟨_,k5,(dC k2).symm.trans p3⟩,p4⟩
  · rintro ⟨⟨m,hm,e⟩,g⟩
    obtain ⟨p,n,u,k1,k2,k3,k4,rfl⟩:=hR.bw m hm
    refine ⟨p,?_,k1,(dC k3).trans e,g⟩
    rw [←hR.len]
    exact (Ag.1 k3).1
 have hlen:acc.length≤24:=by
  have:=pF a1.nd (m:=N.map (·.ID)) fun i hi=>by
   obtain ⟨⟨m,hm,e⟩,_⟩:=(hin i).1 hi
   exact Am.2 ⟨m,hm,e⟩
  rw [AA] at this
  omega
 obtain ⟨w,w1,w2,w3⟩:=aD9 hlen a1.nd
 refine ⟨w,?_,w3,by rw [w2.length_eq]; exact hlen,fun i=>by rw [w2.mem_iff]; exact hin i⟩
 unfold lB
 rw [bndD]
 refine FS b2 (FS a2 ?_)
 unfold gM
 rw [w1,bnoS,chk,Ay w2.length_eq]
end Go.Fn
open Go Go.IL
namespace Go.Fn
end Go.Fn
open List renaming any_append → El
open Go Go.IL
namespace Go.Fn
def askN (l:List Int) (n:Nd):Bool:=!n.af&&decide (n.ID∈l)
def actQ (N:List Nd) (l:List Int) (q:List Nd) (id:Int):Bool:=q.any fun n=>askN l n&&(decide (n.ID=id)||decide (id∈iF N N.length n.ID))
structure aD3 (N:List Nd) (l:List Int) (q:List Nd) (v33:List (Int×aX)) (v34 v35:List (Int×Bool)):Prop where
 nd:∀ n∈q,mget v33 n.ID=some n
 no:∀ id,(∀ n∈q,n.ID≠id)→mget v33 id=none
 ct:∀ id,(mget v34 id).getD false=q.any fun n=>decide (n.ID=id)&&askN l n
 c0:v34.length=0↔∀ n∈q,askN l n=false
 ac:∀ id,(mget v35 id).getD false=actQ N l q id
theorem aEg (v32:Int) (kk:Int→List (Int×aX)→List (Int×Bool)→List (Int×Bool)→Af (List Gr×Int)) (x68:List (Int×aX)) (x73:List (Int×Bool)) {P:List Int} (hP:P.length≤1000000) :
 ∀ (r p:List Int) (f:Nat) (v:List (Int×Bool)),P=p++r→r.length<f→∃ w,(∀ id,(mget w id).getD false=((mget v id).getD false||decide (id∈r)))∧jE v32 kk x68 x73 P f (p.length:Int) v=kk (Al .i64 (v32+1)) x68 x73 w
 | _,_,0,_,_,hf=>AI hf (by omega)
 | [],p,f+1,v,h,hf=>⟨v,fun id=>by simp,by rw [jE,bndD,rU h,bT,bndD]⟩
 | x :: r,p,f+1,v,h,hf=>by
   obtain ⟨w,h1,h2⟩:=aEg v32 kk x68 x73 hP r (p++[x]) f (mput v x true) (kV h) (by simp at hf ⊢; omega)
   refine ⟨w,fun id=>?_,by rw [jE,bndD,pG h,cK,kM h,bnoS,bndD,bndD,w_at h hP,h2]⟩
   rw [h1 id,sF]
   by_cases hx:x=id
   · rw [Ay hx]; subst hx; simp
   · rw [Aq hx]
     congr 1
     rw [decide_eq_decide]
     simp [Ne.symm hx]
def pickT (a0:List Gr) (a2 a3:Int) (a4:List aJ) (a5 a6:Int) (a7:List aI) (a8:Int) (a9:List Int) (x1:List Gr) (v33:List (Int×aX)) (v34 v35:List (Int×Bool)):Af (List Gr×Int) :=
 bno (jL a0) fun x94=>bnd (!decide (x94=0)) fun x95=>bnd (decide ((v34.length:Int)=0)) fun x96=>bnd (x95||x96) fun x97 =>
 bif x97 then some (x1,0) else bno (cJ x1 v33 v34 v35 a2 a3 a4 a5 a6 a7 a8 a9) fun x99=>fG a2 a3 a4 a5 a6 a7 a8 a9 v33 v34 v35 fuel x99 0
theorem aB1 {A:AS} {ns:List Nk} {first:Int} {cl:List Int} {R K:Int} {N:List Nd} {E:List Int} (h:TS A ns first cl R K N E) (room keep:Int) {l:List Int} (hl:l.length≤1000) (a0 x1:List Gr) :
 ∀ (r q:List Nd) (f:Nat) (v33:List (Int×aX)) (v34 v35:List (Int×Bool)),N=q++r→r.length<f→aD3 N l q v33 v34 v35 →
 ∃ w33 w34 w35,aD3 N l N w33 w34 w35∧gB a0 l room keep A.Cells A.Free A.Used ns first cl x1 N f (q.length:Int) v33 v34 v35=pickT a0 room keep A.Cells A.Free A.Used ns first cl x1 w33 w34 w35
 | _,_,0,_,_,_,_,hf,_=>AI hf (by omega)
 | [],q,f+1,v33,v34,v35,hN,hf,hI=>by
   refine ⟨v33,v34,v35,by rw [hN,AW]; rw [hN,AW] at hI; exact hI,?_⟩
   rw [gB,bndD,rU hN,bT]; rfl
 | n :: r,q,f+1,v33,v34,v35,hN,hf,hI=>by
   have hln:N.length≤24:=h.fv.ln
   have hn:n∈N:=by rw [hN]; simp
   have hso:N.Pairwise (fun a b=>a.ID<b.ID):=h.fv.so
   have hne:∀ m∈q,m.ID≠n.ID:=fun m hm=>by
    rw [hN,BD] at hso
    have:=hso.2.2 m hm n (by simp); omega
   have hw:Al .i64 ((q.length:Int)+1)=((q++[n]).length:Int):=w_at hN (by omega)
   have hnd:∀ m∈q++[n],mget (mput v33 n.ID n) m.ID=some m:=fun m hm=>by
    rw [sF]
    rcases AM.1 hm with hm | hm
    · rw [Aq (fun e=>hne m hm e.symm)]; exact hI.nd m hm
    · rw [Bx] at hm; subst hm; exact Ay rfl
   have hno:∀ id,(∀ m∈q++[n],m.ID≠id)→mget (mput v33 n.ID n) id=none:=fun id hid=>by
    rw [sF,Aq (hid n (by simp))]
    exact hI.no id fun m hm=>hid m (by simp [hm])
   have hcont:bno (gd (n.af == false) (cW l n.ID) default) (fun x69=>some (n.af||(!x69)))=some (!askN l n):=by
    unfold askN
    rw [cint (by omega)]
    cases n.af
    · simp only [BH,gdtt,bnoS,Ec,AT,CF]
    · rfl
   have hstep:∀ (F:Bool→Af (List Gr×Int)),(bno (gd (n.af == false) (cW l n.ID) default) fun x69=>bnd (n.af||(!x69)) fun x70=>F x70)=F (!askN l n):=fun F=>by
    have:(bno (gd (n.af == false) (cW l n.ID) default) fun x69=>bnd (n.af||(!x69)) fun x70=>F x70)=bno (bno (gd (n.af == false) (cW l n.ID) default) (fun x69=>some (n.af||(!x69)))) F:=by
     cases gd (n.af == false) (cW l n.ID) default <;> rfl
    rw [this,hcont,bnoS]
   rw [gB,bndD,pG hN,cK,kM hN,bnoS,bndD,hstep]
   cases hk:askN l n with
   | false =>
     rw [AT,cK,bndD,hw]
     refine aB1 h room keep hl a0 x1 r (q++[n]) f _ v34 v35 (kV hN) (by simp at hf ⊢; omega) ⟨hnd,hno,fun id=>?_,?_,fun id=>?_⟩
     · rw [hI.ct id,El]; simp [hk]
     · rw [hI.c0]
       constructor
       · intro h1 m hm
         rcases AM.1 hm with hm | hm
         · exact h1 m hm
         · rw [Bx] at hm; subst hm; exact hk
       · exact fun h1 m hm=>h1 m (by simp [hm])
     · rw [hI.ac id]; unfold actQ; rw [El]; simp [hk]
   | true =>
     rw [AN,bT,bndD,bndD,aFl h n.ID room keep,Ay ⟨n,hn,rfl⟩,bnoS]
     obtain ⟨w,h1,h2⟩:=aEg (q.length:Int) (gB a0 l room keep A.Cells A.Free A.Used ns first cl x1 N f) (mput v33 n.ID n) (mput v34 n.ID true) (P:=iF N N.length n.ID) (by have:=aAZ N N.length n.ID; omega) (iF N N.length n.ID) [] fuel (mput v35 n.ID true) rfl (eZ (by have:=aAZ N N.length n.ID; omega))
     rw [show ((([]:List Int).length:Nat):Int)=0 from rfl] at h2
     rw [h2,hw]
     refine aB1 h room keep hl a0 x1 r (q++[n]) f _ _ w (kV hN) (by simp at hf ⊢; omega) ⟨hnd,hno,fun id=>?_,?_,fun id=>?_⟩
     · rw [sF,El]
       by_cases hx:n.ID=id
       · rw [Ay hx]; simp [hx,hk]
       · rw [Aq hx,hI.ct id]; simp [hx]
     · constructor
       · exact fun h0=>AI h0 (mput_ne _ _ _)
       · intro h0
         have:=h0 n (by simp)
         rw [hk] at this; cases this
     · rw [h1 id,sF]
       unfold actQ
       rw [El]
       by_cases hx:n.ID=id
       · rw [Ay hx]; simp [hx,hk]
       · rw [Aq hx,hI.ac id]; unfold actQ; simp [hx,hk]
theorem lookI0 (N:List Nd) (l:List Int):aD3 N l [] [] [] [] where
 nd:=fun n hn=>AI hn Bw
 no:=fun _ _=>rfl
 ct:=fun _=>rfl
 c0:=⟨fun _ n hn=>AI hn Bw,fun _=>rfl⟩
 ac:=fun _=>rfl
end Go.Fn
open List renaming filter_cons → Dy
open Go Go.IL
namespace Go.Fn
def mkM (n:Nd):Mb:=⟨n.ID,n.ae,0⟩
def grpM (N:List Nd) (l:List Int) (at_:Int):List Mb:=(N.filter fun n=>decide (n.aa=at_)&&actQ N l N n.ID).map mkM
theorem aDs {α:Type} (p q:α→Bool):∀ l:List α,(l.filter p).filter q=l.filter fun x=>p x&&q x:=fun l=>by
 rw [List.filter_filter]; congr 1; funext x; exact Bool.and_comm _ _
theorem kids_eq {N:List Nd} (hs:N.Pairwise (fun a b=>a.ID<b.ID)) {w:List Int} {at_:Int} (h1:w.Pairwise (· < ·)) (h2:∀ i∈w,hasN N i) (h3:∀ m∈N,(m.ID∈w↔m.aa=at_)):w=(N.filter fun n=>decide (n.aa=at_)).map (·.ID):=by
 have hp:((N.filter fun n=>decide (n.aa=at_)).map (·.ID)).Pairwise (· < ·):=by
  rw [Bm]; exact hs.filter _
 have key:∀ {a b:List Int},a.Pairwise (· < ·)→b.Pairwise (· < ·)→(∀ x,x∈a↔x∈b)→a=b:=by
  intro a
  induction a with
  | nil =>
    intro b _ _ h
    cases b with
    | nil=>rfl
    | cons y b=>have:=(h y).2 (by simp); cases this
  | cons x a ih =>
    intro b ha hb h
    cases b with
    | nil=>have:=(h x).1 (by simp); cases this
    | cons y b =>
      obtain ⟨a1,a2⟩:=AU.1 ha
      obtain ⟨b1,b2⟩:=AU.1 hb
      have e:x=y:=by
       rcases Ax.1 ((h x).1 (by simp)) with e | hx
       · exact e
       · rcases Ax.1 ((h y).2 (by simp)) with e | hy
         · exact e.symm
         · have:=a1 y hy; have:=b1 x hx; omega
      subst e
      rw [ih a2 b2 fun z=>?_]
      constructor
      · intro hz
        rcases Ax.1 ((h z).1 (by simp [hz])) with e | hz2
        · have:=a1 z hz; omega
        · exact hz2
      · intro hz
        rcases Ax.1 ((h z).2 (by simp [hz])) with e | hz2
        · have:=b1 z hz; omega
        · exact hz2
 refine key h1 hp fun x=>?_
 constructor
 · intro hx
   obtain ⟨m,hm,rfl⟩:=h2 x hx
   exact Am.2 ⟨m,Bj.2 ⟨hm,Ai ((h3 m hm).1 hx)⟩,rfl⟩
 · intro hx
   obtain ⟨m,hm,rfl⟩:=Am.1 hx
   obtain ⟨hm1,hm2⟩:=Bj.1 hm
   exact (h3 m hm1).2 (of_decide_eq_true hm2)
def aFv (v34:List (Int×Bool)) (out:List Gr) (at_:Int) (kk:List Gr→Int→Af (List Gr×Int)) (m:List Mb):Af (List Gr×Int) :=
 bno (jH (⟨at_,m⟩:Gr) out) fun x206=>bno (gW x206 at_) fun x207=>bno (gix x206 x207.1) fun x208=>bno (x206[(x207.1:Int).toNat]?) fun x209 =>
 bno (jX x209) fun x210=>bnd ((mget v34 x210).getD false) fun x211=>bif x211 then some (x206,x210) else kk x206 x210
theorem aAs {N:List Nd} {l:List Int} {v33:List (Int×aX)} {v34 v35:List (Int×Bool)} (hI:aD3 N l N v33 v34 v35) (out:List Gr) (at_:Int) (kk:List Gr→Int→Af (List Gr×Int)) {ks:List Nd} (hks:∀ n∈ks,n∈N) (hkl:ks.length≤1000) :
 ∀ (r q:List Nd) (acc:List Mb) (f:Nat),ks=q++r→r.length<f→acc.length≤q.length →
   iI v33 v34 v35 out at_ kk (ks.map (·.ID)) f (q.length:Int) acc=aFv v34 out at_ kk (acc++(r.filter fun n=>actQ N l N n.ID).map mkM)
 | _,_,_,0,_,hf,_=>AI hf (by omega)
 | [],q,acc,f+1,h,hf,ha=>by
   have hm:ks.map (·.ID)=q.map (·.ID)++[]:=by rw [h]; simp
   have:=rU hm
   rw [AA] at this
   rw [iI,bndD,this,bT]
   simp only [EU,As,AW]
   rfl
 | n :: r,q,acc,f+1,h,hf,ha=>by
   have hm:ks.map (·.ID)=q.map (·.ID)++n.ID::r.map (·.ID):=by rw [h]; simp
   have hn:n∈N:=hks n (by rw [h]; simp)
   have hql:q.length≤ks.length:=by rw [h]; simp
   have e1:=pG hm
   have e2:=kM hm
   have e3:=w_at hm (by rw [AA]; omega)
   rw [AA] at e1 e2
   rw [AX,AA,DU] at e3
   rw [iI,bndD,e1,cK,e2,bnoS,bndD,hI.ac,hI.nd n hn]
   rw [e3,show q.length+1=(q++[n]).length by simp]
   cases hk:actQ N l N n.ID with
   | false =>
     rw [bT,bndD,aAs hI out at_ kk hks hkl r (q++[n]) acc f (kV h) (by simp at hf ⊢; omega) (by simp; omega),Dy,hk]
     rfl
   | true =>
     rw [cK,bndD]
     show bno (app 24 acc [(⟨n.ID,n.ae,0⟩:Mb)]) _=_
     rw [nW (by simp; omega) (by simp; omega),bnoS,bndD,aAs hI out at_ kk hks hkl r (q++[n]) _ f (kV h) (by simp at hf ⊢; omega) (by simp; omega),Dy,hk,AH]
     rfl
theorem aGX {A:AS} {ns:List Nk} {first:Int} {cl:List Int} {R K:Int} {N:List Nd} {E:List Int} (h:TS A ns first cl R K N E) (room keep:Int) {l:List Int} {v33:List (Int×aX)} {v34 v35:List (Int×Bool)} (hI:aD3 N l N v33 v34 v35) (out:List Gr) {at_:Int} (hat:hasN N at_∨at_=0) (f:Nat) :
 fG room keep A.Cells A.Free A.Used ns first cl v33 v34 v35 (f+1) out at_=aFv v34 out at_ (fG room keep A.Cells A.Free A.Used ns first cl v33 v34 v35 f) (grpM N l at_):=by
 obtain ⟨w,h1,h2,h3,h4,h5⟩:=Kids_ts h at_ room keep
 have hln:N.length≤24:=h.fv.ln
 have hw:=kids_eq h.fv.so h2 h3 (h5 hat)
 have hfl:(N.filter fun n=>decide (n.aa=at_)).length≤N.length:=Cn _ _
 rw [fG,h1,bnoS,hw]
 have:=aAs hI out at_ (fG room keep A.Cells A.Free A.Used ns first cl v33 v34 v35 f) (ks:=N.filter fun n=>decide (n.aa=at_)) (fun n hn=>(Bj.1 hn).1) (by omega) (N.filter fun n=>decide (n.aa=at_)) [] [] fuel rfl (eZ (by omega)) (AO _)
 rw [show ((([]:List Nd).length:Nat):Int)=0 from rfl] at this
 rw [this,BM,aDs]; rfl
theorem zZ {α:Type} (p:α→Bool):∀ l:List α,(l.filter p).length+(l.filter fun y=>!p y).length=l.length
 | []=>rfl
 | x::l=>by
   have:=zZ p l
   rw [Dy,Dy]
   cases p x <;> simp <;> omega
theorem aDZ {l:List Gr} (h:nK l) {g:Gr} (hb:lX g.ab=g.ab) :
 ∃ a x c,qA l g=a++x::c∧x.aa=g.aa∧lX x.ab=g.ab∧(x=g∨x∈l)∧(∀ y∈a,y∈l∧y.aa<g.aa)∧(∀ y∈c,y∈l∧g.aa<y.aa)∧a.Pairwise (fun a b=>a.aa<b.aa)∧c.Pairwise (fun a b=>a.aa<b.aa)∧a.length+c.length≤l.length:=by
 have hp1:(l.filter fun y=>decide (y.aa<g.aa)).Pairwise (fun a b=>a.aa<b.aa):=h.so.filter _
 have hp2:(l.filter fun y=>decide (g.aa≤y.aa)).Pairwise (fun a b=>a.aa<b.aa):=h.so.filter _
 have hm1:∀ y∈l.filter fun y=>decide (y.aa<g.aa),y∈l∧y.aa<g.aa:=fun y hy=>by
  obtain ⟨h1,h2⟩:=Bj.1 hy; exact ⟨h1,of_decide_eq_true h2⟩
 have hm2:∀ y∈l.filter fun y=>decide (g.aa≤y.aa),y∈l∧g.aa≤y.aa:=fun y hy=>by
  obtain ⟨h1,h2⟩:=Bj.1 hy; exact ⟨h1,of_decide_eq_true h2⟩
 have hlen:(l.filter fun y=>decide (y.aa<g.aa)).length+(l.filter fun y=>decide (g.aa≤y.aa)).length=l.length:=by
  have e:(fun y:Gr=>decide (g.aa≤y.aa))=fun y=>!decide (y.aa<g.aa):=by
   funext y
   by_cases hy:y.aa<g.aa
   · rw [Ai hy,Ah (by omega)]; rfl
   · rw [Ah hy,Ai (by omega)]; rfl
  rw [e]; exact zZ _ l
 unfold qA
 revert hp2 hm2 hlen
 generalize l.filter (fun y=>decide (g.aa≤y.aa))=b
 intro hp2 hm2 hlen
 cases b with
 | nil=>exact ⟨_,g,[],rfl,rfl,hb,.inl rfl,hm1,fun y hy=>(by cases hy),hp1,List.Pairwise.nil,by rw [Cf] at hlen ⊢; omega⟩
 | cons y c =>
   obtain ⟨p1,p2⟩:=AU.1 hp2
   have hy:=hm2 y (by simp)
   show ∃ a x c',_++(if y.aa=g.aa then (if lX y.ab=g.ab then y::c else g::c) else g::y::c)=_∧_
   by_cases h1:y.aa=g.aa
   · have hc:∀ z∈c,z∈l∧g.aa<z.aa:=fun z hz=>⟨(hm2 z (by simp [hz])).1,by have:=p1 z hz; omega⟩
     rw [Ay h1]
     by_cases h2:lX y.ab=g.ab
     · rw [Ay h2]; exact ⟨_,y,c,rfl,h1,h2,.inr hy.1,hm1,hc,hp1,p2,by simp at hlen; omega⟩
     · rw [Aq h2]; exact ⟨_,g,c,rfl,rfl,hb,.inl rfl,hm1,hc,hp1,p2,by simp at hlen; omega⟩
   · rw [Aq h1]
     refine ⟨_,g,y::c,rfl,rfl,hb,.inl rfl,hm1,fun z hz=>?_,hp1,hp2,by omega⟩
     rcases Ax.1 hz with rfl | hz
     · exact ⟨hy.1,by omega⟩
     · exact ⟨(hm2 z (by simp [hz])).1,by have:=p1 z hz; omega⟩
def PIn (N:List Nd) (l:List Gr):Prop:=∀ g∈l,hasN N g.aa∨g.aa=0
theorem pin_len {N:List Nd} {l:List Gr} (hN:N.length≤24) (hp:PIn N l) (hs:l.Pairwise (fun a b=>a.aa<b.aa)):l.length≤25:=by
 have h1:(l.map (·.aa)).Nodup:=by
  unfold FB
  rw [Bm]
  exact hs.imp fun h=>by omega
 have h2:=pF h1 (m:=0::N.map (·.ID)) fun x hx=>by
  obtain ⟨g,hg,rfl⟩:=Am.1 hx
  rcases hp g hg with ⟨m,hm,e⟩ | e
  · exact Br _ (Am.2 ⟨m,hm,e⟩)
  · show g.aa∈_; rw [e]; simp
 simp at h2; omega
structure vJ (m:List Mb):Prop where
 ln:m.length≤24
 ok:∀ x∈m,okM x
 so:m.Pairwise (fun a b=>a.ID<b.ID)
theorem aFC {K:Int} {N:List Nd} {E:List Int} (h:FV K ⟨24,K,N,E⟩) (l:List Int) (at_:Int):vJ (grpM N l at_)∧lX (grpM N l at_)=grpM N l at_:=by
 refine ⟨⟨?_,fun x hx=>?_,?_⟩,?_⟩
 · unfold grpM
   rw [AA]
   have:=Cn (fun n=>decide (n.aa=at_)&&actQ N l N n.ID) N
   have:N.length≤24:=h.ln
   omega
 · obtain ⟨n,hn,rfl⟩:=Am.1 hx
   have h1:=h.ra n (Bj.1 hn).1
   exact ⟨h1.1,h1.2,(by show (0:Int)≤0; omega),(by show (0:Int)≤_; omega)⟩
 · unfold grpM
   rw [Bm]
   exact (h.so.filter _)
 · unfold lX grpM; rw [BK]; rfl
def grpG (l:List Gr) (p:Int):List Mb:=((l.find? fun g=>decide (g.aa=p)).map (·.ab)).getD []
theorem grpG_at {a c:List Gr} {x:Gr} (ha:∀ y∈a,y.aa<x.aa):grpG (a++x::c) x.aa=x.ab:=by
 unfold grpG
 rw [DQ,CM.2 (fun y hy=>by have:=ha y hy; simp; omega)]
 simp
def topM:List Mb→Int
 | []=>0
 | b::l=>(wH b l).ID
theorem aBK {N:List Nd} (hN:N.length≤24) {l:List Gr} (h:nK l) (hp:PIn N l) {at_:Int} {m:List Mb} (hat:hasN N at_∨at_=0) (hr:0≤at_∧at_≤1048576) (hm:vJ m) (hb:lX m=m) :
 nK (qA l ⟨at_,m⟩)∧PIn N (qA l ⟨at_,m⟩)∧∃ a x c,qA l ⟨at_,m⟩=a++x::c∧x.aa=at_∧lX x.ab=m∧(∀ y∈a,y.aa<at_)∧(∀ y∈c,at_<y.aa):=by
 obtain ⟨a,x,c,h1,h2,h3,h4,h5,h6,h7,h8,h9⟩:=aDZ h (g:=⟨at_,m⟩) hb
 have hx:x.ab.length≤24∧(∀ y∈x.ab,okM y)∧x.ab.Pairwise (fun a b=>a.ID<b.ID):=by
  rcases h4 with rfl | h4
  · exact ⟨hm.ln,hm.ok,hm.so⟩
  · exact ⟨h.ml x h4,h.mr x h4,h.mo x h4⟩
 have hmem:∀ y∈a++x::c,y=x∨y∈l:=fun y hy=>by
  rcases AM.1 hy with hy | hy
  · exact .inr (h5 y hy).1
  · rcases Ax.1 hy with hy | hy
    · exact .inl hy
    · exact .inr (h6 y hy).1
 have hso:(a++x::c).Pairwise (fun a b=>a.aa<b.aa):=by
  rw [BD]
  refine ⟨h7,AU.2 ⟨fun y hy=>by have:=(h6 y hy).2; simp only at h2 this; omega,h8⟩,fun y hy z hz=>?_⟩
  have e1:=(h5 y hy).2
  rcases Ax.1 hz with rfl | hz
  · simp only at h2 e1; omega
  · have e2:=(h6 z hz).2; simp only at e1 e2; omega
 have hpin:PIn N (a++x::c):=fun y hy=>by
  rcases hmem y hy with rfl | hy
  · simp only at h2; rw [h2]; exact hat
  · exact hp y hy
 rw [h1]
 refine ⟨⟨pin_len hN hpin hso,fun y hy=>?_,fun y hy=>?_,fun y hy=>?_,fun y hy=>?_,hso⟩,hpin,a,x,c,rfl,h2,h3,fun y hy=>(h5 y hy).2,fun y hy=>(h6 y hy).2⟩
 · rcases hmem y hy with rfl | hy
   · exact hx.1
   · exact h.ml y hy
 · rcases hmem y hy with rfl | hy
   · simp only at h2; omega
   · exact h.pa y hy
 · rcases hmem y hy with rfl | hy
   · exact hx.2.1
   · exact h.mr y hy
 · rcases hmem y hy with rfl | hy
   · exact hx.2.2
   · exact h.mo y hy
theorem aFu {N:List Nd} (hN:N.length≤24) {out:List Gr} (h:nK out) (hp:PIn N out) {at_:Int} {m:List Mb} (hat:hasN N at_∨at_=0) (hr:0≤at_∧at_≤1048576) (hm:vJ m) (hb:lX m=m) (hne:m≠[]) (v34:List (Int×Bool)) (kk:List Gr→Int→Af (List Gr×Int)) :
 aFv v34 out at_ kk m=(bif (mget v34 (topM (grpG (qA out ⟨at_,m⟩) at_))).getD false then some (qA out ⟨at_,m⟩,topM (grpG (qA out ⟨at_,m⟩) at_)) else kk (qA out ⟨at_,m⟩) (topM (grpG (qA out ⟨at_,m⟩) at_))) ∧
  ∃ x∈m,topM (grpG (qA out ⟨at_,m⟩) at_)=x.ID:=by
 obtain ⟨g1,g2,a,x,c,g3,g4,g5,g6,g7⟩:=aBK hN h hp hat hr hm hb
 have hgr:grpG (qA out ⟨at_,m⟩) at_=x.ab:=by
  rw [g3,←g4]; exact grpG_at fun y hy=>by rw [g4]; exact g6 y hy
 have hx:x∈qA out ⟨at_,m⟩:=by rw [g3]; simp
 have hxl:=g1.ml x hx
 unfold aFv
 rw [aGI h hr,bnoS,hgr]
 obtain ⟨a',b',e1,e2,e3,e4⟩:=aFN g1 hr
 have ea:a'=a:=by
  rw [e2,g3,CB,Dy,Ci.2 (fun y hy=>Ai (g6 y hy)),Ah (show ¬x.aa<at_ by omega),Dc.2 (fun y hy=>by have:=g7 y hy; simp; omega)]
  simp
 rcases e4 with ⟨y,c',f1,f2,f3⟩ | ⟨f1,_⟩
 · rw [f3,bnoS,ea,kM g3,bnoS,aAu g3,bnoS]
   cases hm2:x.ab with
   | nil =>
     rw [hm2] at g5
     exact AI g5.symm hne
   | cons b r =>
     have hlr:r.length≤1000:=by rw [hm2] at hxl; simp at hxl; omega
     rw [aFL hm2 hlr (g1.mr x hx),bnoS,bndD]
     refine ⟨rfl,?_⟩
     have hbm:wH b r∈x.ab:=by
      rw [hm2]
      rcases aAy r b with e | e
      · rw [e]; simp
      · exact Br _ e
     refine ⟨⟨(wH b r).ID,(wH b r).ae,0⟩,?_,rfl⟩
     rw [←g5]
     exact Am.2 ⟨_,hbm,rfl⟩
 · exact AI g4 (f1 x hx)
end Go.Fn
open Bool renaming or_false → CD
open Go Go.IL
namespace Go.Fn
def aF4 (N:List Nd) (l:List Int):Nat→List Gr→Int→Af (List Gr×Int)
 | 0,_,_=>none
 | k+1,out,at_ =>
   let out':=qA out ⟨at_,grpM N l at_⟩
   let id:=topM (grpG out' at_)
   bif N.any (fun n=>decide (n.ID=id)&&askN l n) then some (out',id) else aF4 N l k out' id
def askB (N:List Nd) (l:List Int) (id:Int):Bool:=N.any fun n=>decide (n.ID=id)&&askN l n
theorem aFf (N:List Nd) (l:List Int) (id:Int):askB N l id=askI N l id:=by
 unfold askB askI askN
 rw [ER]
 simp only [Bz,Az,decide_eq_true_eq,Dk]
 constructor
 · rintro ⟨n,h1,h2,h3,h4⟩; exact ⟨h2 ▸ h4,n,h1,h2,h3⟩
 · rintro ⟨h1,n,h2,h3,h4⟩; exact ⟨n,h2,h3,h4,h3.symm ▸ h1⟩
theorem act_kid {N:List Nd} {r:Int→Nat} (h:Tr N r) {l:List Int} {at_:Int} (ha:actQ N l N at_=true) (hk:askB N l at_=false):∃ m∈N,m.aa=at_∧actQ N l N m.ID=true:=by
 obtain ⟨n,hn,h1⟩:=Bz.1 ha
 rw [Az,BJ,decide_eq_true_eq,decide_eq_true_eq] at h1
 obtain ⟨h1,h2⟩:=h1
 rcases h2 with h2 | h2
 · exfalso
   have:askB N l at_=true:=Bz.2 ⟨n,hn,by rw [h1,Ai h2]; rfl⟩
   rw [hk] at this; cases this
 · have key : ∀ (j:Nat) (z:Nd),z∈N→r z.ID≤j→at_∈iF N N.length z.ID→∃ m∈N,m.aa=at_∧(m.ID=z.ID∨m.ID∈iF N N.length z.ID):=by
    intro j
    induction j with
    | zero =>
      intro z hz hj hat
      rw [aAY h hz] at hat
      by_cases h0:z.aa=0
      · rw [Ay h0] at hat; cases hat
      · have:=h.rk z hz h0; omega
    | succ j ih =>
      intro z hz hj hat
      rw [aAY h hz] at hat ⊢
      by_cases h0:z.aa=0
      · rw [Ay h0] at hat; cases hat
      · rw [Aq h0] at hat ⊢
        rcases Ax.1 hat with e | hat
        · exact ⟨z,hz,e.symm,.inl rfl⟩
        · rcases h.pa z hz with e | ⟨p,hp,e⟩
          · exact AI e h0
          · have hr:=h.rk z hz h0
            rw [←e] at hat hr ⊢
            obtain ⟨m,hm1,hm2,hm3⟩:=ih p hp (by omega) hat
            exact ⟨m,hm1,hm2,.inr (by rcases hm3 with e2 | e2 <;> simp [e2])⟩
   obtain ⟨m,hm1,hm2,hm3⟩:=key (r n.ID) n hn (AO _) h2
   refine ⟨m,hm1,hm2,Bz.2 ⟨n,hn,?_⟩⟩
   rw [h1,CF,BJ,decide_eq_true_eq,decide_eq_true_eq]
   rcases hm3 with e | e
   · exact .inl e.symm
   · exact .inr e
theorem aGn {N:List Nd} {r:Int→Nat} (h:Tr N r) {l:List Int} (ha:∃ n∈N,askN l n=true):∃ m∈N,m.aa=0∧actQ N l N m.ID=true:=by
 obtain ⟨n,hn,hk⟩:=ha
 have key:∀ (j:Nat) (z:Nd),z∈N→r z.ID≤j→∃ m∈N,m.aa=0∧(m.ID=z.ID∨m.ID∈iF N N.length z.ID):=by
  intro j
  induction j with
  | zero =>
    intro z hz hj
    by_cases h0:z.aa=0
    · exact ⟨z,hz,h0,.inl rfl⟩
    · have:=h.rk z hz h0; omega
  | succ j ih =>
    intro z hz hj
    by_cases h0:z.aa=0
    · exact ⟨z,hz,h0,.inl rfl⟩
    · rcases h.pa z hz with e | ⟨p,hp,e⟩
      · exact AI e h0
      · have hr:=h.rk z hz h0
        rw [aAY h hz,Aq h0]
        rw [←e] at hr ⊢
        obtain ⟨m,hm1,hm2,hm3⟩:=ih p hp (by omega)
        exact ⟨m,hm1,hm2,.inr (by rcases hm3 with e2 | e2 <;> simp [e2])⟩
 obtain ⟨m,hm1,hm2,hm3⟩:=key (r n.ID) n hn (AO _)
 refine ⟨m,hm1,hm2,Bz.2 ⟨n,hn,?_⟩⟩
 rw [hk,CF,BJ,decide_eq_true_eq,decide_eq_true_eq]
 rcases hm3 with e | e
 · exact .inl e.symm
 · exact .inr e
structure AtI (N:List Nd) (l:List Int) (at_:Int):Prop where
 nd:at_≠0→∃ n∈N,n.ID=at_
 ac:∃ m∈N,m.aa=at_∧actQ N l N m.ID=true
 nk:at_≠0→askI N l at_=false∧(iF N N.length at_).any (askI N l)=false
def muR (N:List Nd) (r:Int→Nat) (at_:Int):Nat:=if at_=0 then N.length+1 else (N.countP fun n=>decide (r at_<r n.ID))+1
theorem muR_le (N:List Nd) (r:Int→Nat) (at_:Int):muR N r at_≤N.length+1:=by
 unfold muR; split
 · omega
 · have:=Dj (p:=fun n=>decide (r at_<r n.ID)) (l:=N); omega
theorem muR_lt {N:List Nd} {r:Int→Nat} (h:Tr N r) {m:Nd} (hm:m∈N):muR N r m.ID<muR N r m.aa:=by
 have h0:m.ID≠0:=by have:=h.id m hm; omega
 unfold muR
 rw [Aq h0]
 have hlt:∀ (p:Nd→Bool),p m=false→N.countP p<N.length:=fun p hp=>by
  have:∀ (L:List Nd),m∈L→L.countP p<L.length:=by
   intro L
   induction L with
   | nil=>intro hL; cases hL
   | cons x L ih =>
     intro hL
     rw [Dw,AZ]
     have hle:=Dj (p:=p) (l:=L)
     rcases Ax.1 hL with e | hL
     · rw [←e,hp]; simp; omega
     · have:=ih hL; split <;> omega
  exact this N hm
 by_cases hp:m.aa=0
 · rw [Ay hp]
   have:=hlt (fun n=>decide (r m.ID<r n.ID)) (by simp)
   omega
 · rw [Aq hp]
   have hr:=h.rk m hm hp
   have : ∀ (L:List Nd),m∈L→L.countP (fun n=>decide (r m.ID<r n.ID))<L.countP (fun n=>decide (r m.aa<r n.ID)):=by
    intro L
    have hmono:∀ (L:List Nd),L.countP (fun n=>decide (r m.ID<r n.ID))≤L.countP (fun n=>decide (r m.aa<r n.ID)):=fun L=>List.countP_mono_left fun n _ hn=>by
     rw [decide_eq_true_eq] at hn ⊢; omega
    induction L with
    | nil=>intro hL; cases hL
    | cons x L ih =>
      intro hL
      rw [Dw,Dw]
      have hle:=hmono L
      rcases Ax.1 hL with e | hL
      · rw [←e,Aq (by simp),Ay (Ai hr)]; omega
      · have:=ih hL
        by_cases hx:r m.ID<r x.ID
        · rw [Ay (Ai hx),Ay (Ai (by omega))]; omega
        · rw [Aq (by simpa using hx)]; split <;> omega
   have:=this N hm
   omega
theorem aEU {A:AS} {ns:List Nk} {first:Int} {cl:List Int} {R K:Int} {N:List Nd} {E:List Int} (h:TS A ns first cl R K N E) {r:Int→Nat} (hT:Tr N r) (room keep:Int) {l:List Int} {v33:List (Int×aX)} {v34 v35:List (Int×Bool)} (hI:aD3 N l N v33 v34 v35) :
 ∀ (k f:Nat) (out:List Gr) (at_:Int),nK out→PIn N out→AtI N l at_→muR N r at_≤k→muR N r at_≤f →
 ∃ out' id,fG room keep A.Cells A.Free A.Used ns first cl v33 v34 v35 f out at_=some (out',id)∧aF4 N l k out at_=some (out',id)∧nK out'∧PIn N out'∧hasN N id∧pO N l id=true
 | 0,f,out,at_,_,_,_,hk,_=>by exfalso; unfold muR at hk; split at hk <;> omega
 | k+1,0,out,at_,_,_,_,_,hf=>by exfalso; unfold muR at hf; split at hf <;> omega
 | k + 1,f+1,out,at_,hg,hp,ha,hk,hf=>by
   have hln:N.length≤24:=h.fv.ln
   have hat:hasN N at_∨at_=0:=by
    by_cases h0:at_=0
    · exact .inr h0
    · exact .inl (ha.nd h0)
   have hr:0≤at_∧at_≤1048576:=by
    rcases hat with ⟨m,hm,e⟩ | e
    · have:=(h.fv.ra m hm).1; omega
    · omega
   obtain ⟨hm1,hm2⟩:=aFC h.fv l at_
   have hne:grpM N l at_≠[]:=by
    obtain ⟨m,h1,h2,h3⟩:=ha.ac
    intro h0
    have:mkM m∈grpM N l at_:=Am.2 ⟨m,Bj.2 ⟨h1,by rw [Ai h2,h3]; rfl⟩,rfl⟩
    rw [h0] at this; cases this
   obtain ⟨s1,x,hx,s2⟩:=aFu hln hg hp hat hr hm1 hm2 hne v34 (fG room keep A.Cells A.Free A.Used ns first cl v33 v34 v35 f)
   obtain ⟨g1,g2,_⟩:=aBK hln hg hp hat hr hm1 hm2
   obtain ⟨m,hmN,rfl⟩:=Am.1 hx
   obtain ⟨hmN,hmP⟩:=Bj.1 hmN
   rw [Az,decide_eq_true_eq] at hmP
   have hid:topM (grpG (qA out ⟨at_,grpM N l at_⟩) at_)=m.ID:=s2
   rw [aGX h room keep hI out hat,s1]
   show ∃ out' id,_∧(bif N.any (fun n=>decide (n.ID=topM (grpG (qA out ⟨at_,grpM N l at_⟩) at_))&&askN l n) then some (qA out ⟨at_,grpM N l at_⟩,topM (grpG (qA out ⟨at_,grpM N l at_⟩) at_)) else aF4 N l k (qA out ⟨at_,grpM N l at_⟩) (topM (grpG (qA out ⟨at_,grpM N l at_⟩) at_)))=_∧_
   rw [hid,hI.ct m.ID,show (N.any fun n=>decide (n.ID=m.ID)&&askN l n)=askI N l m.ID from aFf N l m.ID]
   have hpath:(iF N N.length m.ID).any (askI N l)=false:=by
    rw [aAY hT hmN,hmP.1]
    by_cases h0:at_=0
    · rw [Ay h0]; rfl
    · obtain ⟨n1,n2⟩:=ha.nk h0
      rw [Aq h0,List.any_cons,n1,n2]; rfl
   cases hq:askI N l m.ID with
   | true =>
     rw [cK]
     refine ⟨_,_,rfl,by rw [cK],g1,g2,⟨m,hmN,rfl⟩,?_⟩
     unfold pO; rw [hq,hpath]; rfl
   | false =>
     rw [bT,bT]
     have hmu:=muR_lt hT hmN
     rw [hmP.1] at hmu
     exact aEU h hT room keep hI k f _ m.ID g1 g2 ⟨fun _=>⟨m,hmN,rfl⟩,act_kid hT hmP.2 (by rw [aFf]; exact hq),fun _=>⟨hq,hpath⟩⟩ (by omega) (by omega)
def aBO (N:List Nd) (l:List Gr):List Gr:=l.filter fun g=>!(!decide (g.aa=0) && !(N.any fun n=>decide (n.ID=g.aa)))
def PickS (N:List Nd) (l:List Int) (st:List Gr):Af (List Gr×Int) :=
 bif !decide (uL st=0) || !(N.any (askN l)) then some (st,0) else aF4 N l 25 (aBO N st) 0
theorem aEl {N:List Nd} {st:List Gr} (h:nK st):nK (aBO N st)∧PIn N (aBO N st):=by
 have hm:∀ g∈aBO N st,g∈st:=fun g hg=>(Bj.1 hg).1
 refine ⟨⟨?_,fun g hg=>h.ml g (hm g hg),fun g hg=>h.pa g (hm g hg),fun g hg=>h.mr g (hm g hg),fun g hg=>h.mo g (hm g hg),h.so.filter _⟩,fun g hg=>?_⟩
 · have:=Cn (fun g=>!(!decide (g.aa=0) && !(N.any fun n=>decide (n.ID=g.aa)))) st
   have:=h.ln
   unfold aBO; omega
 · have:=(Bj.1 hg).2
   simp only [Bool.not_and,Bool.not_not,BJ,decide_eq_true_eq,Bz] at this
   rcases this with e | ⟨n,hn,e⟩
   · exact .inr e
   · exact .inl ⟨n,hn,e⟩
theorem Pick_ts {A:AS} {ns:List Nk} {first:Int} {cl:List Int} {R K:Int} {N:List Nd} {E:List Int} (h:TS A ns first cl R K N E) (room keep:Int) {l:List Int} (hl:l.length≤1000) {st:List Gr} (hst:fitG st) :
 ∃ out id,mI st l room keep A.Cells A.Free A.Used ns first cl=some (out,id)∧PickS N l st=some (out,id) ∧
   ((nK st∧(∃ n∈N,askN l n=true)∧nK out∧PIn N out∧hasN N id∧pO N l id=true)∨(out=st∧id=0∧(¬nK st∨∀ n∈N,askN l n=false))):=by
 obtain ⟨w33,w34,w35,hI,hL⟩:=aB1 h room keep hl st st N [] fuel [] [] [] rfl (eZ (by have:N.length≤24:=h.fv.ln; omega)) (lookI0 N l)
 rw [show ((([]:List Nd).length:Nat):Int)=0 from rfl] at hL
 obtain ⟨r,hT⟩:∃ r,Tr N r:=h.fv.tr
 unfold mI
 rw [aF8 hst,bnoS,aDH h room keep,bnoS,hL]
 unfold pickT PickS
 rw [uK hst,bnoS,bndD,bndD,bndD]
 have hc:decide ((w34.length:Int)=0) = !(N.any (askN l)):=by
  cases hq:N.any (askN l) with
  | true =>
    obtain ⟨n,hn,hk⟩:=Bz.1 hq
    refine Ah fun h0=>?_
    have:=hI.c0.1 (by omega) n hn
    rw [hk] at this; cases this
  | false =>
    refine Ai ?_
    rw [CH] at hq
    have:=hI.c0.2 fun n hn=>by simpa using hq n hn
    omega
 rw [hc]
 by_cases hg:uL st=0
 · have hgood:=pY.1 hg
   cases hq:N.any (askN l) with
   | false =>
     rw [Ai hg]
     refine ⟨st,0,rfl,rfl,.inr ⟨rfl,rfl,.inr fun n hn=>?_⟩⟩
     rw [CH] at hq
     simpa using hq n hn
   | true =>
     rw [Ai hg]
     simp only [AN,CD,bT]
     rw [del20 (by have:=hst.1; omega),bnoS]
     have hex:∃ n∈N,askN l n=true:=Bz.1 hq
     have hk:(st.filter fun g=>!(!decide (g.aa=0) && !(mget w33 g.aa).isSome))=aBO N st:=by
      unfold aBO
      congr 1
      funext g
      congr 3
      cases hm:(N.any fun n=>decide (n.ID=g.aa)) with
      | true =>
        obtain ⟨n,hn,e⟩:=Bz.1 hm
        rw [decide_eq_true_eq] at e
        rw [←e,hI.nd n hn]; rfl
      | false =>
        rw [CH] at hm
        rw [hI.no g.aa fun n hn=>by simpa using hm n hn]; rfl
     rw [hk]
     obtain ⟨k1,k2⟩:=aEl (N:=N) hgood
     have hln:N.length≤24:=h.fv.ln
     have hmu:=muR_le N r 0
     obtain ⟨out,id,p1,p2,p3,p4,p5,p6⟩:=aEU h hT room keep hI 25 fuel (aBO N st) 0 k1 k2 ⟨fun h0=>AI rfl h0,aGn hT hex,fun h0=>AI rfl h0⟩ (by omega) (Nat.le_of_lt (eZ (by omega)))
     exact ⟨out,id,p1,p2,.inl ⟨hgood,hex,p3,p4,p5,p6⟩⟩
 · rw [Ah hg]
   exact ⟨st,0,rfl,rfl,.inr ⟨rfl,rfl,.inl fun hgood=>hg (pY.2 hgood)⟩⟩
end Go.Fn
open Go Go.IL
namespace Go.Fn
theorem aGV {l:List Mb} (hl:l.length≤1000) (id:Int):(bF l id=some (-1)∧∀ y∈l,y.ID≠id)∨∃ a x t,l=a++x::t∧(∀ y∈a,y.ID≠id)∧x.ID=id∧bF l id=some (a.length:Int):=by
 unfold bF
 rcases wP (L:=bL l id) (q:=fun y=>decide (y.ID=id)) (l:=l) (fun p x r f h=>by
  rw [bL]; simp only [mD,bndD,pG h,cK,kM h,bnoS,w_at h (show l.length≤1000000 by omega)]) (fun f=>by
  rw [bL]; simp only [bndD,rT,bT]) l [] fuel rfl (eZ (by omega)) (fun _ h=>(Bw h).elim) with ⟨h1,h2⟩ | ⟨a,x,t,h1,h2,h3,h4⟩
 · exact .inl ⟨h1,fun y hy=>of_decide_eq_false (h2 y hy)⟩
 · exact .inr ⟨a,x,t,h1,fun y hy=>of_decide_eq_false (h2 y hy),of_decide_eq_true h3,h4⟩
def addM (l:List Mb) (id b:Int):List Mb:=l.map fun m=>if m.ID=id then ⟨m.ID,m.ae,m.ah+b⟩ else m
def aBz (l:List Mb) (id b:Int):List Mb:=match l.find? fun m=>decide (m.ID=id) with | none=>l | some m=>addM (if 1099511627776-b<m.ah then lX l else l) id b
theorem mb_uniq {l:List Mb} (h:l.Pairwise (fun a b=>a.ID<b.ID)) {x y:Mb} (hx:x∈l) (hy:y∈l) (e:x.ID=y.ID):x=y:=by
 induction l with
 | nil=>cases hx
 | cons z l ih =>
   obtain ⟨h1,h2⟩:=AU.1 h
   rcases Ax.1 hx with e1 | k1 <;> rcases Ax.1 hy with e2 | k2
   · rw [e1,e2]
   · have:=h1 y k2; rw [←e1] at this; omega
   · have:=h1 x k1; rw [←e2] at this; omega
   · exact ih h2 k1 k2
theorem uB {α:Type} {f:α→α} {l:List α} (h:∀ y∈l,f y=y):l.map f=l:=by
 induction l with
 | nil=>rfl
 | cons x l ih=>rw [Aj,h x (by simp),ih fun y hy=>h y (by simp [hy])]
theorem aD1 {a t:List Mb} {x:Mb} (ha:∀ y∈a,y.ID≠x.ID) (ht:∀ y∈t,y.ID≠x.ID) (b:Int):addM (a++x::t) x.ID b=a++⟨x.ID,x.ae,x.ah+b⟩::t:=by
 unfold addM
 rw [Ch,Aj,Ay rfl,uB (fun y hy=>Aq (ha y hy)),uB (fun y hy=>Aq (ht y hy))]
theorem aCO (a t:List Mb) (x:Mb):lX (a++x::t)=lX a++⟨x.ID,x.ae,0⟩::lX t:=by unfold lX; rw [Ch,Aj]
theorem aDC {a:List Mb} {id:Int} (h:∀ y∈a,y.ID≠id):∀ y∈lX a,y.ID≠id:=fun y hy=>by
 obtain ⟨z,hz,rfl⟩:=Am.1 hy
 exact h z hz
theorem aCn {a t:List Mb} {x:Mb} {b:Int} (ha:∀ y∈a,y.ID≠x.ID) (ht:∀ y∈t,y.ID≠x.ID) (h1:0≤x.ah+b) (h2:x.ah+b≤1099511627776) {k:Nat} (hk:k=a.length):fK (a++x::t) (k:Int) b=some (addM (a++x::t) x.ID b):=by
 subst hk
 unfold fK
 rw [kM rfl,bnoS,bndD,w64 (by omega) (by omega),aD1 ha ht,aAN]
theorem aGE {l:List Mb} (h:vJ l) (p id:Int) {b:Int} (hb:0≤b∧b≤1048576):gX ⟨p,l⟩ id b=some (aBz l id b):=by
 have hln:=h.ln
 unfold gX aBz
 show bno (bF l id) _=_
 rcases aGV (l:=l) (by omega) id with ⟨h1,h2⟩ | ⟨a,x,t,h1,h2,h3,h4⟩
 · rw [h1,bnoS,bndD,show decide ((-1:Int)<0)=true from rfl,cK,CM.2 (fun y hy=>by simp [h2 y hy])]
 · have hx:x∈l:=by rw [h1]; simp
   have hok:=h.ok x hx
   have hso:=h.so
   rw [h1,BD] at hso
   have ht:∀ y∈t,y.ID≠x.ID:=fun y hy=>by have:=(AU.1 hso.2.1).1 y hy; omega
   have ha:∀ y∈a,y.ID≠x.ID:=by rw [h3]; exact h2
   have hf:l.find? (fun m=>decide (m.ID=id))=some x:=by
    rw [h1,DQ,CM.2 (fun y hy=>by simpa using h2 y hy)]; simp [h3]
   rw [h4,bnoS,bndD,Ah (by omega),bT,hf]
   show bno (gix l (a.length:Int)) _=some (addM (if 1099511627776-b<x.ah then lX l else l) id b)
   obtain ⟨_,_,hs1,hs2⟩:=hok
   rw [kM h1,bnoS,bndD,bndD,w64 (by omega) (by omega),←h3]
   by_cases hc:1099511627776-b<x.ah
   · rw [Ai hc,cK,aFd (by show l.length≤_; omega),bnoS,Ay hc]
     show fK (lX l) _ b=_
     rw [h1,aCO]
     exact aCn (x:=⟨x.ID,x.ae,0⟩) (aDC ha) (aDC ht) (by show 0≤0+b; omega) (by show 0+b≤_; omega) (by simp [lX])
   · rw [Ah hc,bT,Aq hc]
     show fK l _ b=_
     rw [h1]
     exact aCn ha ht (by omega) (by omega) rfl
theorem aBi {l:List Mb} (h:vJ l) {id b:Int} (hb:0≤b) (hs:∀ m∈l,m.ID=id→m.ah+b≤1099511627776):vJ (addM l id b):=by
 refine ⟨by unfold addM; rw [AA]; exact h.ln,fun y hy=>?_,?_⟩
 · obtain ⟨m,hm,rfl⟩:=Am.1 hy
   obtain ⟨o1,o2,o3⟩:=h.ok m hm
   by_cases e:m.ID=id
   · simp only [Ay e]; exact ⟨o1,o2,(by show 0≤m.ah+b; omega),hs m hm e⟩
   · simp only [Aq e]; exact ⟨o1,o2,o3⟩
 · unfold addM
   rw [Bm]
   refine h.so.imp fun {x y} hxy=>?_
   split <;> split <;> exact hxy
theorem aDz {l:List Mb} (h:vJ l):vJ (lX l):=by
 refine ⟨by unfold lX; rw [AA]; exact h.ln,fun y hy=>?_,?_⟩
 · obtain ⟨m,hm,rfl⟩:=Am.1 hy
   obtain ⟨o1,o2,o3⟩:=h.ok m hm
   exact ⟨o1,o2,(by show (0:Int)≤0; omega),(by show (0:Int)≤_; omega)⟩
 · unfold lX
   rw [Bm]
   exact h.so
theorem aDY {l:List Mb} (h:vJ l) (id:Int) {b:Int} (hb:0≤b∧b≤1048576):vJ (aBz l id b):=by
 unfold aBz
 cases hf:l.find? (fun m=>decide (m.ID=id)) with
 | none=>exact h
 | some x =>
   have hx:=Ds hf
   have hi:x.ID=id:=by have:=ES hf; simpa using this
   show vJ (addM (if 1099511627776-b<x.ah then lX l else l) id b)
   by_cases hc:1099511627776-b<x.ah
   · rw [Ay hc]
     refine aBi (aDz h) hb.1 fun m hm _=>?_
     obtain ⟨z,_,rfl⟩:=Am.1 hm
     show 0+b≤_; omega
   · rw [Aq hc]
     refine aBi h hb.1 fun m hm e=>?_
     have:=mb_uniq h.so hm hx (by rw [e,hi])
     rw [this]; omega
theorem nK.mem {l:List Gr} (h:nK l) {g:Gr} (hg:g∈l):vJ g.ab:=⟨h.ml g hg,h.mr g hg,h.mo g hg⟩
def yY (l:List Gr) (p id b:Int):List Gr:=l.map fun g=>if g.aa=p then ⟨g.aa,aBz g.ab id b⟩ else g
theorem zQ {l:List Gr} (h:nK l) (p id:Int) {b:Int} (hb:0≤b∧b≤1048576):nK (yY l p id b):=by
 have key:∀ g∈yY l p id b,∃ z∈l,g.aa=z.aa∧vJ g.ab:=fun g hg=>by
  obtain ⟨z,hz,rfl⟩:=Am.1 hg
  refine ⟨z,hz,?_⟩
  by_cases e:z.aa=p
  · simp only [Ay e]; exact ⟨trivial,aDY (h.mem hz) id hb⟩
  · simp only [Aq e]; exact ⟨trivial,h.mem hz⟩
 refine ⟨by unfold yY; rw [AA]; exact h.ln,fun g hg=>?_,fun g hg=>?_,fun g hg=>?_,fun g hg=>?_,?_⟩
 · obtain ⟨z,hz,e,k⟩:=key g hg; exact k.ln
 · obtain ⟨z,hz,e,k⟩:=key g hg; rw [e]; exact h.pa z hz
 · obtain ⟨z,hz,e,k⟩:=key g hg; exact k.ok
 · obtain ⟨z,hz,e,k⟩:=key g hg; exact k.so
 · unfold yY
   rw [Bm]
   refine h.so.imp fun {x y} hxy=>?_
   split <;> split <;> exact hxy
def yP (b:Int):List Gr→Int→List Int→List Gr
 | st,_,[]=>st
 | st,id,p::r=>yP b (yY st p id b) p r
theorem vW {b:Int} (hb:0≤b∧b≤1048576):∀ (r:List Int) (st:List Gr) (id:Int),nK st→nK (yP b st id r)
 | [],_,_,h=>h
 | p::r,st,id,h=>vW hb r _ p (zQ h p id hb)
theorem aDB {b:Int} (hb:0≤b∧b≤1048576) {P:List Int} (hP:P.length≤1000000) (hpr:∀ p∈P,0≤p∧p≤1048576) :
 ∀ (r q:List Int) (f:Nat) (gs:List Gr) (id:Int),P=q++r→r.length<f→nK gs→fH P b f gs (q.length:Int) id=some (yP b gs id r)
 | _,_,0,_,_,_,hf,_=>AI hf (by omega)
 | [],q,f+1,gs,id,h,hf,hg=>by rw [fH,bndD,rU h,bT]; rfl
 | x :: r,q,f+1,gs,id,h,hf,hg=>by
   have hm:=zQ hg x id hb
   have hrec:=aDB hb hP hpr r (q++[x]) f (yY gs x id b) x (kV h) (by simp at hf ⊢; omega) hm
   rw [fH,bndD,pG h,cK,kM h,bnoS,aAu h,bnoS]
   obtain ⟨a,c,h1,h2,h3,h4⟩:=aFN hg (hpr x (by rw [h]; simp))
   rcases h4 with ⟨y,c',e1,e2,e3⟩ | ⟨e1,e3⟩
   · have hl:gs=a++y::c':=by rw [h1,e1]
     have hy:y∈gs:=by rw [hl]; simp
     have hs:gs.set ((a.length:Nat):Int).toNat (⟨y.aa,aBz y.ab id b⟩:aG)=yY gs x id b:=by
      have hso:=hg.so
      rw [hl,BD] at hso
      rw [hl,aAN]
      unfold yY
      rw [Ch,Aj,Ay e2,uB (fun z hz=>Aq (by have:=hso.2.2 z hz y (by simp); omega)),uB (fun z hz=>Aq (by have:=(AU.1 hso.2.1).1 z hz; omega))]
     rw [e3,bnoS]
     show bno (gix gs (a.length:Int)) _=_
     rw [kM hl,bnoS,show y=⟨y.aa,y.ab⟩ from rfl,aGE (hg.mem hy) _ _ hb,bnoS,bndD,bndD,w_at h hP]
     show fH P b f (gs.set ((a.length:Nat):Int).toNat (⟨y.aa,aBz y.ab id b⟩:aG)) _ x=_
     rw [hs,hrec]; rfl
   · rw [e3,bnoS]
     show (bnd (Al .i64 ((q.length:Int)+1)) fun x37=>fH P b f gs x37 x)=_
     rw [bndD,w_at h hP]
     have hs:yY gs x id b=gs:=uB fun z hz=>Aq (e1 z hz)
     show _=some (yP b (yY gs x id b) x r)
     rw [←hrec,hs]
def vK (N:List Nd) (st:List Gr) (id b:Int):List Gr :=
 bif decide (uL st=0)&&inB b 0 1048576&&N.any (fun n=>decide (n.ID=id)) then yP b st id (iF N N.length id++[0]) else st
theorem aCh (a1 a2:Int) (a3:List AC) (a4 a5:Int) (a6:List Nk) (a7:Int) (a8:List Int):∀ (f:Nat) (v:List Int) (w:Int),fO a1 a2 a3 a4 a5 a6 a7 a8 f v w=eQ a1 a2 a3 a4 a5 a6 a7 a8 f v w
 | 0,_,_=>rfl
 | f+1,v,w=>by
   rw [fO,eQ]
   simp only [aCh a1 a2 a3 a4 a5 a6 a7 a8 f]
theorem aD2 {A:AS} {ns:List Nk} {first:Int} {cl:List Int} {R K:Int} {N:List Nd} {E:List Int} (h:TS A ns first cl R K N E) (id:Int) (room keep:Int):jO id room keep A.Cells A.Free A.Used ns first cl=some (if hasN N id then iF N N.length id else []):=by
 rw [←aFl h id room keep]
 unfold jO jY
 simp only [aCh]
theorem aCK {N:List Nd} (hN:N.length≤1000000) (id:Int):cU N id=some (N.any fun n=>decide (n.ID=id)):=by
 unfold cU dX
 exact oV (P:=fun n=>oH n id) (q:=fun n=>decide (n.ID=id)) (fun g=>rfl) (I:=cH N id) (fun f v=>rfl) hN
theorem any_has (N:List Nd) (id:Int):N.any (fun n=>decide (n.ID=id))=true↔hasN N id:=by
 rw [Bz]
 exact ⟨fun ⟨n,h1,h2⟩=>⟨n,h1,of_decide_eq_true h2⟩,fun ⟨n,h1,h2⟩=>⟨n,h1,Ai h2⟩⟩
theorem aBk {N:List Nd} {st:List Gr} (h:nK st) (id b:Int):nK (vK N st id b):=by
 unfold vK
 cases hc:(decide (uL st=0)&&inB b 0 1048576&&N.any (fun n=>decide (n.ID=id))) with
 | false=>exact h
 | true =>
   rw [Az,Az] at hc
   exact vW (vD.1 hc.1.2) _ _ _ h
theorem aFn {A:AS} {ns:List Nk} {first:Int} {cl:List Int} {R K:Int} {N:List Nd} {E:List Int} (h:TS A ns first cl R K N E) (room keep:Int) {st:List Gr} (hst:fitG st) (id b:Int):mA st id b room keep A.Cells A.Free A.Used ns first cl=some (vK N st id b):=by
 have hln:N.length≤24:=h.fv.ln
 unfold mA vK
 rw [aG0 hst,bnoS,uK hst,bnoS,bndD]
 by_cases hg:uL st=0
 · have hgood:=pY.1 hg
   rw [Ai hg,show ((!true) == false)=true from rfl,gdtt,sV,bnoS,bndD]
   cases hb:inB b 0 1048576 with
   | false=>rfl
   | true =>
     have hbr:=vD.1 hb
     simp only [AN,CD,bT,CF]
     rw [aD2 h,bnoS,aDH h,bnoS,aCK (by omega),bnoS]
     cases ha:N.any (fun n=>decide (n.ID=id)) with
     | false=>rfl
     | true =>
       have hh:=(any_has N id).1 ha
       obtain ⟨rk,htr⟩:∃ rk,Tr N rk:=h.fv.tr
       obtain ⟨p1,p2⟩:=pJ htr.so htr.rk htr.pa N.length id hh
       have p3:=pF p1 p2
       rw [AZ,AA] at p3
       rw [Ay hh,cK]
       simp only [AN,bT]
       rw [nW (by simp; omega) (by simp; omega),bnoS]
       exact aDB hbr (by simp; omega) (fun p hp=>by
        rcases AM.1 hp with hp | hp
        · obtain ⟨m,hm,e⟩:=Am.1 (p2 p (Br _ hp))
          have:=(h.fv.ra m hm).1; omega
        · rw [Bx.1 hp]; omega) (iF N N.length id++[0]) [] fuel st id rfl (eZ (by simp; omega)) hgood
 · rw [Ah hg]
   show bno (gd false _ default) _=_
   rw [gdff,bnoS]; rfl
def NextS (N:List Nd) (l:List Int) (b:Int) (st:List Gr):Af (List Gr×Int) :=
 bno (PickS N l st) fun x=>bif decide (x.2=0) then some (x.1,0) else some (vK N x.1 x.2 b,x.2)
theorem Next_ts {A:AS} {ns:List Nk} {first:Int} {cl:List Int} {R K:Int} {N:List Nd} {E:List Int} (h:TS A ns first cl R K N E) (room keep:Int) {l:List Int} (hl:l.length≤1000) {st:List Gr} (hst:fitG st) (b:Int) :
 ∃ out id,nH st l b room keep A.Cells A.Free A.Used ns first cl=some (out,id)∧NextS N l b st=some (out,id) ∧
   ((nK st∧(∃ n∈N,askN l n=true)∧nK out∧hasN N id∧id≠0∧pO N l id=true)∨(out=st∧id=0∧(¬nK st∨∀ n∈N,askN l n=false))):=by
 obtain ⟨out,id,h1,h2,h3⟩:=Pick_ts h room keep hl hst
 unfold nH NextS
 rw [h1,bnoS,bndD,h2,bnoS]
 rcases h3 with ⟨k1,k2,k3,k4,k5,k6⟩ | ⟨k1,k2,k3⟩
 · have h0:id≠0:=by
    obtain ⟨m,hm,e⟩:=k5
    have:=(h.fv.ra m hm).1; omega
   rw [Ah h0]
   refine ⟨vK N out id b,id,?_,rfl,.inl ⟨k1,k2,aBk k3 id b,k5,h0,k6⟩⟩
   show bno (mA out id b room keep A.Cells A.Free A.Used ns first cl) _=_
   rw [aFn h room keep k3.fit,bnoS]
 · rw [k1,k2]
   exact ⟨st,0,rfl,rfl,.inr ⟨rfl,rfl,k3⟩⟩
end Go.Fn
open List renaming length_eq_zero_iff → Bf
open Go Go.IL
namespace Go.Fn
theorem aG6 {l:List Int} (hl:l.length≤1000000) (n:Int):∀ (r p:List Int) (f:Nat),l=p++r→r.length<f→iA l n f (p.length:Int)=some (decide (n∈r))
 | _,_,0,_,hf=>AI hf (by omega)
 | [],p,f+1,h,hf=>by rw [iA,bndD,rU h,bT]; rfl
 | x :: r,p,f+1,h,hf=>by
   rw [iA,bndD,pG h,cK,kM h,bnoS,bndD,bndD,w_at h hl,aG6 hl n r (p++[x]) f (kV h) (by simp at hf ⊢; omega)]
   by_cases e:x=n
   · rw [Ai e,cK,Ai (by rw [e]; simp)]
   · rw [Ah e,bT]
     congr 1
     rw [decide_eq_decide]
     simp [Ne.symm e]
theorem in20 {l:List Int} (hl:l.length≤1000000) (n:Int):mB l n=some (decide (n∈l)):=aG6 hl n l [] fuel rfl (eZ (by omega))
theorem aFG:nK []:=⟨by simp,fun _ h=>(by cases h),fun _ h=>(by cases h),fun _ h=>(by cases h),fun _ h=>(by cases h),List.Pairwise.nil⟩
theorem aAU {A:AS} {ns:List Nk} {first:Int} {cl:List Int} {R K:Int} {N:List Nd} {E:List Int} (h:TS A ns first cl R K N E) (room keep:Int) {l w:List Int} (hl:l.length≤30) (hw:w.length≤24) (hin:∀ i,i∈w↔hasN N i∧pO N l i=true) :
 ∀ (k i f:Nat) (st:List Gr),i+k=12→k<f→nK st→eF l room keep A.Cells A.Free A.Used ns first cl w f st (i:Int)=some true
 | _,_,0,_,_,hf,_=>AI hf (by omega)
 | 0,i,f+1,st,hi,hf,hg=>by
   rw [eF,bndD,Ah (by omega),bT,aCP]; rfl
 | k + 1,i,f+1,st,hi,hf,hg=>by
   obtain ⟨out,id,h1,h2,h3⟩:=Next_ts h room keep (l:=l) (by omega) hg.fit (1+(i:Int))
   rw [eF,bndD,Ai (by omega),cK,bndD,w64 (by omega) (by omega),h1,bnoS,bndD,bndD,bndD,bndD,w64 (by omega) (by omega)]
   rcases h3 with ⟨k1,k2,k3,k4,k5,k6⟩ | ⟨k1,k2,k3⟩
   · have hm:id∈w:=(hin id).2 ⟨k4,k6⟩
     have hw0:w.length≠0:=fun e=>by rw [Bf.1 e] at hm; cases hm
     have hrec:=aAU h room keep hl hw hin k (i+1) f out (by omega) (by omega) k3
     rw [Ah k5,Ah (show ¬(w.length:Int)=0 by omega)]
     show bno (gd true (mB w id) default) _=_
     rw [gdtt,in20 (by omega),bnoS,bndD,bndD,Ai hm]
     show bno (gd true (jL out) default) _=_
     rw [gdtt,uK k3.fit,bnoS,bndD,bndD,pY.2 k3]
     exact hrec
   · have ha:∀ n∈N,askN l n=false:=by
      rcases k3 with k3 | k3
      · exact AI hg k3
      · exact k3
     have hw0:w=[]:=by
      cases w with
      | nil=>rfl
      | cons x w =>
        exfalso
        have hx:=((hin x).1 (by simp)).2
        unfold pO at hx
        rw [Az,←aFf] at hx
        obtain ⟨n,hn,e⟩:=Bz.1 hx.1
        rw [ha n hn,Dt] at e; cases e
     have hrec:=aAU h room keep hl hw hin k (i+1) f st (by omega) (by omega) hg
     rw [k1,k2,hw0]
     rw [hw0] at hrec
     show bno (gd false (mB [] 0) default) _=_
     rw [gdff,bnoS]
     show bno (gd true (jL st) default) _=_
     rw [gdtt,uK hg.fit,bnoS,bndD,bndD,pY.2 hg]
     exact hrec
theorem aCa {l:List dL} (hg:GoodD l) (hl:l.length≤60) {some_:List Int} (hs:some_.length≤30) {R K:Int}:∀ (r q:List dL) (f:Nat) {A:AS} {ns:List Nk} {first:Int} {cl:List Int} {N:List Nd} {E:List Int},TS A ns first cl R K N E→l=q++r→r.length<f →
 eG l some_ f (q.length:Int) R K A.Cells A.Free A.Used ns first cl=some true
 | _,_,0,_,_,_,_,_,_,_,_,hf=>AI hf (by omega)
 | [],q,f+1,A,ns,first,cl,N,E,h,hN,hf=>by
   obtain ⟨w,w1,w2,w3,w4⟩:=aGo h (l:=some_) (by omega) R K
   rw [eG,bndD,rU hN,bT,w1,bnoS]
   exact aAU h R K hs w3 w4 12 0 fuel [] rfl (eZ (by omega)) aFG
 | a::r,q,f+1,A,ns,first,cl,N,E,h,hN,hf=>by
   have ha:a∈l:=by rw [hN]; simp
   obtain ⟨c,A',ns',first',cl',N',E',g1,g2⟩:=Do_ts h (hg a ha).1 (hg a ha).2
   have hrec:=aCa hg hl hs r (q++[a]) f g2 (by rw [hN]; simp) (by simpa using hf)
   rw [eG,bndD,pG hN,cK,kM hN,bnoS,g1,bnoS,w_at hN (by omega),bndD]
   exact hrec
theorem aDR {l:List dL} {some_:List Int} (hg:GoodD l):iS l some_=some true:=by
 unfold iS
 rw [bndD,bndD,bndD]
 by_cases h:40<l.length
 · rw [Ai (show 40<(l.length:Int) by omega),Bool.true_or,cK,aCP]; rfl
 · rw [Ah (show ¬40<(l.length:Int) by omega),Ec]
   by_cases h2:30<some_.length
   · rw [Ai (by omega),cK,aCP]; rfl
   · have hL:=aCa hg (by omega) (some_:=some_) (by omega) l [] fuel (new_ts (R:=24) (K:=3) (by decide) (by decide)) rfl (eZ (by omega))
     rw [Ah (by omega),bT,aE5,aE5,bnoS,Ai (by decide),show ((!true) == false)=true from rfl,gdtt,bnoS,Ai (by decide),bndD,show ((!true) || !true)=false from rfl,bT]
     exact hL
end Go.Fn
open Go renaming Program → Bc,TypeId → Av,Value → AG
open Go.IL.D renaming flat → Ad
open List renaming drop_drop → Es,drop_of_length_le → BU,drop_zero → Fb,getElem?_of_mem → Fa,mem_of_mem_drop → EW,mem_of_mem_take → Dn
open Nat renaming add_assoc → Ea,zero_add → Bi,zero_mul → CL
open Option renaming bind_eq_some_iff → EG
open Go.RowKit Go.WideShapes Go.ChangeShapes
namespace Go.IL

def wU (v:AG):Prop:=∀ a n c,v = .slice (some a) n c→a.spot=none
theorem aA5 {P:Bc} {w:World} {r:Reach} {b:Nat} {t:Av} {v:AG} (h:Cell.okWide P w r b t v):wU v:=by
 intro a n c e
 subst e
 have h2:Cell.ok P w r b t (.slice (some a) n c):=by
  unfold Cell.okWide at h
  split at h <;> first | exact h | (rename_i h3 _; cases h3) | (rename_i h3; cases h3) | skip
  all_goals first | exact h | simp_all
 unfold Cell.ok at h2
 split at h2 <;> simp_all [World.has]
theorem aFw {P:Bc} {w:World} {r:Reach} {b:Nat} {t:Av} {v:AG} (h:Value.okWide P w r b t v):∀ u∈v.cells.toList,wU u:=by
 have agg:∀ cs:Array AG,Row.okWide P w r b t cs→∀ u∈cs.toList,wU u:=by
  intro cs ⟨ts,_,_,h3⟩ u hu
  obtain ⟨i,hi⟩:=Fa hu
  obtain ⟨q,_,hq⟩:=h3 i u (by simpa using hi)
  exact aA5 hq
 unfold Value.okWide at h
 split at h
 · obtain ⟨cs,rfl,_,h⟩:=h; simpa [Value.cells] using agg cs h
 · obtain ⟨cs,rfl,_,h⟩:=h; simpa [Value.cells] using agg cs h
 · have h2:=aA5 h
   intro u hu
   cases v with
   | agg cs =>
     exfalso
     unfold Cell.okWide at h
     split at h <;> simp_all [Cell.ok]
   | _=>simp [Value.cells] at hu; subst hu; exact h2

def Env.none (w:World):Env:=⟨w,fun _ _=>False⟩
def OpD (P:Bc) (sp:Bool) (t:Av) (Q:List D→Prop):Prop :=
 ∀ {H:Type} {enc:Av×AG→H} {w:World} {base:Nat} {spare:Nat→Bool} {held:Bool} {fuel:Nat} {cs:List AG} {x:DataW H×List MemPlace},
   DataW.trod enc P w base spare held fuel t cs=some x→(sp=true→∀ v∈cs,wU v)→∃ ds,RdL (Env.none w) β0 cs ds∧Q ds
def qInt (k:IntKind) (ds:List D):Prop:=∃ n:Int,ds=[.int k n]∧(k.min≤n∧n≤k.max)
def qBool (ds:List D):Prop:=∃ b:Bool,ds=[.bool b]
def qSlice {α:Type} (f:Enc α) (wf:α→Prop) (ds:List D):Prop:=∃ l:List α,ds=[.slice false (l.map f.d)]∧l.length≤9223372036854775807∧∀ x∈l,wf x
def qList:List (List D→Prop)→List D→Prop
 | [],ds=>ds=[]
 | Q::Qs,ds=>∃ a b,ds=a++b∧Q a∧qList Qs b

section
variable {P:Bc} {sp:Bool} {t:Av}
theorem xS {k:IntKind} (hu:P.underlying t=some (.int k)):OpD P sp t (qInt k):=by
 intro H enc w base spare held fuel cs x h _
 obtain ⟨n,rfl,rfl,hw⟩:=DataW.trod_int hu h
 exact ⟨[.int k n],.cons (.int _ _ _) (.nil _),n,rfl,by simpa [Lit.wf] using hw⟩
theorem aGA (hu:P.underlying t=some .bool):OpD P sp t qBool:=by
 intro H enc w base spare held fuel cs x h _
 obtain ⟨b,rfl,rfl⟩:=DataW.trod_bool hu h
 exact ⟨[.bool b],.cons (.bool _ _) (.nil _),b,rfl⟩
theorem aBF {α:Type} {f:Enc α} {e:Av} {wf:α→Prop} (hu:P.underlying t=some (.slice e)) (hc:P.cellsOf e=f.sz) (he:OpD P false e (fun ds=>∃ a,ds=(f.d a).cells∧wf a)):OpD P sp t (qSlice f wf):=by
 intro H enc w base spare held fuel cs x h hs
 rcases DataW.trod_slice hu h with ⟨rfl,_⟩ | ⟨a,len,cap,elems,rest,n,_,rfl,rfl,hb,hl,hm,hlen,hel,_,_⟩
 · exact ⟨[.slice false []],.cons (.nslice _ _) (.nil _),[],rfl,by simp,by simp⟩
 · by_cases hl0:len=0
   · subst hl0; exact ⟨[.slice false []],.cons (.eslice _ a cap false (fun h=>by cases h)) (.nil _),[],rfl,by simp,by simp⟩
   have hsp0:a.spot=none:=by
    have h1:=hel 0 (by omega)
    have h2:elems[0]? = some (elems[0]'(by omega)):=AL _
    rw [h2,EG] at h1
    obtain ⟨vs,h3,_⟩:=h1
    have h7:=World.cells?_some h3
    have hp:=f.pos
    have h8:=h7.2.2 0 (by rw [hc]; exact hp)
    rw [CL] at h8
    have e0:((a.add 0).add 0)=a:=rfl
    rw [e0] at h8
    cases hsp:a.spot with
    | none=>rfl
    | some q =>
      exfalso
      unfold World.cell? at h8
      rw [hsp] at h8
      split at h8
      · simp at h8; have:=h7.1; simp_all
      · have:=h7.1; simp_all
   have ha:a=⟨a.block,a.off,none⟩:=by cases a; simp_all
   have each:∀ i,i<len→∃ (vs:List AG) (y:α),(∀ k v,vs[k]? = some v→w.cell? ⟨a.block,a.off+(i*f.sz+k),none⟩=some v)∧RdL (Env.none w) β0 vs (f.d y).cells∧wf y:=by
    intro i hi
    have h1:=hel i hi
    have h2:elems[i]? = some (elems[i]'(by omega)):=AL _
    rw [h2,EG] at h1
    obtain ⟨vs,h3,h4⟩:=h1
    obtain ⟨ds,h5,y,rfl,h6⟩:=he h4 (by simp)
    refine ⟨vs,y,fun k v hk=>?_,h5,h6⟩
    have h7:=World.cells?_some h3
    have hk':=(Ag.1 hk).1
    have h8:=h7.2.2 k (by omega)
    rw [hk,ha,hc] at h8
    rw [←h8]
    congr 1
    by_cases h9:i*f.sz=0
    · by_cases h10:k=0
      · simp [Addr.add,h9,h10]
      · simp [Addr.add,h9,h10]
    · by_cases h10:k=0
      · simp [Addr.add,h9,h10]
      · simp [Addr.add,h9,h10,Ea]
   have all:∀ m,m≤len→∃ (vs:List AG) (l:List α),l.length=m∧(∀ k v,vs[k]? = some v→w.cell? ⟨a.block,a.off+k,none⟩=some v)∧RdL (Env.none w) β0 vs (Ad (l.map f.d))∧∀ y∈l,wf y:=by
    intro m
    induction m with
    | zero=>intro _; exact ⟨[],[],rfl,by simp,.nil _,by simp⟩
    | succ m ih =>
      intro hm'
      obtain ⟨vs,l,h1,h2,h3,h4⟩:=ih (by omega)
      obtain ⟨us,y,h5,h6,h7⟩:=each m (by omega)
      have hvl:vs.length=m*f.sz:=by rw [h3.length,f.flat_len,h1]
      refine ⟨vs++us,l++[y],by simp [h1],fun k v hk=>?_,?_,?_⟩
      · by_cases hk':k<vs.length
        · exact h2 k v (by rwa [AK hk'] at hk)
        · rw [Bu (by omega)] at hk
          have:=h5 _ _ hk
          rwa [hvl,show m*f.sz+(k-m*f.sz)=k by omega] at this
      · rw [Ch]
        have e2:Ad (l.map f.d++[y].map f.d)=Ad (l.map f.d)++(f.d y).cells:=by simp [Ad]
        rw [e2]; exact h3.append h6
      · intro z hz
        rcases AM.1 hz with h | h
        · exact h4 z h
        · simp at h; subst h; exact h7
   obtain ⟨vs,l,h1,h2,h3,h4⟩:=all len (AO _)
   refine ⟨[.slice false (l.map f.d)],.cons ?_ (.nil _),l,rfl,by unfold maxLen at hm; omega,h4⟩
   rw [ha]
   exact .slice _ _ _ len cap f.sz false vs _ (by rw [AA,h1]) hl (by simp) (f.len l) f.pos (fun k v hk=>⟨h2 k v hk,fun h=>h⟩) h3

def wR (P:Bc):Nat→List Field→Bool
 | _,[]=>true
 | k,f::fs=>f.offset == k&&wR P (k+P.cellsOf f.type) fs
inductive OpFs (P:Bc) (sp:Bool):List Field→List (List D→Prop)→Prop
 | nil:OpFs P sp [] []
 | cons {f fs Q Qs} (h:OpD P sp f.type Q) (t:OpFs P sp fs Qs):OpFs P sp (f::fs) (Q::Qs)
theorem aDV {fs:Array Field} {Qs:List (List D→Prop)} (hu:P.underlying t=some (.struct fs)) (hf:wR P 0 fs.toList=true) (hn:P.cellsOf t=(fs.toList.map fun f=>P.cellsOf f.type).sum) (h:OpFs P sp fs.toList Qs):OpD P sp t (qList Qs):=by
 intro H enc w base spare held fuel cs x hx hs
 obtain ⟨xs,n,_,_,hlen,hxl,hfld⟩:=DataW.trod_struct hu hx
 have key:∀ (l:List Field) (Qs:List (List D→Prop)) (k:Nat),OpFs P sp l Qs→wR P k l=true→k+(l.map fun f=>P.cellsOf f.type).sum=cs.length →
  (∀ f∈l,∃ y,DataW.trod enc P w base spare held n f.type ((cs.drop f.offset).take (P.cellsOf f.type))=some y)→∃ ds,RdL (Env.none w) β0 (cs.drop k) ds∧qList Qs ds:=by
  intro l Qs k ho
  induction ho generalizing k with
  | nil =>
    intro _ h1 _
    refine ⟨[],?_,rfl⟩
    rw [BU (by simp at h1; omega)]; exact .nil _
  | @cons f fs Q Qs h t ih =>
    intro h1 h2 h3
    simp only [wR,Az,beq_iff_eq] at h1
    simp only [Aj,CN] at h2
    obtain ⟨y,hy⟩:=h3 f (by simp)
    rw [h1.1] at hy
    obtain ⟨ds,h4,h5⟩:=h hy (fun hsp v hv=>hs hsp v (EW (Dn hv)))
    obtain ⟨es,h6,h7⟩:=ih (k+P.cellsOf f.type) h1.2 (by omega) (fun g hg=>h3 g (by simp [hg]))
    refine ⟨ds++es,?_,ds,es,rfl,h5,h7⟩
    have:=h4.append h6
    rwa [←Es,AY] at this
 have:=key fs.toList Qs 0 h hf (by rw [Bi,←hn,hlen]) (fun f hf=>by
  obtain ⟨i,hi⟩:=Fa hf
  have h1:=hfld i f (by simpa using hi)
  have h2:i<xs.length:=by rw [hxl]; have:=(Ag.1 hi).1; simpa using this
  exact ⟨xs[i],by rw [h1,AL h2]⟩)
 rwa [Fb] at this
theorem OpD.to {Q R:List D→Prop} (h:OpD P sp t Q) (k:∀ ds,Q ds→R ds):OpD P sp t R:=by
 intro H enc w base spare held fuel cs x hx hs
 obtain ⟨ds,h1,h2⟩:=h hx hs
 exact ⟨ds,h1,k ds h2⟩
theorem aEX {Q:List D→Prop} (h:OpD P true t Q) {H:Type} {enc:Av×AG→H} {w:World} {base b0:Nat} {spare:Nat→Bool} {held:Bool} {v:AG} {d:DataW H} {ps:List MemPlace} {r:Reach}
 (hv:Value.okWide P w r b0 t v) (hd:DataW.Trod enc P w base spare held t v d ps):∃ ds,RdL (Env.none w) β0 v.cells.toList ds∧Q ds:=by
 obtain ⟨fuel,hf⟩:=hd
 exact h hf (fun _=>aFw hv)
theorem aEO {E:Env} {v:AG} {d:D} (h:RdL E β0 v.cells.toList [d]) (hn:∀ cs,v ≠ .agg cs):Rd E β0 v d:=by
 cases v with
 | agg cs=>exact AI rfl (hn cs)
 | _=>simp [Value.cells] at h; cases h with | cons h _=>exact h
section
variable {H:Type} {enc:Av×AG→H}
theorem tQ (hl:laidOutB P=true) {W W':World} (hb:Below W.heap.size W W') {sp:Nat→Bool}:∀ {ts:List Av} {vs:List AG} {ds:List (DataW H)} {ps:List MemPlace},
 (∀ t∈ts,P.readableRec t=true∧t<P.types.size)→DataW.TrodAll enc P W 0 (fun _=>true) true ts vs ds ps→(∀ x∈ps,x.block<W.heap.size)→(∀ x∈ps,sp x.block=true) →
 DataW.TrodAll enc P W' 0 sp true ts vs ds ps
 | [],vs,ds,ps,_,h,_,_=>by
   obtain ⟨rfl,rfl,rfl⟩:=trodAll_nil h; exact rfl
 | t::ts,vs,ds,ps,hr,h,hlt,hsp=>by
   obtain ⟨v,vs',d,ds',p,q,rfl,rfl,rfl,h1,h2⟩:=trodAll_cons h
   refine ⟨p,q,?_,tQ hl hb (fun t ht=>hr t (by simp [ht])) h2 (fun x hx=>hlt x (by simp [hx])) (fun x hx=>hsp x (by simp [hx])),rfl⟩
   have hx:∀ x∈p,x∈p++q:=fun x hx=>by simp [hx]
   exact WideElems.Trod_stays hl (hr t (by simp)).1 (hr t (by simp)).2 h1 (fun x hxp=>hb.same (hlt x (hx x hxp))) (fun x hxp=>hsp x (hx x hxp))
theorem aAW {f:Func} {s:ChangeSpec} {apart fresh handsOn again:Bool} {W W':World} {args:Array AG} {v:AG} {ds gs:List (DataW H)} {before pa pv:List MemPlace}
 (hW:DataW.Whole enc P f.params.toList s.vars apart W args.toList ds gs before)
 (hres:∀ (b:Nat) (sp:Nat→Bool) (hd:Bool),DataW.TrodAll enc P W' b sp hd f.resultTypes.toList (v.resultList f.resultTypes.size) (s.fn H (ds++gs)).results [])
 (hargs:∀ sp:Nat→Bool,(∀ p∈before,sp p.block=true)→DataW.TrodAll enc P W' 0 sp true f.params.toList args.toList (s.fn H (ds++gs)).args pa)
 (hvars:∀ sp:Nat→Bool,(∀ p∈before,sp p.block=true)→DataW.TrodVars enc P W' sp s.vars (s.fn H (ds++gs)).vars pv)
 (hps:before=pa++pv) (hb:Below W.heap.size W W')
 (hok:∀ (j:Nat) (t:Av) (r:AG),f.resultTypes[j]? = some t→(v.resultList f.resultTypes.size)[j]? = some r→Value.okWide P W' .any 0 t r) :
 s.post enc P f apart fresh handsOn again W args v W':=by
 have hlt:∀ p∈before,p.block<W.heap.size:=fun p hp=>hW.lt p hp
 have hold:∀ p∈before,(fun b=>decide (b<W.heap.size)) p.block=true:=fun p hp=>by simpa using hlt p hp
 refine ⟨ds,gs,before,[],pa,pv,hW,hres _ _ _,hargs _ hold,hvars _ hold,World.keptBut_mono (fun p hp=>⟨hp,?_⟩) (hb.frame (· ∈ before)),fun _=>?_⟩
 · rw [hps,AM] at hp
   exact Or.inr hp
 · obtain ⟨_,_,_,_,_,hz,hn⟩:=hW
   refine ⟨hok,_,_,([]++pa)++pv,⟨[]++pa,pv,trodAll_append (hargs _ (fun _ _=>rfl)) (hres _ _ _),hvars _ (fun _ _=>rfl),rfl,?_,?_⟩,?_⟩
   · intro b off hp
     have hin:MemPlace.cell b off∈before:=by rw [hps]; simpa using hp
     rw [hb.frozen (hlt _ hin)]
     exact hz b off hin
   · intro ha
     have:=hn ha
     rw [hps] at this
     simpa using this
   · intro p hp _
     rw [hps]
     simpa using hp
theorem aGJ {f:Func} {s:ChangeSpec} {apart fresh handsOn again:Bool} {W W':World} {args:Array AG} {ds gs:List (DataW H)} {before:List MemPlace} {tb:Av}
 (hl:laidOutB P=true) (hr:∀ t∈f.params.toList,P.readableRec t=true∧t<P.types.size) (hv:s.vars=[]) (hres:f.resultTypes = #[tb]) (hbool:P.underlying tb=some .bool)
 (hfn:s.fn H (ds++gs) = { results:=[.lit (.bool true)],args:=ds })
 (hW:DataW.Whole enc P f.params.toList s.vars apart W args.toList ds gs before) (hb:Below W.heap.size W W'):s.post enc P f apart fresh handsOn again W args (.bool true) W':=by
 have hW':=hW
 obtain ⟨p,q,hA,hV,hbef,hfz,hnd⟩:=hW
 rw [hv] at hV
 obtain ⟨rfl,rfl⟩:=trodVars_none hV
 have hlt:∀ x∈before,x.block<W.heap.size:=fun x hx=>hW'.lt x hx
 have hsub:∀ x∈p,x∈before:=fun x hx=>by rw [hbef]; simp [hx]
 refine aAW (pa:=p) (pv:=[]) hW' ?_ ?_ ?_ ?_ hb ?_
 · intro b sp hd
   rw [hfn,hres]
   exact trodAll_mk1 (shut_bool hbool true)
 · intro sp hsp
   rw [hfn]
   exact tQ hl hb hr hA (fun x hx=>hlt x (hsub x hx)) (fun x hx=>hsp x (hsub x hx))
 · intro sp hsp
   rw [hfn,hv]; exact rfl
 · exact hbef
 · exact ok_one hres rfl (okWide_bool_mk hbool true)
end
end
end Go.IL
namespace Go.IL
theorem zL {P:Bc} {w W:World} {r:Reach} {b:Nat} {t:Av} {v:AG} {d:D} (hv:Value.okWide P W r b t v) (hg:iU P t=false) (h:RdL (Env.none w) β0 v.cells.toList [d]):Rd (Env.none w) β0 v d:=by
 refine aEO h fun cs e=>?_
 subst e
 unfold iU at hg
 unfold Value.okWide at hv
 split at hv
 · rename_i h1; rw [h1] at hg; cases hg
 · rename_i h1; rw [h1] at hg; cases hg
 · unfold Cell.okWide at hv
   split at hv <;> simp_all [Cell.ok]
end Go.IL
open Go.RowKit Go.WideShapes Go.ChangeShapes
namespace Go.IL
end Go.IL
