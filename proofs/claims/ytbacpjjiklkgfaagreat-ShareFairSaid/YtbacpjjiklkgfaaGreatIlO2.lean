/-
  A part of the proof: rules and plain facts. No condition.
-/
import Derived.Test.YtbacpjjiklkgfaaGreatIlA20D
import Derived.KernelRfl
import Derived.Test.YtbacpjjiklkgfaaGreatIlAr
import Derived.ProofKit
import Derived.OpenShut
set_option linter.all false
open Bool renaming and_eq_true → AA
open Go.IntKind renaming wrap → Ag
open Int renaming mul_le_mul → Fb,mul_nonneg → Dr
open _root_ renaming Option → Af
open Go Go.IL
namespace Go.Fn
theorem aFH:lA=some true:=by kernel_rfl
def inB (a b c:Int):Bool:=decide (b≤a)&&decide (a≤c)
theorem qC (a b c:Int):lE a b c=some (inB a b c):=rfl
theorem qO {a b c:Int}:inB a b c=true↔b≤a∧a≤c:=by unfold inB; rw [AA,decide_eq_true_eq,decide_eq_true_eq]
def aFo (a b:aM) (c d m:Int):Bool :=
 decide (max ((a.af-c)*b.ae-(b.af-d)*a.ae) (-((a.af-c)*b.ae-(b.af-d)*a.ae))≤m*(a.ae+b.ae))
def aAK (a b:aM) (c d m:Int):Bool :=
 inB a.ae 1 256&&inB b.ae 1 256&&inB a.af 0 1099511627776&&inB b.af 0 1099511627776&&inB m 0 1099511627776&&inB c 0 a.af&&inB d 0 b.af
theorem aAz {x w k m:Int} (h0:0≤x) (h1:x≤k) (h2:0≤w) (h3:w≤m) (hk:0≤k):0≤x*w∧x*w≤k*m :=
 ⟨Dr h0 h2,Fb h1 h3 h2 hk⟩
theorem aEA {a b:aM} {c d m:Int} (h:aAK a b c d m=true) :
 Ag .i64 (a.af-c)=a.af-c∧Ag .i64 ((a.af-c)*b.ae)=(a.af-c)*b.ae∧Ag .i64 (b.af-d)=b.af-d∧Ag .i64 ((b.af-d)*a.ae)=(b.af-d)*a.ae ∧
 Ag .i64 ((a.af-c)*b.ae-(b.af-d)*a.ae)=(a.af-c)*b.ae-(b.af-d)*a.ae∧Ag .i64 (0-((a.af-c)*b.ae-(b.af-d)*a.ae)) = -((a.af-c)*b.ae-(b.af-d)*a.ae) ∧
 Ag .i64 (a.ae+b.ae)=a.ae+b.ae∧Ag .i64 (m*(a.ae+b.ae))=m*(a.ae+b.ae):=by
 simp only [aAK,AA,qO] at h
 obtain ⟨⟨⟨⟨⟨⟨h1,h2⟩,h3⟩,h4⟩,h5⟩,h6⟩,h7⟩:=h
 have e1:=aAz (x:=a.af-c) (w:=b.ae) (k:=1099511627776) (m:=256) (by omega) (by omega) (by omega) (by omega) (by omega)
 have e2:=aAz (x:=b.af-d) (w:=a.ae) (k:=1099511627776) (m:=256) (by omega) (by omega) (by omega) (by omega) (by omega)
 have e3:=aAz (x:=m) (w:=a.ae+b.ae) (k:=1099511627776) (m:=512) (by omega) (by omega) (by omega) (by omega) (by omega)
 refine ⟨w64 (by omega) (by omega),w64 (by omega) (by omega),w64 (by omega) (by omega),w64 (by omega) (by omega),w64 (by omega) (by omega),?_,w64 (by omega) (by omega),w64 (by omega) (by omega)⟩
 rw [Int.zero_sub]; exact w64 (by omega) (by omega)
theorem zR (a b:aM) (n:pH) (m:Int):kL a b n m=some (aAK a b n.c0 n.c1 m&&aFo a b n.c0 n.c1 m):=by
 unfold kL
 simp only [qC,bnoS,bndD]
 cases hc:aAK a b n.c0 n.c1 m with
 | true =>
   obtain ⟨t1,t2,t3,t4,t5,t6,t7,t8⟩:=aEA hc
   simp only [aAK,AA] at hc
   obtain ⟨⟨⟨⟨⟨⟨h1,h2⟩,h3⟩,h4⟩,h5⟩,h6⟩,h7⟩:=hc
   simp only [h1,h2,h3,h4,h5,h6,h7]
   show (bif false then (some false:Af Bool) else _)=_
   rw [bX,t1,t2,t3,t4,t5,t6,t7,t8]; rfl
 | false =>
   unfold aAK at hc
   revert hc
   generalize inB a.ae 1 256=p1
   generalize inB b.ae 1 256=p2
   generalize inB a.af 0 1099511627776=p3
   generalize inB b.af 0 1099511627776=p4
   generalize inB m 0 1099511627776=p5
   generalize inB n.c0 0 a.af=p6
   generalize inB n.c1 0 b.af=p7
   intro hc
   cases p1 <;> cases p2 <;> cases p3 <;> cases p4 <;> cases p5 <;> cases p6 <;> cases p7 <;> first | rfl | (cases hc)
end Go.Fn
open Bool renaming eq_false_or_eq_true → Ev,false_and → DP,not_false → Ba,not_true → AO,true_and → CF
open Int renaming toNat_natCast → As
open List renaming any_eq_false → CJ,any_eq_true → Bu,append_assoc → AG,append_nil → AR,drop_eq_getElem_cons → Dp,filter_append → CP,filter_cons_of_neg → Bz,filter_cons_of_pos → BO,filter_eq_nil_iff → CK,filter_eq_self → BJ,getElem?_append_right → Bs,getElem?_eq_getElem → AY,getElem?_eq_none → Cb,getElem?_eq_some_iff → Ah,getElem_drop → Ew,getElem_mem → EE,length_append → Be,length_cons → AV,length_drop → BP,length_nil → Cd,length_take → Bj,mem_append → AT,mem_iff_getElem → Do,mem_of_getElem? → Cn,mem_singleton → Cm,not_mem_nil → Bx,pairwise_iff_getElem → CR,set_append_right → Dh,take_append_drop → AX
open Nat renaming add_zero → CG,eq_zero_or_pos → FA,le_refl → AL,lt_or_ge → Ce,sub_self → FM,zero_le → CX
open Option renaming map_eq_some_iff → Cr,map_none → Ef,map_some → DD
open _root_ renaming beq_self_eq_true → Cg,decide_eq_false → Aj,decide_eq_true → Ai,if_pos → Az
open Go Go.IL
namespace Go.Fn
theorem kH {α:Type} {l p r:List α} {x:α} (h:l=p++x::r):gix l (p.length:Int)=some x:=by
 subst h; rw [eE,Bs (AL _)]; simp
theorem pB {α:Type} {l p r:List α} {x:α} (h:l=p++x::r):decide ((p.length:Int)<(l.length:Int))=true:=by
 subst h; simp; omega
theorem rF {α:Type} {l p:List α} (h:l=p++[]):decide ((p.length:Int)<(l.length:Int))=false:=by
 subst h; simp
theorem rE {α:Type} {l:List α}:decide ((l.length:Int)<(l.length:Int))=false:=by simp
theorem w_at {α:Type} {l p r:List α} {x:α} (h:l=p++x::r) (hl:l.length≤1000000):Ag .i64 ((p.length:Int)+1)=((p++[x]).length:Int):=by
 subst h; simp only [Be,AV,Cd] at hl ⊢; rw [w64 (by omega) (by omega)]; omega
theorem jX {α:Type} {l p r:List α} {x:α} (h:l=p++x::r):l=(p++[x])++r:=by rw [h]; simp
theorem ft:(false == true)=false:=rfl
theorem aCf {α:Type} {l p r:List α} {x y:α} (h:l=(p++[x])++y::r) (hl:l.length≤1000000):gix l (Ag .i64 (((p++[x]).length:Int)-1))=some x:=by
 have hp:p.length≤1000000:=by rw [h] at hl; simp at hl; omega
 rw [show ((p++[x]).length:Int)-1=(p.length:Int) by simp,w64 (by omega) (by omega)]
 exact kH (r:=y::r) (by rw [h]; simp)
theorem aGj {α:Type} {l p r:List α} (h:l=p++r):cut l 0 (p.length:Int)=some p:=by
 subst h; unfold cut; rw [Az (by simp; omega)]; simp
theorem vT {α:Type} {L:Nat→Int→Af Int} {l:List α} {q:α→Bool}
 (h1:∀ p x r f,l=p++x::r→L (f+1) (p.length:Int)=bif q x then some (p.length:Int) else L f ((p++[x]).length:Int)) (h0:∀ f,L (f+1) (l.length:Int)=some (-1)) :
 ∀ (r p:List α) (f:Nat),l=p++r→r.length<f→(∀ y∈p,q y=false) →
   (L f (p.length:Int)=some (-1)∧∀ y∈l,q y=false)∨∃ a x t,l=a++x::t∧(∀ y∈a,q y=false)∧q x=true∧L f (p.length:Int)=some (a.length:Int)
 | [],p,f+1,h,_,ha=>by
   left
   rw [AR] at h
   subst h
   exact ⟨h0 f,ha⟩
 | y :: r,p,f+1,h,hf,ha=>by
   rw [h1 p y r f h]
   rcases Ev (q y) with hb | hb
   · right; exact ⟨p,y,r,h,ha,hb,by rw [hb]; rfl⟩
   · rw [hb,bX]
     exact vT h1 h0 r (p++[y]) f (jX h) (by simpa using hf) (fun z hz=>by
      rcases AT.1 hz with hz | hz
      · exact ha z hz
      · rw [Cm.1 hz]; exact hb)
theorem aCd {α:Type} {L:Nat→Int→Af Int} {l:List α} {q:α→Bool} (hl:l.length≤1000000)
 (h1:∀ p x r f,l=p++x::r→L (f+1) (p.length:Int)=bif q x then some (p.length:Int) else L f ((p++[x]).length:Int)) (h0:∀ f,L (f+1) (l.length:Int)=some (-1)) :
 ∃ k:Int,L fuel 0=some k∧decide (0≤k)=l.any q:=by
 rcases vT h1 h0 l [] fuel rfl (fB (by omega)) (fun _ h=>(Bx h).elim) with ⟨h2,h3⟩ | ⟨a,x,t,h2,h3,h4,h5⟩
 · refine ⟨-1,h2,?_⟩
   symm
   have:l.any q=false:=by rw [CJ]; intro y hy; rw [h3 y hy]; decide
   rw [this]; rfl
 · refine ⟨a.length,h5,?_⟩
   have:l.any q=true:=Bu.2 ⟨x,by rw [h2]; simp,h4⟩
   rw [this]; exact Ai (by omega)
theorem aAd {α:Type} {L:Nat→List α→Int→Int→Af (List α)} {q:α→Bool}
 (h1:∀ (f:Nat) (l:List α) (i j:Nat) (x:α),l.length≤100000→i≤j→j<l.length→l[j]? = some x→L (f+1) l (i:Int) (j:Int)=bif !q x then L f (l.set i x) ((i+1:Nat):Int) ((j+1:Nat):Int) else L f l (i:Int) ((j+1:Nat):Int))
 (h0:∀ (f:Nat) (l:List α) (i:Nat),i≤l.length→L (f+1) l (i:Int) (l.length:Int)=some (l.take i)) :
 ∀ (r k m:List α) (f:Nat),k.length+m.length+r.length≤100000→r.length<f →
   L f (k++m++r) (k.length:Int) ((k.length+m.length:Nat):Int)=some (k++r.filter fun y=>!q y)
 | [],k,m,f+1,hl,_=>by
   have:=h0 f (k++m) k.length (by simp)
   rw [AR,show ((k.length+m.length:Nat):Int)=((k++m).length:Int) by simp,this]; simp
 | y :: r,k,m,f+1,hl,hf=>by
   simp only [AV] at hl hf
   have hy:(k++m++y::r)[k.length+m.length]? = some y:=by
    rw [Bs (by simp)]; simp
   have hlen:(k++m++y::r).length=k.length+m.length+(r.length+1):=by simp; omega
   rw [h1 f (k++m++y::r) k.length (k.length+m.length) y (by omega) (by omega) (by omega) hy]
   rcases Ev (q y) with hb | hb
   · rw [hb,AO,bX,Bz (by simp [hb])]
     have:=aAd h1 h0 r k (m++[y]) f (by simp; omega) (by omega)
     rw [show k++m++y::r=k++(m++[y])++r by simp,←this]; congr 1; simp; omega
   · rw [hb,Ba,dA,BO (by simp [hb])]
     obtain ⟨m2,h3,h2⟩:∃ m2:List α,m2.length=m.length∧(k++m++y::r).set k.length y=k++[y]++m2++r:=by
      rw [AG k m,Dh _ _ (AL _),FM]
      cases m with
      | nil=>exact ⟨[],rfl,by simp⟩
      | cons a m=>exact ⟨m++[y],by simp,by simp⟩
     rw [h2]
     have:=aAd h1 h0 r (k++[y]) m2 f (by simp; omega) (by omega)
     rw [show k++y::List.filter (fun y=>!q y) r=k++[y]++List.filter (fun y=>!q y) r by simp,←this]
     congr 1 <;> simp <;> omega
theorem aGG {α:Type} {I:Nat→Int→Af Int} {L:Nat→List α→Int→Int→Af (List α)} {l:List α} {q:α→Bool} (hl:l.length≤100000)
 (i1:∀ p x r f,l=p++x::r→I (f+1) (p.length:Int)=bif q x then some (p.length:Int) else I f ((p++[x]).length:Int)) (i0:∀ f,I (f+1) (l.length:Int)=some (-1))
 (h1:∀ (f:Nat) (l:List α) (i j:Nat) (x:α),l.length≤100000→i≤j→j<l.length→l[j]? = some x→L (f+1) l (i:Int) (j:Int)=bif !q x then L f (l.set i x) ((i+1:Nat):Int) ((j+1:Nat):Int) else L f l (i:Int) ((j+1:Nat):Int))
 (h0:∀ (f:Nat) (l:List α) (i:Nat),i≤l.length→L (f+1) l (i:Int) (l.length:Int)=some (l.take i)) :
 (bno (I fuel 0) fun x1=>bnd (decide (x1=(-1))) fun x2=>bif x2 then some l else bnd (Ag .i64 (x1+1)) fun x4=>L fuel l x1 x4)=some (l.filter fun y=>!q y):=by
 rcases vT i1 i0 l [] fuel rfl (fB (by omega)) (fun _ h=>(Bx h).elim) with ⟨e1,e2⟩ | ⟨a,x,t,e1,e2,e3,e4⟩
 · have e1:I fuel 0=some (-1):=e1
   rw [e1,bnoS]
   simp only [bndD,decide_true,dA]
   rw [BJ.2 (fun y hy=>by rw [e2 y hy]; rfl)]
 · have e4:I fuel 0=some (a.length:Int):=e4
   have hql:a.length+(t.length+1)≤100000:=by rw [e1] at hl; simpa using hl
   rw [e4,bnoS]
   simp only [bndD,Aj (show ¬(a.length:Int) = -1 by omega),bX]
   rw [w64 (by omega) (by omega)]
   have:=aAd h1 h0 t a [x] fuel (by simp; omega) (fB (by omega))
   rw [e1,CP,Bz (by simp [e3]),BJ.2 (fun y hy=>by rw [e2 y hy]; rfl),←this]
   congr 1; simp
theorem aBM {α:Type} [DecidableEq α] {L:Nat→Int→Af Bool} {l m:List α} (hm:l.length=m.length)
 (h1:∀ p x r s y t f,l=p++x::r→m=s++y::t→p.length=s.length→L (f+1) (p.length:Int)=bif !decide (x=y) then some false else L f ((p++[x]).length:Int)) {z:Bool} (h0:∀ f,L (f+1) (l.length:Int)=some z) :
 ∀ (r t p s:List α) (f:Nat),l=p++r→m=s++t→p.length=s.length→r.length<f→L f (p.length:Int)=some (decide (r=t)&&z)
 | [],[],p,s,f+1,h,k,e,_=>by
   rw [AR] at h
   subst h
   rw [h0]; simp
 | [],y::t,p,s,f+1,h,k,e,_=>by rw [h,k] at hm; simp at hm; omega
 | x::r,[],p,s,f+1,h,k,e,_=>by rw [h,k] at hm; simp at hm; omega
 | x :: r,y::t,p,s,f+1,h,k,e,hf=>by
   rw [h1 p x r s y t f h k e]
   by_cases hx:x=y
   · subst hx
     rw [Ai rfl,AO,bX]
     have:=aBM hm h1 h0 r t (p++[x]) (s++[x]) f (jX h) (jX k) (by simp [e]) (by simpa using hf)
     rw [this]; simp
   · rw [Aj hx,Ba,dA]; simp [hx]
theorem aE7 {α:Type} [DecidableEq α] {L:Nat→Int→Af Bool} {l m:List α} (hl:l.length≤1000000)
 (h1:∀ p x r s y t f,l=p++x::r→m=s++y::t→p.length=s.length→L (f+1) (p.length:Int)=bif !decide (x=y) then some false else L f ((p++[x]).length:Int)) {z:Bool} (h0:l.length=m.length→∀ f,L (f+1) (l.length:Int)=some z) :
 (bnd (!decide ((l.length:Int)=(m.length:Int))) fun x1=>bif x1 then some false else L fuel 0)=some (decide (l=m)&&z):=by
 by_cases hm:l.length=m.length
 · simp only [bndD,Ai (show (l.length:Int)=(m.length:Int) by omega),AO,bX]
   exact aBM hm h1 (h0 hm) l m [] [] fuel rfl rfl rfl (fB (by omega))
 · simp only [bndD,Aj (show ¬(l.length:Int)=(m.length:Int) by omega),Ba,dA]
   rw [Aj (fun h=>hm (by rw [h]))]; rfl
theorem bsf_gen {α:Type} {L:Nat→Int→Int→Af (Int×Bool)} {l:List α} {key:α→Int} {x:Int} (hl:l.length≤1000000)
 (h1:∀ (f lo hi m:Nat) (y:α),lo<hi→hi≤l.length→m=(lo+hi) / 2→l[m]? = some y→L (f+1) (lo:Int) (hi:Int)=bif decide (key y<x) then L f ((m+1:Nat):Int) (hi:Int) else L f (lo:Int) (m:Int))
 (h0:∀ (f lo:Nat),lo≤l.length→L (f+1) (lo:Int) (lo:Int)=some ((lo:Int),decide ((l[lo]?).map key=some x))) :
 ∀ (f lo hi:Nat),hi-lo<f→lo≤hi→hi≤l.length→∃ p:Nat,p≤l.length∧L f lo hi=some ((p:Int),decide ((l[p]?).map key=some x)) ∧
 (l.Pairwise (fun a b=>key a<key b)→(∀ y∈l.take lo,key y<x)→(∀ y∈l.drop hi,x≤key y)→(∀ y∈l.take p,key y<x)∧(∀ y∈l.drop p,x≤key y)):=by
 intro f
 induction f with
 | zero=>intro lo hi h; omega
 | succ f ih =>
   intro lo hi hf h2 h3
   by_cases hc:lo<hi
   · have hm:(lo+hi) / 2<l.length:=by omega
     rw [h1 f lo hi _ l[(lo+hi) / 2] hc h3 rfl (AY hm)]
     generalize hmm:(lo+hi) / 2=m at hm ⊢
     have hml:lo≤m:=by omega
     have hmh:m<hi:=by omega
     by_cases hx:key l[m]<x
     · rw [Ai hx,dA]
       obtain ⟨p,i1,i2,i3⟩:=ih (m+1) hi (by omega) (by omega) h3
       refine ⟨p,i1,i2,fun hp ha hb=>i3 hp (fun y hy=>?_) hb⟩
       obtain ⟨j,hj,rfl⟩:=Do.1 hy
       rw [Bj] at hj
       rw [List.getElem_take]
       rcases Ce j m with hjm | hjm
       · exact Int.lt_trans (CR.1 hp j m (by omega) (by omega) hjm) hx
       · have:j=m:=by omega
         subst this; exact hx
     · rw [Aj hx,bX]
       obtain ⟨p,i1,i2,i3⟩:=ih lo m (by omega) (by omega) (by omega)
       refine ⟨p,i1,i2,fun hp ha hb=>i3 hp ha (fun y hy=>?_)⟩
       obtain ⟨j,hj,rfl⟩:=Do.1 hy
       rw [BP] at hj
       rw [Ew]
       rcases FA j with rfl | hj0
       · simp only [CG]; omega
       · have:=CR.1 hp m (m+j) (by omega) (by omega) (by omega)
         omega
   · have:lo=hi:=by omega
     subst this
     exact ⟨lo,h3,h0 f lo h3,fun _ ha hb=>⟨ha,hb⟩⟩
theorem aDn {α:Type} {l a b:List α} {key:α→Int} {x:Int} (h:l=a++b) (ha:∀ y∈a,key y<x) (hb:∀ y∈b,x≤key y):a=l.filter (fun y=>decide (key y<x))∧b=l.filter (fun y=>decide (x≤key y)):=by
 subst h
 rw [CP,CP,BJ.2 (fun y hy=>Ai (ha y hy)),CK.2 (fun y hy=>by have:=hb y hy; simp; omega),CK.2 (fun y hy=>by have:=ha y hy; simp; omega),BJ.2 (fun y hy=>Ai (hb y hy))]
 simp
theorem bsf_all {α:Type} {L:Nat→Int→Int→Af (Int×Bool)} {l:List α} {key:α→Int} {x:Int} (hl:l.length≤1000000)
 (h1:∀ (f lo hi m:Nat) (y:α),lo<hi→hi≤l.length→m=(lo+hi) / 2→l[m]? = some y→L (f+1) (lo:Int) (hi:Int)=bif decide (key y<x) then L f ((m+1:Nat):Int) (hi:Int) else L f (lo:Int) (m:Int))
 (h0:∀ (f lo:Nat),lo≤l.length→L (f+1) (lo:Int) (lo:Int)=some ((lo:Int),decide ((l[lo]?).map key=some x))) (hp:l.Pairwise (fun a b=>key a<key b)) :
 ∃ a b:List α,l=a++b∧a=l.filter (fun y=>decide (key y<x))∧b=l.filter (fun y=>decide (x≤key y)) ∧
   ((∃ y c,b=y::c∧key y=x∧L fuel 0 (l.length:Int)=some ((a.length:Int),true))∨((∀ y∈l,key y≠x)∧L fuel 0 (l.length:Int)=some ((a.length:Int),false))):=by
 obtain ⟨p,e1,e2,e3⟩:=bsf_gen hl h1 h0 fuel 0 l.length (fB (by omega)) (CX _) (AL _)
 obtain ⟨e4,e5⟩:=e3 hp (by simp) (by simp)
 obtain ⟨e6,e7⟩:=aDn (AX p l).symm e4 e5
 have hpl:(l.take p).length=p:=by rw [Bj]; omega
 have e2:L fuel 0 (l.length:Int)=_:=e2
 refine ⟨l.take p,l.drop p,(AX p l).symm,e6,e7,?_⟩
 rw [hpl,e2]
 by_cases hx:(l[p]?).map key=some x
 · left
   obtain ⟨y,hy,hk⟩:=Cr.1 hx
   have hlt:p<l.length:=(Ah.1 hy).1
   have hye:l[p]=y:=(Ah.1 hy).2
   exact ⟨y,l.drop (p+1),by rw [←hye]; exact Dp hlt,hk,by rw [Ai hx]⟩
 · right
   refine ⟨fun y hy hk=>?_,by rw [Aj hx]⟩
   rw [←AX p l] at hy
   rcases AT.1 hy with hy | hy
   · have:=e4 y hy; omega
   · obtain ⟨j,hj,hjx⟩:=Do.1 hy
     rw [BP] at hj
     rw [Ew] at hjx
     rcases FA j with rfl | hj0
     · apply hx; rw [AY (by omega)]; simp only [CG] at hjx; rw [DD,hjx,hk]
     · have h8:=CR.1 hp p (p+j) (by omega) (by omega) (by omega)
       have h9:=e5 l[p] (Do.2 ⟨0,by rw [BP]; omega,by rw [Ew]; simp⟩)
       rw [hjx,hk] at h8; omega
theorem oG {α:Type} {P:α→Af Bool} {q:α→Bool} (hP:∀ x,P x=some (q x)) {I:Nat→Int→Af Int} {l:List α}
 (hI:∀ f v,I (f+1) v=bnd (decide (v<(l.length:Int))) fun x14=>bif x14 then (bno (gix l v) fun x16=>bno (P x16) fun x17=>bif x17 then some v else (bnd (Ag .i64 (v+1)) fun x19=>I f x19)) else some (-1))
 (hl:l.length≤1000000):(bno (I fuel 0) fun x1=>bnd (decide (0≤x1)) fun x2=>some x2)=some (l.any q):=by
 obtain ⟨k,h1,h2⟩:=aCd (L:=I) (q:=q) hl (fun p x r f h=>by
  rw [hI]; simp only [bndD,pB h,dA,kH h,bnoS,hP,w_at h hl]) (fun f=>by rw [hI]; simp only [bndD,rE,bX])
 rw [h1,bnoS,bndD,h2]
theorem sH {α:Type} {P:α→Af Bool} {q:α→Bool} (hP:∀ x,P x=some (q x)) {I:Nat→Int→Af Int} {L:Nat→List α→Int→Int→Af (List α)} {l:List α}
 (hI:∀ f v,I (f+1) v=bnd (decide (v<(l.length:Int))) fun x14=>bif x14 then (bno (gix l v) fun x16=>bno (P x16) fun x17=>bif x17 then some v else (bnd (Ag .i64 (v+1)) fun x19=>I f x19)) else some (-1))
 (hL:∀ f a b c,L (f+1) a b c=bnd (decide (c<(a.length:Int))) fun x32=>bif x32 then (bno (gix a c) fun x34=>bno (a[(c:Int).toNat]?) fun x35=>bno (P x35) fun x36=>bif (!x36) then (bno (gix a b) fun x38=>bno (a[(b:Int).toNat]?) fun x39 =>
   bnd (a.set ((b:Int).toNat) x35) fun x40=>bnd (Ag .i64 (b+1)) fun x41=>bnd (Ag .i64 (c+1)) fun x42=>L f x40 x41 x42) else (bnd (Ag .i64 (c+1)) fun x43=>L f a b x43)) else (bno (cut a 0 b) fun x44=>bno (cut x44 0 b) fun x45=>some x45))
 (hl:l.length≤100000):(bno (I fuel 0) fun x1=>bnd (decide (x1=(-1))) fun x2=>bif x2 then some l else bnd (Ag .i64 (x1+1)) fun x4=>L fuel l x1 x4)=some (l.filter fun y=>!q y):=by
 refine aGG hl (fun p x r f h=>by
  rw [hI]; simp only [bndD,pB h,dA,kH h,bnoS,hP,w_at h (show l.length≤1000000 by omega)]) (fun f=>by rw [hI]; simp only [bndD,rE,bX]) (fun f a i j x ha hij hj hx=>?_) (fun f a i hi=>?_)
 · rw [hL]
   have hi:i<a.length:=by omega
   simp only [bndD,Ai (show (j:Int)<(a.length:Int) by omega),dA,eE,hx,bnoS,As,hP,AY hi,w64 (show -9223372036854775808≤(j:Int)+1 by omega) (by omega),w64 (show -9223372036854775808≤(i:Int)+1 by omega) (by omega)]
   rfl
 · rw [hL]
   have e:(a.take i).length=i:=by rw [Bj]; omega
   simp only [bndD,rE,bX]
   have h1:=aGj (l:=a) (AX i a).symm
   have h2:=aGj (l:=a.take i) (p:=a.take i) (r:=[]) (by simp)
   rw [e] at h1 h2
   rw [h1,bnoS,h2,bnoS]
theorem yM {α:Type} {dflt:α} {C:α→Af Int} {c:α→Int} {key:α→Int} {x:Int} {L:Nat→Int→Int→Af (Int×Bool)} {l:List α} (hC:∀ y∈l,C y=some (c y)) (hc:∀ y∈l,(c y<0↔key y<x)∧(c y=0↔key y=x))
 (hL:∀ f a b,L (f+1) a b=bnd (decide (a<b)) fun x25=>bif x25 then (bnd (Ag .i64 (a+b)) fun x27=>bnd (Ag .u64 x27) fun x28=>bno (shrI .u64 x28 1) fun x29=>bnd (Ag .i64 x29) fun x30=>bno (gix l x30) fun x31=>bno (C x31) fun x32 =>
   bnd (decide (x32<0)) fun x33=>bif x33 then (bnd (Ag .i64 (x30+1)) fun x35=>L f x35 b) else (L f a x30)) else (bnd (decide (a<(l.length:Int))) fun x36=>bno (gd (x36 == true) (gix l a) (dflt:α)) fun x37=>bno (gd (x36 == true) (C x37) (default:Int)) fun x38 =>
   bnd (decide (x38=0)) fun x39=>bnd (x36&&x39) fun x40=>some (a,x40)))
 (hl:l.length≤1000000) (hp:l.Pairwise (fun a b=>key a<key b)) :
 ∃ a b:List α,l=a++b∧a=l.filter (fun y=>decide (key y<x))∧b=l.filter (fun y=>decide (x≤key y)) ∧
   ((∃ y c,b=y::c∧key y=x∧L fuel 0 (l.length:Int)=some ((a.length:Int),true))∨((∀ y∈l,key y≠x)∧L fuel 0 (l.length:Int)=some ((a.length:Int),false))):=by
 refine bsf_all hl (fun f lo hi m y h1 h2 h3 h4=>?_) (fun f lo h1=>?_) hp
 · rw [hL]
   have hy:y∈l:=Cn h4
   have e1:shrI .u64 ((lo:Int)+(hi:Int)) 1=some ((m:Nat):Int):=by
    rw [shr_at (k:=.u64) (b:=1) 1 rfl (by decide),h3]; congr 1
   simp only [bndD,Ai (show (lo:Int)<(hi:Int) by omega),dA,w64 (show -9223372036854775808≤(lo:Int)+(hi:Int) by omega) (by omega),wU64 (show 0≤(lo:Int)+(hi:Int) by omega) (by omega),e1,bnoS,
    w64 (show -9223372036854775808≤((m:Nat):Int) by omega) (by omega),eE,h4,hC y hy,w64 (show -9223372036854775808≤(m:Int)+1 by omega) (by omega)]
   by_cases hx:key y<x
   · rw [Ai hx,Ai ((hc y hy).1.2 hx)]; rfl
   · rw [Aj hx,Aj (fun h=>hx ((hc y hy).1.1 h))]; rfl
 · rw [hL]
   simp only [bndD,Aj (show ¬(lo:Int)<(lo:Int) by omega),bX]
   by_cases hl':lo<l.length
   · have hy:l[lo]∈l:=EE hl'
     simp only [Ai (show (lo:Int)<(l.length:Int) by omega),Cg,gdtt,eE,AY hl',bnoS,hC _ hy,CF,DD,Option.some.injEq]
     by_cases hx:key l[lo]=x
     · rw [Ai hx,Ai ((hc _ hy).2.2 hx)]
     · rw [Aj hx,Aj (fun h=>hx ((hc _ hy).2.1 h))]
   · rw [Cb (by omega)]
     simp only [Aj (show ¬(lo:Int)<(l.length:Int) by omega),ft,gdff,bnoS,DP,Ef]
     rfl
end Go.Fn
open List renaming find?_append → DN,find?_eq_none → CB
open Go Go.IL
namespace Go.Fn
abbrev Nd:=aX
abbrev Fs:=aBR
abbrev Fo:=aFM
def I64 (n:Int):Prop:=-9223372036854775808≤n∧n≤9223372036854775807
inductive Fd (N:List Nd) (id:Int):Int×Bool→Prop
 | yes (A:List Nd) (y:Nd) (C:List Nd) (h:N=A++y::C) (e:y.ID=id) (ha:∀ a∈A,a.ID<id) (hc:∀ c∈C,id<c.ID):Fd N id ((A.length:Int),true)
 | no (p:Nat) (hp:p≤N.length) (h:∀ n∈N,n.ID≠id) (h2:0≤id→id≤1048576→(∀ a∈N.take p,a.ID<id)∧∀ c∈N.drop p,id<c.ID):Fd N id ((p:Int),false)
def rC (N:List Nd) (id:Int):Af Int:=(N.find? fun n=>decide (n.ID=id)).map (·.aa)
theorem par_yes {N A C:List Nd} {y:Nd} {id:Int} (h:N=A++y::C) (e:y.ID=id) (ha:∀ a∈A,a.ID<id):rC N id=some y.aa:=by
 unfold rC
 rw [h,DN]
 have h1:A.find? (fun n=>decide (n.ID=id))=none:=CB.2 (fun a hm=>by have:=ha a hm; simp; omega)
 rw [h1]
 simp [e]
def gU (N:List Nd):Nat→Int→List Int
 | 0,_=>[]
 | k+1,id=>match rC N id with
   | some p=>if p=0 then [] else p::gU N k p
   | none=>[]
structure Ok34 (N:List Nd):Prop where
 ln:N.length≤1000
 ra:∀ n∈N,1≤n.ID∧n.ID≤1048576
 so:N.Pairwise (fun a b=>a.ID<b.ID)
 pa:∀ n∈N,I64 n.aa
end Go.Fn
open Bool renaming eq_iff_iff → EQ
open List renaming Nodup → FG,append_of_mem → DE,find?_some → ER,length_erase_of_mem → Ex,length_pos_of_mem → DI,mem_cons → Av,mem_erase_of_ne → EY,mem_of_find?_eq_some → CS,nodup_cons → Bm,pairwise_append → BD,pairwise_cons → AQ,pairwise_map → Bo
open _root_ renaming if_neg → An
open Go Go.IL
namespace Go.Fn
theorem cmem {α:Type} {P:α→Af Bool} {q:α→Bool} {I:Nat→Int→Af Int} {l:List α} (hP:∀ x∈l,P x=some (q x))
 (hI:∀ f v,I (f+1) v=bnd (decide (v<(l.length:Int))) fun x14=>bif x14 then (bno (gix l v) fun x16=>bno (P x16) fun x17=>bif x17 then some v else (bnd (Ag .i64 (v+1)) fun x19=>I f x19)) else some (-1))
 (hl:l.length≤1000000):(bno (I fuel 0) fun x1=>bnd (decide (0≤x1)) fun x2=>some x2)=some (l.any q):=by
 obtain ⟨k,h1,h2⟩:=aCd (L:=I) (q:=q) hl (fun p x r f h=>by
  rw [hI]; simp only [bndD,pB h,dA,kH h,bnoS,hP x (by rw [h]; simp),w_at h hl]) (fun f=>by rw [hI]; simp only [bndD,rE,bX])
 rw [h1,bnoS,bndD,h2]
theorem cint {l:List Int} {x:Int} (hl:l.length≤1000000):cS l x=some (decide (x∈l)):=by
 unfold cS jA
 have:=cmem (P:=fun y=>some (decide (x=y))) (q:=fun y=>decide (x=y)) (I:=dW l x) (l:=l) (fun _ _=>rfl) (fun f v=>rfl) hl
 rw [this]
 congr 1
 rw [EQ,Bu]
 simp
theorem rP:∀ {l m:List Int},l.Nodup→(∀ x∈l,x∈m)→l.length≤m.length
 | [],m,_,_=>CX _
 | x::l,m,hn,hs=>by
   obtain ⟨h1,h2⟩:=Bm.1 hn
   have hx:=hs x (by simp)
   have:=rP (l:=l) (m:=m.erase x) h2 (fun y hy=>by
    have hne:y≠x:=fun e=>h1 (e ▸ hy)
    exact (EY hne).2 (hs y (by simp [hy])))
   rw [Ex hx] at this
   have hp:0<m.length:=DI hx
   simp only [AV]; omega
theorem aEf {N:List Nd} (h:N.Pairwise (fun a b=>a.ID<b.ID)):(N.map (·.ID)).Nodup:=by
 unfold FG
 rw [Bo]
 exact h.imp (fun h=>by omega)
structure FV (K:Int) (st:Fs):Prop where
 rm:st.ao=24
 kp:st.am=K∧0≤K∧K≤24
 ln:st.ai.length≤24
 el:(st.ak.length:Int)≤K
 so:st.ai.Pairwise (fun a b=>a.ID<b.ID)
 ra:∀ n∈st.ai,(1≤n.ID∧n.ID≤1048576)∧1≤n.ae∧n.ae≤256
 pa:∀ n∈st.ai,n.aa=0∨∃ m∈st.ai,m.ID=n.aa
 rk:∃ r:Int→Nat,∀ n∈st.ai,n.aa≠0→r n.aa<r n.ID
 en:∀ n∈st.ai,(n.ag=true↔n.ID∈st.ak)
 nd:st.ak.Nodup
 es:∀ e∈st.ak,∃ n∈st.ai,n.ID=e
theorem FV.ok {K:Int} {st:Fs} (h:FV K st):Ok34 st.ai :=
 ⟨by have:=h.ln; omega,fun n hn=>(h.ra n hn).1,h.so,fun n hn=>by
  rcases h.pa n hn with e | ⟨m,hm,e⟩
  · rw [e]; exact ⟨by decide,by decide⟩
  · have:=(h.ra m hm).1; exact ⟨by omega,by omega⟩⟩
theorem sX {N:List Nd} (h:N.Pairwise (fun a b=>a.ID<b.ID)) {a b:Nd} (ha:a∈N) (hb:b∈N) (e:a.ID=b.ID):a=b:=by
 obtain ⟨A,C,rfl⟩:=DE ha
 have hp:=BD.1 h
 have hp2:=AQ.1 hp.2.1
 rcases AT.1 hb with hb | hb
 · have:=hp.2.2 b hb a (by simp); omega
 · rcases Av.1 hb with hb | hb
   · exact hb.symm
   · have:=hp2.1 b hb; omega
theorem aD4 {N:List Nd} {id p:Int} (h:rC N id=some p):∃ n∈N,n.ID=id∧n.aa=p:=by
 unfold rC at h
 cases hf:N.find? (fun n=>decide (n.ID=id)) with
 | none=>rw [hf] at h; cases h
 | some n =>
   rw [hf] at h
   have h1:=ER hf
   exact ⟨n,CS hf,by simpa using h1,by simpa using h⟩
theorem uW {N:List Nd} (h:N.Pairwise (fun a b=>a.ID<b.ID)) {n:Nd} (hn:n∈N):rC N n.ID=some n.aa:=by
 obtain ⟨A,C,rfl⟩:=DE hn
 have hp:=BD.1 h
 exact par_yes rfl rfl (fun a ha=>hp.2.2 a ha n (by simp))
theorem wR {N:List Nd} {r:Int→Nat} (h:∀ n∈N,n.aa≠0→r n.aa<r n.ID):∀ (k:Nat) (id x:Int),x∈gU N k id→r x<r id
 | 0,_,_,hx=>(Bx hx).elim
 | k + 1,id,x,hx=>by
   unfold gU at hx
   cases hp:rC N id with
   | none=>rw [hp] at hx; exact (Bx hx).elim
   | some p =>
     rw [hp] at hx
     obtain ⟨n,hn,e1,e2⟩:=aD4 hp
     by_cases hz:p=0
     · simp only [hz,if_true] at hx; exact (Bx hx).elim
     · simp only [An hz] at hx
       have h1:=h n hn (by rw [e2]; exact hz)
       rw [e1,e2] at h1
       rcases Av.1 hx with rfl | hx
       · exact h1
       · have:=wR h k p x hx; omega
theorem aAE (N:List Nd):∀ (k:Nat) (id:Int),(gU N k id).length≤k
 | 0,_=>AL _
 | k + 1,id=>by
   unfold gU
   cases rC N id with
   | none=>exact CX _
   | some p =>
     have:=aAE N k p
     simp only
     split
     · exact CX _
     · rw [AV]; omega
end Go.Fn
open Int renaming ediv_le_of_le_mul → ES,le_refl → Dj,mul_le_mul_of_nonneg_left → FU
open List renaming length_filter_le → Dl,length_map → Aw,mem_filter → Bq,mem_map → Al
open _root_ renaming absurd → AJ
open Go Go.IL
namespace Go.Fn
theorem aAb {α:Type} {l p r:List α} {x:α} (h:l=p++x::r):l[((p.length:Nat):Int).toNat]? = some x:=by
 rw [As,h,Bs (AL _)]; simp
theorem zT {α:Type} {p r:List α} {x y:α}:(p++x::r).set ((p.length:Nat):Int).toNat y=p++y::r:=by
 rw [As,Dh _ _ (AL _)]; simp
def sumS:List Nd→Int→Int
 | [],_=>0
 | n::r,id=>(if n.aa=id then n.ae else 0)+sumS r id
theorem aBU:∀ (a b:List Nd) (id:Int),sumS (a++b) id=sumS a id+sumS b id
 | [],b,id=>by show sumS b id=0+sumS b id; omega
 | n::a,b,id=>by
   have:=aBU a b id
   show _+sumS (a++b) id=_+sumS a id+sumS b id
   omega
theorem aGW:∀ {N:List Nd},(∀ n∈N,1≤n.ae∧n.ae≤256)→∀ id,0≤sumS N id∧sumS N id≤256*N.length
 | [],_,_=>⟨Dj _,Dj _⟩
 | n::r,h,id=>by
   have h1:=aGW (N:=r) (fun x hx=>h x (by simp [hx])) id
   have h2:=h n (by simp)
   have e:sumS (n::r) id=(if n.aa=id then n.ae else 0)+sumS r id:=rfl
   rw [e,AV]
   split <;> omega
theorem aCD:∀ {N:List Nd} {n:Nd},(∀ x∈N,1≤x.ae∧x.ae≤256)→n∈N→n.ae≤sumS N n.aa
 | m :: r,n,h,hn=>by
   have h1:=aGW (N:=r) (fun x hx=>h x (by simp [hx])) n.aa
   have e:sumS (m::r) n.aa=(if m.aa=n.aa then m.ae else 0)+sumS r n.aa:=rfl
   rw [e]
   rcases Av.1 hn with rfl | hn
   · rw [Az rfl]; omega
   · have h2:=aCD (N:=r) (fun x hx=>h x (by simp [hx])) hn
     have h3:=h m (by simp)
     split <;> omega
def offN (y:Nd) (S:Int) (n:Nd):Nd:=if n.aa=y.ID then ⟨n.ID,y.aa,max (y.ae*n.ae / S) 1,n.ag⟩ else n
theorem uG (y:Nd) (S:Int) (n:Nd):(offN y S n).ID=n.ID:=by unfold offN; split <;> rfl
theorem aBh (y:Nd) (S:Int) (n:Nd):(offN y S n).ag=n.ag:=by unfold offN; split <;> rfl
def offS (A:List Nd) (y:Nd) (C:List Nd):List Nd:=(A++C).map (offN y (sumS (A++C) y.ID))
theorem fv_off {K:Int} {st:Fs} (h:FV K st) {A C:List Nd} {y:Nd} (hN:st.ai=A++y::C):FV K ⟨st.ao,st.am,offS A y C,st.ak.filter fun e=>!decide (e=y.ID)⟩:=by
 obtain ⟨r,hr⟩:=h.rk
 have hso:=h.so
 rw [hN] at hso
 have hp:=BD.1 hso
 have hp2:=AQ.1 hp.2.1
 have hmem:∀ n,n∈A++C→n∈st.ai∧n.ID≠y.ID:=fun n hn=>by
  rcases AT.1 hn with hn | hn
  · exact ⟨by rw [hN]; simp [hn],by have:=hp.2.2 n hn y (by simp); omega⟩
  · exact ⟨by rw [hN]; simp [hn],by have:=hp2.1 n hn; omega⟩
 have hback:∀ n∈st.ai,n.ID≠y.ID→n∈A++C:=fun n hn hne=>by
  rw [hN] at hn
  rcases AT.1 hn with hn | hn
  · exact AT.2 (.inl hn)
  · rcases Av.1 hn with rfl | hn
    · exact AJ rfl hne
    · exact AT.2 (.inr hn)
 have hy:y∈st.ai:=by rw [hN]; simp
 have hw:∀ n∈A++C,1≤n.ae∧n.ae≤256:=fun n hn=>(h.ra n (hmem n hn).1).2
 have hln:=h.ln
 have himg:∀ m∈offS A y C,∃ n∈A++C,m=offN y (sumS (A++C) y.ID) n:=fun m hm=>by
  obtain ⟨n,hn,e⟩:=Al.1 hm
  exact ⟨n,hn,e.symm⟩
 have hin:∀ n∈A++C,∃ m∈offS A y C,m.ID=n.ID:=fun n hn=>⟨_,Al.2 ⟨n,hn,rfl⟩,uG _ _ _⟩
 have hyp:y.aa≠y.ID:=fun e=>by
  have hyr:=(h.ra y hy).1
  have:=hr y hy (by omega)
  rw [e] at this; omega
 refine ⟨h.rm,h.kp,?_,?_,?_,fun m hm=>?_,fun m hm=>?_,⟨r,fun m hm hz=>?_⟩,fun m hm=>?_,?_,fun e he=>?_⟩
 · show (offS A y C).length≤24
   unfold offS; rw [Aw,Be]
   rw [hN] at hln; simp at hln; omega
 · show ((st.ak.filter _).length:Int)≤K
   have:=Dl (fun e=>!decide (e=y.ID)) st.ak
   have:=h.el; omega
 · show (offS A y C).Pairwise _
   unfold offS
   rw [Bo]
   have:(A++C).Pairwise (fun a b=>a.ID<b.ID):=BD.2 ⟨hp.1,hp2.2,fun a ha b hb=>hp.2.2 a ha b (by simp [hb])⟩
   exact this.imp (fun hab=>by rw [uG,uG]; exact hab)
 · obtain ⟨n,hn,rfl⟩:=himg m hm
   have hnr:=h.ra n (hmem n hn).1
   unfold offN
   split
   · rename_i hpar
     refine ⟨hnr.1,?_⟩
     have hge:=aCD hw hn
     rw [hpar] at hge
     have hyw:=(h.ra y hy).2
     have hd:y.ae*n.ae / sumS (A++C) y.ID≤y.ae:=by
      apply ES (by omega)
      exact FU hge (by omega)
     show 1≤max (y.ae*n.ae / sumS (A++C) y.ID) 1∧max (y.ae*n.ae / sumS (A++C) y.ID) 1≤256
     omega
   · exact hnr
 · obtain ⟨n,hn,rfl⟩:=himg m hm
   obtain ⟨hn1,hn2⟩:=hmem n hn
   have key:∀ p:Int,p≠y.ID→(p=0∨∃ m∈st.ai,m.ID=p)→(p=0∨∃ m∈offS A y C,m.ID=p):=fun p hpy hh=>by
    rcases hh with hh | ⟨q,hq,e⟩
    · exact .inl hh
    · obtain ⟨z,hz,ez⟩:=hin q (hback q hq (by rw [e]; exact hpy))
      exact .inr ⟨z,hz,ez.trans e⟩
   unfold offN
   split
   · exact key y.aa hyp (h.pa y hy)
   · rename_i hpar
     exact key n.aa hpar (h.pa n hn1)
 · obtain ⟨n,hn,rfl⟩:=himg m hm
   obtain ⟨hn1,hn2⟩:=hmem n hn
   rw [uG]
   unfold offN at hz ⊢
   split
   · rename_i hpar
     rw [Az hpar] at hz
     have hz:y.aa≠0:=hz
     have h1:=hr y hy hz
     have hyr:=(h.ra y hy).1
     have h2:=hr n hn1 (by rw [hpar]; omega)
     rw [hpar] at h2
     show r y.aa<r n.ID
     omega
   · rename_i hpar
     rw [An hpar] at hz
     exact hr n hn1 hz
 · obtain ⟨n,hn,rfl⟩:=himg m hm
   obtain ⟨hn1,hn2⟩:=hmem n hn
   rw [aBh,uG]
   have:=h.en n hn1
   show _↔n.ID∈st.ak.filter _
   rw [Bq,this]
   simp [hn2]
 · exact h.nd.filter _
 · obtain ⟨he1,he2⟩:=Bq.1 he
   have he2:e≠y.ID:=by simpa using he2
   obtain ⟨n,hn,en⟩:=h.es e he1
   obtain ⟨z,hz,ez⟩:=hin n (hback n hn (by rw [en]; exact he2))
   exact ⟨z,hz,ez.trans en⟩
end Go.Fn
open Bool renaming and_false → Fc,false_or → FB,not_eq_true' → Eu,or_eq_false_iff → DX,or_eq_true → BC
open Iff renaming rfl → Dw
open Go Go.IL
namespace Go.Fn
abbrev Mb:=aM
abbrev Gr:=aG
def jJ (l:List Mb):List Mb:=l.map fun m=>⟨m.ID,m.ae,0⟩
theorem aB5 {l:List Mb} (h:l.length≤1000000):dC l=some l:=by
 have h1:app 24 ([]:List Mb) l=some l:=by rw [nL (by simp; omega) (by simp; omega)]; rfl
 unfold dC
 rw [h1,bnoS]
 exact zH fun hl=>by rw [hl]
theorem clone_p {l:List Mb} (h:l.length≤1000000):eB l=some l:=aB5 h
def fitG (l:List Gr):Prop:=l.length≤1000∧∀ g∈l,g.ab.length≤1000
theorem own_L {l:List Gr} (h:fitG l):∀ (r p:List Gr) (f:Nat),l=p++r→r.length<f→fC l f p (p.length:Int)=some l
 | _,_,0,_,hf=>AJ hf (by omega)
 | [],p,f+1,hl,hf=>by
   rw [fC,bndD,rF hl,bX,hl,AR]
 | x::r,p,f+1,hl,hf=>by
   have hx:=h.2 x (by rw [hl]; simp)
   have h1:=h.1
   have hpl:p.length≤1000:=by rw [hl] at h1; simp at h1; omega
   rw [fC,bndD,pB hl,dA,kH hl,bnoS,clone_p (by omega),bnoS,nL (by simp; omega) (by simp; omega),bnoS,bndD,w_at hl (by omega)]
   exact own_L h r (p++[x]) f (jX hl) (by simp at hf ⊢; omega)
theorem aGb {l:List Gr} (h:fitG l):mY l=some l:=own_L h l [] fuel rfl (fB (by have:=h.1; omega))
theorem aGc (l:List Gr):∀ (f:Nat) (a:List Gr) (b:Int),gI l f a b=fC l f a b
 | 0,_,_=>rfl
 | f+1,a,b=>by
   rw [gI,fC]
   simp only [aGc l f]
theorem aFj {l:List Gr} (h:fitG l):kY l=some l:=by
 unfold kY
 rw [aGc]; exact aGb h
def yR (m:Mb):Bool:=inB m.ID 1 1048576&&inB m.ae 1 256&&inB m.af 0 1099511627776
theorem aFc (m:Mb):kO m=some (yR m):=by
 unfold kO yR
 simp only [qC,bnoS,bndD]
 cases inB m.ID 1 1048576 <;> cases inB m.ae 1 256 <;> rfl
def sV (g:Gr):Bool:=!inB g.aa 0 1048576||g.ab.any fun m=>!yR m
def pJ:List Mb→Bool
 | a::b::l=>decide (a.ID<b.ID)&&pJ (b::l)
 | _=>true
theorem aGM (m:Mb):kZ m=some (!yR m):=by
 unfold kZ
 rw [aFc,bnoS]
theorem aGL {l:List Mb} (h:l.length≤1000000):cJ l=some (l.any fun m=>!yR m):=by
 unfold cJ dG
 exact oG (P:=kZ) aGM (I:=bV l) (fun f v=>rfl) h
theorem aFC {g:Gr} (h:g.ab.length≤1000000):mB g=some (sV g):=by
 unfold mB sV
 rw [qC,bnoS]
 cases inB g.aa 0 1048576
 · rfl
 · simp only [AO,Cg,gdtt,aGL h,bnoS,bndD]
theorem aDV {l:List Gr} (h:fitG l):cM l=some (l.any sV):=by
 unfold cM dO
 exact cmem (P:=mB) (fun g hg=>aFC (by have:=h.2 g hg; omega)) (I:=cC l) (fun f v=>rfl) (by have:=h.1; omega)
theorem aDW {l:List Gr} (h:l.length≤1000000):cO l=some (l.any fun g=>decide (24<(g.ab.length:Int))):=by
 unfold cO dP
 exact oG (P:=oM) (fun g=>rfl) (I:=cD l) (fun f v=>rfl) h
theorem aDw {g:Gr} (h:g.ab.length≤1000000):∀ (r p:List Mb) (x:Mb) (f:Nat),g.ab=(p++[x])++r→r.length<f→gA g f ((p++[x]).length:Int)=some (pJ (x::r))
 | _,_,_,0,_,hf=>AJ hf (by omega)
 | [],p,x,f+1,hl,hf=>by rw [gA,bndD,rF hl,bX]; rfl
 | y::r,p,x,f+1,hl,hf=>by
   rw [gA,bndD,pB hl,dA,bndD,aCf hl h,bnoS,kH hl,bnoS,bndD,bndD,w_at hl h,aDw h r (p++[x]) y f (jX hl) (by simp at hf ⊢; omega)]
   show _=some (decide (x.ID<y.ID)&&pJ (y::r))
   by_cases hc:y.ID≤x.ID
   · rw [Ai hc,dA,Aj (by omega)]; rfl
   · rw [Aj hc,bX,Ai (by omega)]; rfl
theorem aCE {g:Gr} (h:g.ab.length≤1000000):mZ g=some (pJ g.ab):=by
 unfold mZ
 cases hm:g.ab with
 | nil =>
   have h1:fuel=(fuel-1)+1:=rfl
   show gA g fuel 1=_
   rw [show (fuel:Nat)=(2 ^ 64-1)+1 from rfl,gA,bndD,hm]
   rfl
 | cons x r=>exact aDw h r [] x fuel hm (fB (by rw [hm] at h; simp at h; omega))
def ordF:Option Gr→List Gr→Bool
 | _,[]=>true
 | none,g::r=>pJ g.ab&&ordF (some g) r
 | some x,g::r=>decide (x.aa<g.aa)&&pJ g.ab&&ordF (some g) r
theorem aGd {l:List Gr} (h:fitG l):∀ (r p:List Gr) (x:Gr) (f:Nat),l=(p++[x])++r→r.length<f→gK l f ((p++[x]).length:Int)=some (bif ordF (some x) r then 0 else 10)
 | _,_,_,0,_,hf=>AJ hf (by omega)
 | [],p,x,f+1,hl,hf=>by rw [gK,bndD,rF hl,bX]; rfl
 | y :: r,p,x,f+1,hl,hf=>by
   have hln:=h.1
   have hy:=h.2 y (by rw [hl]; simp)
   rw [gK,bndD,pB hl,dA,kH hl,bnoS,bndD,bndD,Ai (show (0:Int)<((p++[x]).length:Int) by simp),Cg,gdtt,aCf hl (by omega),bnoS,bndD,bndD,aCE (by omega)]
   have ih:=aGd h r (p++[x]) y f (jX hl) (by simp at hf ⊢; omega)
   show _=some (bif (decide (x.aa<y.aa)&&pJ y.ab&&ordF (some y) r) then 0 else 10)
   by_cases hc:y.aa≤x.aa
   · rw [Ai hc,Aj (show ¬x.aa<y.aa by omega)]; rfl
   · rw [Aj hc,Ai (show x.aa<y.aa by omega)]
     simp only [Fc,Cg,gdtt,bnoS,bndD,FB,w_at hl (show l.length≤1000000 by omega),ih]
     cases pJ y.ab <;> rfl
theorem ord_ok {l:List Gr} (h:fitG l):gK l fuel 0=some (bif ordF none l then 0 else 10):=by
 have hln:=h.1
 cases l with
 | nil=>rw [show (fuel:Nat)=(2 ^ 64-1)+1 from rfl,gK]; rfl
 | cons y r =>
   have hy:=h.2 y (by simp)
   have hl:y::r=[]++y::r:=rfl
   have ih:=aGd h r [] y (2 ^ 64-1) rfl (by simp at hln; omega)
   rw [show (fuel:Nat)=(2 ^ 64-1)+1 from rfl,gK,bndD,show decide ((0:Int)<((y::r).length:Int))=true from Ai (by simp),dA,show gix (y::r) 0=some y from rfl,bnoS,bndD,bndD]
   rw [show decide ((0:Int)<0)=false from rfl,ft,gdff,bnoS,bndD,bndD,DP,Cg,gdtt,aCE (by omega),bnoS,bndD,FB,bndD,show Ag .i64 ((0:Int)+1)=(([]++[y]).length:Int) from rfl,ih]
   show _=some (bif (pJ y.ab&&ordF (some y) r) then 0 else 10)
   cases pJ y.ab <;> rfl
def sI (l:List Gr):Int :=
 bif decide (25<(l.length:Int))||l.any (fun g=>decide (24<(g.ab.length:Int))) then 5 else bif l.any sV then 8 else bif ordF none l then 0 else 10
theorem aBP {l:List Gr} (h:fitG l):lF l=some (sI l):=by
 unfold lF sI mG
 rw [bndD,aDW (by have:=h.1; omega),bnoS,aDV h,bnoS,ord_ok h]
 cases decide (25<(l.length:Int)) <;> cases (l.any fun g=>decide (24<(g.ab.length:Int))) <;> cases l.any sV <;> rfl
structure mV (l:List Gr):Prop where
 ln:l.length≤25
 ml:∀ g∈l,g.ab.length≤24
 pa:∀ g∈l,0≤g.aa∧g.aa≤1048576
 mr:∀ g∈l,∀ m∈g.ab,(1≤m.ID∧m.ID≤1048576)∧(1≤m.ae∧m.ae≤256)∧(0≤m.af∧m.af≤1099511627776)
 mo:∀ g∈l,g.ab.Pairwise (fun a b=>a.ID<b.ID)
 so:l.Pairwise (fun a b=>a.aa<b.aa)
theorem wI:∀ {l:List Mb},pJ l=true↔l.Pairwise (fun a b=>a.ID<b.ID)
 | []=>by simp [pJ]
 | [x]=>by simp [pJ]
 | x :: y::l=>by
   unfold pJ
   rw [AA,decide_eq_true_eq,wI,AQ (a:=x)]
   constructor
   · rintro ⟨h1,h2⟩
     refine ⟨fun z hz=>?_,h2⟩
     rcases Av.1 hz with rfl | hz
     · exact h1
     · have:=(AQ.1 h2).1 z hz; omega
   · rintro ⟨h1,h2⟩; exact ⟨h1 y (by simp),h2⟩
theorem aCR:∀ {l:List Gr} {x:Gr},ordF (some x) l=true↔(∀ g∈l,g.ab.Pairwise (fun a b=>a.ID<b.ID))∧(x::l).Pairwise (fun a b=>a.aa<b.aa)
 | [],x=>by simp [ordF]
 | y :: l,x=>by
   unfold ordF
   rw [AA,AA,decide_eq_true_eq,wI,aCR,AQ (a:=x)]
   constructor
   · rintro ⟨⟨h1,h2⟩,h3,h4⟩
     refine ⟨fun g hg=>?_,fun z hz=>?_,h4⟩
     · rcases Av.1 hg with rfl | hg
       · exact h2
       · exact h3 g hg
     · rcases Av.1 hz with rfl | hz
       · exact h1
       · have:=(AQ.1 h4).1 z hz; omega
   · rintro ⟨h1,h2,h3⟩
     exact ⟨⟨h2 y (by simp),h1 y (by simp)⟩,fun g hg=>h1 g (by simp [hg]),h3⟩
theorem aAI {l:List Gr}:ordF none l=true↔(∀ g∈l,g.ab.Pairwise (fun a b=>a.ID<b.ID))∧l.Pairwise (fun a b=>a.aa<b.aa):=by
 cases l with
 | nil=>simp [ordF]
 | cons x l =>
   unfold ordF
   rw [AA,wI,aCR]
   constructor
   · rintro ⟨h1,h2,h3⟩
     refine ⟨fun g hg=>?_,h3⟩
     rcases Av.1 hg with rfl | hg
     · exact h1
     · exact h2 g hg
   · rintro ⟨h1,h2⟩; exact ⟨h1 x (by simp),fun g hg=>h1 g (by simp [hg]),h2⟩
theorem vY {g:Gr}:sV g=false↔(0≤g.aa∧g.aa≤1048576)∧∀ m∈g.ab,(1≤m.ID∧m.ID≤1048576)∧(1≤m.ae∧m.ae≤256)∧(0≤m.af∧m.af≤1099511627776):=by
 unfold sV
 rw [DX,Bool.not_eq_false',qO,CJ]
 refine and_congr Dw (forall_congr' fun m=>imp_congr Dw ?_)
 unfold yR
 rw [Eu,Bool.not_eq_false,AA,AA,qO,qO,qO,and_assoc]
theorem nT {l:List Gr}:sI l=0↔mV l:=by
 unfold sI
 cases h1:(decide (25<(l.length:Int))||l.any (fun g=>decide (24<(g.ab.length:Int)))) with
 | true =>
   refine ⟨fun h=>(by cases h),fun h=>?_⟩
   exfalso
   rw [BC,decide_eq_true_eq,Bu] at h1
   rcases h1 with h1 | ⟨g,hg,h1⟩
   · have:=h.ln; omega
   · have:=h.ml g hg; rw [decide_eq_true_eq] at h1; omega
 | false =>
   rw [DX,decide_eq_false_iff_not,CJ] at h1
   cases h2:l.any sV with
   | true =>
     refine ⟨fun h=>(by cases h),fun h=>?_⟩
     exfalso
     obtain ⟨g,hg,h3⟩:=Bu.1 h2
     rw [vY.2 ⟨h.pa g hg,h.mr g hg⟩] at h3; cases h3
   | false =>
     rw [CJ] at h2
     have hw:∀ g∈l,sV g=false:=fun g hg=>by simpa using h2 g hg
     cases h3:ordF none l with
     | true =>
       refine ⟨fun _=>⟨by omega,fun g hg=>?_,fun g hg=>(vY.1 (hw g hg)).1,fun g hg=>(vY.1 (hw g hg)).2,(aAI.1 h3).1,(aAI.1 h3).2⟩,fun _=>rfl⟩
       have:=h1.2 g hg; rw [decide_eq_true_eq] at this; omega
     | false =>
       refine ⟨fun h=>(by cases h),fun h=>?_⟩
       rw [aAI.2 ⟨h.mo,h.so⟩] at h3; cases h3
theorem mV.fit {l:List Gr} (h:mV l):fitG l:=⟨by have:=h.ln; omega,fun g hg=>by have:=h.ml g hg; omega⟩
end Go.Fn
open Bool renaming and_true → Eb
open Go Go.IL
namespace Go.Fn
theorem aEu {l:List Gr} (h:mV l) {p:Int} (hp:0≤p∧p≤1048576) :
 ∃ a b:List Gr,l=a++b∧a=l.filter (fun y=>decide (y.aa<p))∧b=l.filter (fun y=>decide (p≤y.aa)) ∧
   ((∃ y c,b=y::c∧y.aa=p∧gL l p=some ((a.length:Int),true))∨((∀ y∈l,y.aa≠p)∧gL l p=some ((a.length:Int),false))):=by
 have hC:∀ y∈l,gX y p=some (y.aa-p):=fun y hy=>by
  have:=h.pa y hy
  unfold gX
  rw [bndD,w64 (by omega) (by omega)]
 obtain ⟨a,b,h1,h2,h3,h4⟩:=yM (dflt:=(default:Gr)) (C:=fun y=>gX y p) (c:=fun y=>y.aa-p) (key:=fun y=>y.aa) (x:=p) (L:=bC l p) (l:=l)
  hC (fun y _=>⟨⟨fun h=>by omega,fun h=>by omega⟩,⟨fun h=>by omega,fun h=>by omega⟩⟩) (fun f a b=>rfl) (by have:=h.ln; omega) h.so
 refine ⟨a,b,h1,h2,h3,?_⟩
 unfold gL cX
 rcases h4 with ⟨y,c,e1,e2,e3⟩ | ⟨e1,e2⟩
 · exact .inl ⟨y,c,e1,e2,by rw [e3]; rfl⟩
 · exact .inr ⟨e1,by rw [e2]; rfl⟩
theorem bareL {l0:List Mb} (hl:l0.length≤1000000):∀ (r p:List Mb) (f:Nat),l0=p++r→r.length<f→eT l0 f (jJ p++r) (p.length:Int)=some (jJ l0)
 | _,_,0,_,hf=>AJ hf (by omega)
 | [],p,f+1,h,hf=>by
   rw [eT,bndD,rF h,bX,AR,h,AR]
 | x::r,p,f+1,h,hf=>by
   have hb:jJ p++x::r=jJ p++x::r:=rfl
   have hlb:(jJ p).length=p.length:=by simp [jJ]
   have e1:gix (jJ p++x::r) (p.length:Int)=some x:=by rw [←hlb]; exact kH rfl
   have e2:(jJ p++x::r)[((p.length:Nat):Int).toNat]? = some x:=by rw [←hlb]; exact aAb rfl
   have e3:(jJ p++x::r).set ((p.length:Nat):Int).toNat (⟨x.ID,x.ae,0⟩:Mb)=jJ (p++[x])++r:=by
    rw [←hlb,zT]; simp [jJ]
   rw [eT,bndD,pB h,dA,e1,bnoS,e2,bnoS,bndD,e3,bndD,w_at h hl]
   exact bareL hl r (p++[x]) f (jX h) (by simp at hf ⊢; omega)
theorem bare_ok {g:Gr} (h:g.ab.length≤1000000):lH g=some (jJ g.ab):=by
 unfold lH
 rw [aB5 h,bnoS]
 exact bareL h g.ab [] fuel rfl (fB (by omega))
theorem aFG (l:List Mb):∀ (f:Nat) (a:List Mb) (b:Int),fV l f a b=eT l f a b
 | 0,_,_=>rfl
 | f+1,a,b=>by
   rw [fV,eT]
   simp only [aFG l f]
theorem aFF {g:Gr} (h:g.ab.length≤1000000):kP g=some (jJ g.ab):=by
 unfold kP
 rw [aB5 h,bnoS,aFG]
 exact bareL h g.ab [] fuel rfl (fB (by omega))
theorem mb_eq (a b:Mb):(decide (a.ID=b.ID)&&(decide (a.ae=b.ae)&&(decide (a.af=b.af)&&true)))=decide (a=b):=by
 obtain ⟨a1,a2,a3⟩:=a
 obtain ⟨b1,b2,b3⟩:=b
 rw [EQ]
 simp [AA]
theorem equal20 {l m:List Mb} (hl:l.length≤1000000):dH l m=some (decide (l=m)):=by
 unfold dH
 rw [aE7 (L:=bY l m) (z:=true) hl ?_ ?_,Eb]
 · intro p x r s y t f h1 h2 h3
   rw [bY]
   simp only [bndD,pB h1,dA,kH h1,bnoS]
   rw [show gix m (p.length:Int)=some y by rw [h3]; exact kH h2,bnoS,mb_eq,w_at h1 hl]
 · intro h1 f
   rw [bY,bndD,rE,bX]
def pA (l:List Gr) (g:Gr):List Gr :=
 (l.filter fun y=>decide (y.aa<g.aa))++(match (l.filter fun y=>decide (g.aa≤y.aa)) with
   | []=>[g]
   | y::c=>if y.aa=g.aa then (if jJ y.ab=g.ab then y::c else g::c) else g::y::c)
theorem aFv {l:List Gr} (h:mV l) {g:Gr} (hp:0≤g.aa∧g.aa≤1048576):iU g l=some (pA l g):=by
 obtain ⟨a,b,h1,h2,h3,h4⟩:=aEu h hp
 have hln:=h.ln
 unfold iU pA
 rw [←h2,←h3]
 rcases h4 with ⟨y,c,e1,e2,e3⟩ | ⟨e1,e2⟩
 · have hl:l=a++y::c:=by rw [h1,e1]
   have hy:y∈l:=by rw [hl]; simp
   rw [e3,bnoS,e1]
   simp only [AO,bX,e2,if_true]
   rw [kH hl,bnoS,aAb hl,bnoS,bare_ok (by have:=h.ml y hy; omega),bnoS,equal20 (by have:=h.ml y hy; simp [jJ]; omega),bnoS]
   by_cases hb:jJ y.ab=g.ab
   · rw [Ai hb,Az hb]
     simp only [AO,bX]; rw [←hl]
   · rw [Aj hb,An hb]
     simp only [Ba,dA,bndD]
     rw [bnoS,bnoS,hl,zT]
 · rw [e2,bnoS]
   simp only [Ba,dA]
   have hal:a.length≤l.length:=by rw [h1]; simp
   unfold fT
   rw [insS_ok (by omega) (by omega) (by simp; omega) (by simp; omega),bnoS,As]
   have t1:l.take a.length=a:=by rw [h1]; simp
   have t2:l.drop a.length=b:=by rw [h1]; simp
   rw [t1,t2,AG]
   cases hb:b with
   | nil=>rfl
   | cons y c =>
     have hy:y∈l:=by rw [h1,hb]; simp
     simp only [An (e1 y hy)]
     rfl
def qR:Mb→List Mb→Mb
 | b,[]=>b
 | b,m::l=>if m.af*b.ae<b.af*m.ae then qR m l else qR b l
def okM (m:Mb):Prop:=(1≤m.ID∧m.ID≤1048576)∧(1≤m.ae∧m.ae≤256)∧(0≤m.af∧m.af≤1099511627776)
theorem vW:∀ (l:List Mb) (b:Mb),qR b l=b∨qR b l∈l
 | [],_=>.inl rfl
 | m :: l,b=>by
   unfold qR
   split
   · rcases vW l m with h | h
     · rw [h]; exact .inr (by simp)
     · exact .inr (by simp [h])
   · rcases vW l b with h | h
     · exact .inl h
     · exact .inr (by simp [h])
theorem aBz {l0:List Mb} (hl:l0.length≤1000000) (ho:∀ m∈l0,okM m):∀ (r p:List Mb) (b:Mb) (f:Nat),okM b→l0=p++r→r.length<f→eY l0 f (p.length:Int) b.ID b.ae b.af=some (qR b r).ID
 | _,_,_,0,_,_,hf=>AJ hf (by omega)
 | [],p,b,f+1,hb,h,hf=>by rw [eY,bndD,rF h,bX]; rfl
 | x :: r,p,b,f+1,hb,h,hf=>by
   have hx:=ho x (by rw [h]; simp)
   have e1:=aAz (x:=x.af) (w:=b.ae) (k:=1099511627776) (m:=256) (by have:=hx.2.2; omega) (by have:=hx.2.2; omega) (by have:=hb.2.1; omega) (by have:=hb.2.1; omega) (by omega)
   have e2:=aAz (x:=b.af) (w:=x.ae) (k:=1099511627776) (m:=256) (by have:=hb.2.2; omega) (by have:=hb.2.2; omega) (by have:=hx.2.1; omega) (by have:=hx.2.1; omega) (by omega)
   rw [eY,bndD,pB h,dA,kH h,bnoS,bndD,bndD,bndD,w64 (by omega) (by omega),w64 (by omega) (by omega),w_at h hl]
   unfold qR
   by_cases hc:x.af*b.ae<b.af*x.ae
   · rw [Ai hc,dA,Az hc,bndD]
     exact aBz hl ho r (p++[x]) x f hx (jX h) (by simp at hf ⊢; omega)
   · rw [Aj hc,bX,An hc,bndD]
     exact aBz hl ho r (p++[x]) b f hb (jX h) (by simp at hf ⊢; omega)
theorem aEs {g:Gr} {b:Mb} {l:List Mb} (hg:g.ab=b::l) (hl:l.length≤1000) (ho:∀ m∈g.ab,okM m):jM g=some (qR b l).ID:=by
 rw [hg] at ho
 have hc:cut (b::l) 1 ((b::l).length:Int)=some l:=by
  rw [cut_to (by omega) (by simp; omega)]; rfl
 unfold jM
 rw [hg,show gix (b::l) 0=some b from rfl,bnoS,hc,bnoS]
 exact aBz (by omega) (fun m hm=>ho m (by simp [hm])) l [] b fuel (ho b (by simp)) rfl (fB (by omega))
theorem rQ {V:Type} (k:Int) (v:V) (j:Int):∀ (l:List (Int×V)),mget (mput l k v) j=if k=j then some v else mget l j
 | []=>by
   show mget [(k,v)] j=_
   rw [mget]; rfl
 | (i,w)::r=>by
   rw [mput]
   by_cases h:i=k
   · rw [Az h,mget,mget]
     by_cases h2:k=j
     · rw [Az h2,Az h2]
     · rw [An h2,An h2,An (by omega)]
   · rw [An h,mget,mget]
     by_cases h2:i=j
     · rw [Az h2,Az h2,An (by omega)]
     · rw [An h2,An h2,rQ k v j r]
theorem mput_ne {V:Type} (k:Int) (v:V):∀ (l:List (Int×V)),(mput l k v).length≠0
 | []=>by show ([(k,v)]:List (Int×V)).length≠0; simp
 | (i,w)::r=>by
   rw [mput]
   split <;> simp
theorem del20 {l:List Gr} (hl:l.length≤100000) (a1:List (Int×aX)) (a2 a3:List (Int×Bool)) (a4 a5:Int) (a6:List aJ) (a7 a8:Int) (a9:List aI) (a10:Int) (a11:List Int) :
 cF l a1 a2 a3 a4 a5 a6 a7 a8 a9 a10 a11=some (l.filter fun g=>!(!decide (g.aa=0) && !(mget a1 g.aa).isSome)):=by
 unfold cF dN
 exact sH (P:=fun g=>lL g a1 a2 a3 a4 a5 a6 a7 a8 a9 a10 a11) (q:=fun g=>!decide (g.aa=0) && !(mget a1 g.aa).isSome) (fun g=>by
  unfold lL; simp only [bndD]) (I:=bP l a1 a2 a3 a4 a5 a6 a7 a8 a9 a10 a11) (L:=bO a1 a2 a3 a4 a5 a6 a7 a8 a9 a10 a11) (fun f v=>by
   rw [bP]
   simp only [bndD]
   cases decide (v<(l.length:Int))
   · rfl
   · simp only [dA]
     cases hg:gix l v with
     | none=>rfl
     | some x=>rw [bnoS,(sE hg).2]) (fun f a b c=>rfl) hl
end Go.Fn
open List renaming mem_cons_of_mem → Bi,mem_cons_self → BW,nodup_nil → Dc
open Go Go.IL
namespace Go.Fn
inductive Anc (N:List Nd) (x:Int):Int→Prop
 | here:Anc N x x
 | up (n:Nd) (hn:n∈N) (hx:n.ID≠x) (hp:n.aa≠0) (h:Anc N x n.aa):Anc N x n.ID
inductive Blw (N:List Nd) (x d:Int):Int→Prop
 | child (n:Nd) (hn:n∈N) (hx:n.ID≠x) (hp:n.aa=d):Blw N x d n.ID
 | up (n:Nd) (hn:n∈N) (hx:n.ID≠x) (hp:n.aa≠0) (h:Blw N x d n.aa):Blw N x d n.ID
def Rk (N:List Nd) (x:Int) (r:Int→Nat):Prop:=∀ n∈N,n.ID≠x→n.aa≠0→r n.aa<r n.ID
theorem aCn {N:List Nd} {x:Int} {r:Int→Nat} (h:Rk N x r) {z:Int} (ha:Anc N x z):z=x∨r x<r z:=by
 induction ha with
 | here=>exact .inl rfl
 | up n hn hx hp _ ih =>
   have:=h n hn hx hp
   rcases ih with e | e
   · rw [e] at this; exact .inr this
   · exact .inr (by omega)
theorem aCo {N:List Nd} {x z:Int} (ha:Anc N x z):z=x∨∃ n∈N,n.ID=z:=by
 cases ha with
 | here=>exact .inl rfl
 | up n hn _ _ _=>exact .inr ⟨n,hn,rfl⟩
theorem aGN {N:List Nd} {x d:Int} {r:Int→Nat} (h:Rk N x r) (hd:d≠0) {z:Int} (ha:Blw N x d z):r d<r z:=by
 induction ha with
 | child n hn hx hp=>have:=h n hn hx (by rw [hp]; exact hd); rw [hp] at this; exact this
 | up n hn hx hp _ ih=>have:=h n hn hx hp; omega
theorem aB9 {N:List Nd} (hs:N.Pairwise (fun a b=>a.ID<b.ID)) {x:Int} {n:Nd} (hn:n∈N) (hx:n.ID≠x) (ha:Anc N x n.ID):Anc N x n.aa:=by
 generalize hz:n.ID=z at ha
 cases ha with
 | here=>exact AJ hz hx
 | up m hm hmx hmp h =>
   have:m=n:=sX hs hm hn hz.symm
   subst this; exact h
theorem blw_par {N:List Nd} (hs:N.Pairwise (fun a b=>a.ID<b.ID)) {x d:Int} {n:Nd} (hn:n∈N) (ha:Blw N x d n.ID):n.aa=d∨Blw N x d n.aa:=by
 generalize hz:n.ID=z at ha
 cases ha with
 | child m hm hmx hmp =>
   have:m=n:=sX hs hm hn hz.symm
   subst this; exact .inl hmp
 | up m hm hmx hmp h =>
   have:m=n:=sX hs hm hn hz.symm
   subst this; exact .inr h
def nQ (x d w:Int) (only:Bool) (n:Nd):Nd:=if n.ID=x then ⟨n.ID,d,w,n.ag⟩ else if only=true∧n.aa=d then ⟨n.ID,x,n.ae,n.ag⟩ else n
theorem aCe (x d w:Int) (o:Bool) (n:Nd):(nQ x d w o n).ID=n.ID:=by unfold nQ; split; rfl; split <;> rfl
theorem aBD (x d w:Int) (o:Bool) (n:Nd):(nQ x d w o n).ag=n.ag:=by unfold nQ; split; rfl; split <;> rfl
theorem aEi {N:List Nd} (hs:N.Pairwise (fun a b=>a.ID<b.ID)) {x d w:Int} {o:Bool} {r:Int→Nat} (h:Rk N x r) (hx0:x≠0) (hz:∀ n∈N,n.ID≠0) (hd:d≠0→¬ Anc N x d):∃ r':Int→Nat,∀ m∈N.map (nQ x d w o),m.aa≠0→r' m.aa<r' m.ID:=by
 classical
 refine ⟨fun z=>if Anc N x z then r z+(r x+r d+1) else if Blw N x d z then r z+2*(r x+r d+1) else r z,fun m hm hp=>?_⟩
 obtain ⟨n,hn,rfl⟩:=Al.1 hm
 rw [aCe]
 have hxa:Anc N x x:=.here
 have hnb:d≠0→¬ Blw N x d d:=fun h0 hb=>by have:=aGN h h0 hb; omega
 by_cases hx:n.ID=x
 · -- the node itself
   have e:(nQ x d w o n).aa=d:=by unfold nQ; rw [Az hx]
   rw [e] at hp ⊢
   rw [hx]
   simp only [An (hd hp),An (hnb hp),Az hxa]
   omega
 · by_cases ho:o=true∧n.aa=d
   · have e:(nQ x d w o n).aa=x:=by unfold nQ; rw [An hx,Az ho]
     rw [e]
     have hb:Blw N x d n.ID:=.child n hn hx ho.2
     have hna:¬ Anc N x n.ID:=fun ha=>by
      have h1:=aB9 hs hn hx ha
      rw [ho.2] at h1
      by_cases h0:d=0
      · rw [h0] at h1
        rcases aCo h1 with e | ⟨q,hq,e⟩
        · exact hx0 e.symm
        · exact hz q hq e
      · exact hd h0 h1
     simp only [Az hxa,An hna,Az hb]
     omega
   · have e:nQ x d w o n=n:=by unfold nQ; rw [An hx,An ho]
     rw [e] at hp ⊢
     have hr:=h n hn hx hp
     by_cases ha:Anc N x n.ID
     · have h1:=aB9 hs hn hx ha
       simp only [Az ha,Az h1]
       omega
     · have h1:¬ Anc N x n.aa:=fun h1=>ha (.up n hn hx hp h1)
       by_cases hb:Blw N x d n.ID
       · rcases blw_par hs hn hb with h2 | h2
         · have hd0:d≠0:=by rw [←h2]; exact hp
           have h3:¬ Blw N x d n.aa:=by rw [h2]; exact hnb hd0
           simp only [An ha,An h1,Az hb,An h3]
           omega
         · simp only [An ha,An h1,Az hb,Az h2]
           omega
       · have h2:¬ Blw N x d n.aa:=fun h2=>hb (.up n hn hx hp h2)
         simp only [An ha,An h1,An hb,An h2]
         omega
theorem aCO {N:List Nd} (hs:N.Pairwise (fun a b=>a.ID<b.ID)) {x:Int}:∀ (k:Nat) (z:Int),z≠x→x∈gU N k z→x≠0→Anc N x z
 | 0,_,_,hx,_=>(Bx hx).elim
 | k + 1,z,hzx,hx,h0=>by
   unfold gU at hx
   cases hp:rC N z with
   | none=>rw [hp] at hx; exact (Bx hx).elim
   | some p =>
     rw [hp] at hx
     obtain ⟨n,hn,e1,e2⟩:=aD4 hp
     by_cases hq:p=0
     · simp only [hq,if_true] at hx; exact (Bx hx).elim
     · simp only [An hq] at hx
       subst e1 e2
       by_cases hpx:n.aa=x
       · exact .up n hn hzx hq (by rw [hpx]; exact .here)
       · rcases Av.1 hx with e | hx
         · exact AJ e.symm hpx
         · exact .up n hn hzx hq (aCO hs k n.aa hpx hx h0)
theorem aAs {N:List Nd}:∀ (k:Nat) (z x:Int),x∈gU N k z→x∈gU N (k+1) z
 | 0,_,_,hx=>(Bx hx).elim
 | k + 1,z,x,hx=>by
   unfold gU at hx ⊢
   cases hp:rC N z with
   | none=>rw [hp] at hx; exact (Bx hx).elim
   | some p =>
     rw [hp] at hx
     by_cases hq:p=0
     · simp only [hq,if_true] at hx; exact (Bx hx).elim
     · simp only [An hq] at hx ⊢
       rcases Av.1 hx with e | hx
       · rw [e]; exact BW
       · exact Bi _ (aAs k p x hx)
theorem wQ {N:List Nd}:∀ (k:Nat) (z:Int),(gU N k z).length<k→gU N (k+1) z=gU N k z
 | 0,_,h=>AJ h (by omega)
 | k + 1,z,h=>by
   rw [gU] at h
   rw [gU,gU]
   cases hp:rC N z with
   | none=>rfl
   | some p =>
     rw [hp] at h
     by_cases hq:p=0
     · simp only [hq,if_true]
     · simp only [An hq,AV] at h ⊢
       rw [wQ k p (by omega)]
theorem aGP {N:List Nd} (hs:N.Pairwise (fun a b=>a.ID<b.ID)) {x z:Int} (h:Anc N x z):z=x∨∃ k,x∈gU N k z:=by
 induction h with
 | here=>exact .inl rfl
 | up n hn hx hp _ ih =>
   right
   rcases ih with e | ⟨k,hk⟩
   · refine ⟨1,?_⟩
     rw [gU,uW hs hn]
     simp only [An hp]
     rw [e]; exact BW
   · refine ⟨k+1,?_⟩
     rw [gU,uW hs hn]
     simp only [An hp]
     exact Bi _ hk
theorem oT {N:List Nd} (hs:N.Pairwise (fun a b=>a.ID<b.ID)) {r:Int→Nat} (hr:∀ n∈N,n.aa≠0→r n.aa<r n.ID) (hpa:∀ n∈N,n.aa=0∨∃ m∈N,m.ID=n.aa):∀ (k:Nat) (z:Int),(∃ n∈N,n.ID=z)→(z::gU N k z).Nodup∧∀ y∈z::gU N k z,y∈N.map (·.ID)
 | 0,z,⟨n,hn,e⟩=>⟨by simp [gU],fun y hy=>by
   rcases Av.1 hy with rfl | hy
   · exact Al.2 ⟨n,hn,e⟩
   · exact (Bx hy).elim⟩
 | k + 1,z,⟨n,hn,e⟩=>by
   subst e
   have hz:n.ID∈N.map (·.ID):=Al.2 ⟨n,hn,rfl⟩
   have hnot:¬ n.ID∈gU N (k+1) n.ID:=fun hm=>by have:=wR hr (k+1) _ _ hm; omega
   refine ⟨Bm.2 ⟨hnot,?_⟩,fun y hy=>?_⟩
   · rw [gU,uW hs hn]
     by_cases hq:n.aa=0
     · simp only [Az hq]; exact Dc
     · simp only [An hq]
       rcases hpa n hn with e | ⟨m,hm,e⟩
       · exact AJ e hq
       · exact (oT hs hr hpa k n.aa ⟨m,hm,e⟩).1
   · rcases Av.1 hy with rfl | hy
     · exact hz
     · rw [gU,uW hs hn] at hy
       by_cases hq:n.aa=0
       · simp only [Az hq] at hy; exact (Bx hy).elim
       · simp only [An hq] at hy
         rcases hpa n hn with e | ⟨m,hm,e⟩
         · exact AJ e hq
         · exact (oT hs hr hpa k n.aa ⟨m,hm,e⟩).2 y hy
theorem aAu {N:List Nd} (hs:N.Pairwise (fun a b=>a.ID<b.ID)) {r:Int→Nat} (hr:∀ n∈N,n.aa≠0→r n.aa<r n.ID) (hpa:∀ n∈N,n.aa=0∨∃ m∈N,m.ID=n.aa) {z:Int} (hz:∃ n∈N,n.ID=z):∀ (j:Nat),gU N (N.length+j) z=gU N N.length z
 | 0=>rfl
 | j+1=>by
   have h1:=aAu hs hr hpa hz j
   obtain ⟨h2,h3⟩:=oT hs hr hpa N.length z hz
   have h4:=rP h2 h3
   rw [AV,Aw] at h4
   have:=wQ (N:=N) (N.length+j) z (by rw [h1]; omega)
   rw [show N.length+(j+1)=N.length+j+1 by omega,this,h1]
theorem aAt {N:List Nd} (k:Nat) (z x:Int) (h:x∈gU N k z):∀ j,x∈gU N (k+j) z
 | 0=>h
 | j+1=>aAs _ _ _ (aAt k z x h j)
theorem not_anc {N:List Nd} (hs:N.Pairwise (fun a b=>a.ID<b.ID)) {r:Int→Nat} (hr:∀ n∈N,n.aa≠0→r n.aa<r n.ID) (hpa:∀ n∈N,n.aa=0∨∃ m∈N,m.ID=n.aa) {x z:Int} (hz:∃ n∈N,n.ID=z) (hzx:z≠x) (h:¬ x∈gU N N.length z):¬ Anc N x z:=fun ha=>by
 rcases aGP hs ha with e | ⟨k,hk⟩
 · exact hzx e
 · have h1:=aAt k z x hk N.length
   rw [show k+N.length=N.length+k by omega,aAu hs hr hpa hz k] at h1
   exact h h1
end Go.Fn
open Go Go.IL
namespace Go.Fn
def mvN (d p:Int) (n:Nd):Nd:=if n.ID=d then ⟨n.ID,p,n.ae,n.ag⟩ else n
theorem lR (d p:Int) (n:Nd):(mvN d p n).ID=n.ID:=by unfold mvN; split <;> rfl
structure HP (N:List Nd) (x:Int) (r:Int→Nat):Prop where
 ok:Ok34 N
 xm:∃ n∈N,n.ID=x
 ra:∀ n∈N,1≤n.ae∧n.ae≤256
 pa:∀ n∈N,n.ID≠x→n.aa=0∨∃ m∈N,m.ID=n.aa
 rk:Rk N x r
 xs:((∀ n∈N,n.aa≠0→r n.aa<r n.ID)∧∀ n∈N,n.aa=0∨∃ m∈N,m.ID=n.aa)∨∀ n∈N,n.ID≠x→n.aa≠x
structure Hung (N:List Nd) (g:Nd→Nd):Prop where
 id:∀ n,(g n).ID=n.ID
 cl:∀ n,(g n).ag=n.ag
 ra:∀ n∈N,1≤(g n).ae∧(g n).ae≤256
 pa:∀ n∈N,(g n).aa=0∨∃ m∈N,m.ID=(g n).aa
 rk:∃ r:Int→Nat,∀ m∈N.map g,m.aa≠0→r m.aa<r m.ID
theorem aAY {N:List Nd} {x d w:Int} {o:Bool} {r:Int→Nat} (h:HP N x r) (hw:1≤w∧w≤256) (hd:d≠0→(∃ m∈N,m.ID=d)∧¬ Anc N x d):Hung N (nQ x d w o):=by
 obtain ⟨y,hy,hyx⟩:=h.xm
 have hyr:=h.ok.ra y hy
 refine ⟨aCe x d w o,aBD x d w o,fun n hn=>?_,fun n hn=>?_,aEi h.ok.so h.rk (by omega) (fun n hn=>by have:=h.ok.ra n hn; omega) (fun h0=>(hd h0).2)⟩
 · have:=h.ra n hn
   unfold nQ
   split
   · exact hw
   · split <;> exact this
 · unfold nQ
   split
   · by_cases h0:d=0
     · exact .inl h0
     · exact .inr (hd h0).1
   · rename_i hx
     split
     · exact .inr ⟨y,hy,hyx⟩
     · exact h.pa n hn hx
end Go.Fn
open Go Go.IL
namespace Go.Fn
theorem hp_move {N:List Nd} {x:Int} {r:Int→Nat} (h:HP N x r) {y k:Nd} (hy:y∈N) (hyx:y.ID=x) (hk:k∈N) (hkx:k.ID≠x) (ha:Anc N x k.ID) (hfull:(∀ n∈N,n.aa≠0→r n.aa<r n.ID)∧∀ n∈N,n.aa=0∨∃ m∈N,m.ID=n.aa):HP (N.map (mvN k.ID y.aa)) x r∧¬ Anc (N.map (mvN k.ID y.aa)) x k.ID:=by
 obtain ⟨hf1,hf2⟩:=hfull
 have hso:(N.map (mvN k.ID y.aa)).Pairwise (fun a b=>a.ID<b.ID):=by
  rw [Bo]
  exact h.ok.so.imp (fun hab=>by rw [lR,lR]; exact hab)
 have himg:∀ m∈N.map (mvN k.ID y.aa),∃ n∈N,m=mvN k.ID y.aa n:=fun m hm=>by
  obtain ⟨n,hn,e⟩:=Al.1 hm
  exact ⟨n,hn,e.symm⟩
 have hin:∀ p:Int,(p=0∨∃ m∈N,m.ID=p)→(p=0∨∃ m∈N.map (mvN k.ID y.aa),m.ID=p):=fun p hp=>hp.imp id (fun ⟨m,hm,e⟩=>⟨_,Al.2 ⟨m,hm,rfl⟩,(lR _ _ _).trans e⟩)
 have hxk:r x<r k.ID:=by
  rcases aCn h.rk ha with e | e
  · exact AJ e hkx
  · exact e
 have hpar:∀ n∈N,(mvN k.ID y.aa n).aa≠0→r (mvN k.ID y.aa n).aa<r n.ID:=fun n hn hz=>by
  unfold mvN at hz ⊢
  split
  · rename_i e
    rw [Az e] at hz
    have hz:y.aa≠0:=hz
    have:=hf1 y hy hz
    rw [hyx] at this
    show r y.aa<r n.ID
    rw [e]; omega
  · rename_i e
    rw [An e] at hz
    exact hf1 n hn hz
 have hpas:∀ n∈N,(mvN k.ID y.aa n).aa=0∨∃ m∈N.map (mvN k.ID y.aa),m.ID=(mvN k.ID y.aa n).aa:=fun n hn=>by
  apply hin
  unfold mvN
  split
  · exact hf2 y hy
  · exact hf2 n hn
 have hrk:Rk (N.map (mvN k.ID y.aa)) x r:=fun m hm hx hz=>by
  obtain ⟨n,hn,rfl⟩:=himg m hm
  rw [lR]
  exact hpar n hn hz
 refine ⟨⟨⟨by rw [Aw]; exact h.ok.ln,fun m hm=>?_,hso,fun m hm=>?_⟩,?_,fun m hm=>?_,fun m hm _=>?_,hrk,.inl ⟨fun m hm hz=>?_,fun m hm=>?_⟩⟩,fun hb=>?_⟩
 · obtain ⟨n,hn,rfl⟩:=himg m hm
   rw [lR]; exact h.ok.ra n hn
 · obtain ⟨n,hn,rfl⟩:=himg m hm
   unfold mvN
   split
   · exact h.ok.pa y hy
   · exact h.ok.pa n hn
 · exact ⟨_,Al.2 ⟨y,hy,rfl⟩,(lR _ _ _).trans hyx⟩
 · obtain ⟨n,hn,rfl⟩:=himg m hm
   have:=h.ra n hn
   unfold mvN
   split <;> exact this
 · obtain ⟨n,hn,rfl⟩:=himg m hm
   exact hpas n hn
 · obtain ⟨n,hn,rfl⟩:=himg m hm
   rw [lR]
   exact hpar n hn hz
 · obtain ⟨n,hn,rfl⟩:=himg m hm
   exact hpas n hn
 · have hkm:mvN k.ID y.aa k∈N.map (mvN k.ID y.aa):=Al.2 ⟨k,hk,rfl⟩
   have e1:(mvN k.ID y.aa k).aa=y.aa:=by unfold mvN; rw [Az rfl]
   have h1:=aB9 hso hkm (by rw [lR]; exact hkx) (by rw [lR]; exact hb)
   rw [e1] at h1
   have hyr:=h.ok.ra y hy
   by_cases hz:y.aa=0
   · rcases aCo h1 with e | ⟨m,hm,e⟩
     · omega
     · obtain ⟨n,hn,rfl⟩:=himg m hm
       rw [lR] at e
       have:=h.ok.ra n hn; omega
   · have h2:=hf1 y hy hz
     rw [hyx] at h2
     rcases aCn hrk h1 with e | e
     · rw [e] at h2; omega
     · omega
end Go.Fn
open Go Go.IL
namespace Go.Fn
structure BS (K:Int) (N:List Nd) (E:List Int):Prop where
 kp:0≤K∧K≤24
 ln:N.length≤24
 el:(E.length:Int)≤K
 so:N.Pairwise (fun a b=>a.ID<b.ID)
 ra:∀ n∈N,1≤n.ID∧n.ID≤1048576
 en:∀ n∈N,(n.ag=true↔n.ID∈E)
 nd:E.Nodup
 es:∀ e∈E,∃ n∈N,n.ID=e
theorem FV.bs {K:Int} {st:Fs} (h:FV K st):BS K st.ai st.ak:=⟨h.kp.2,h.ln,h.el,h.so,fun n hn=>(h.ra n hn).1,h.en,h.nd,h.es⟩
theorem fv_hung {K:Int} {N:List Nd} {E:List Int} {g:Nd→Nd} (b:BS K N E) (h:Hung N g):FV K ⟨24,K,N.map g,E⟩:=by
 have himg:∀ m∈N.map g,∃ n∈N,m=g n:=fun m hm=>by
  obtain ⟨n,hn,e⟩:=Al.1 hm
  exact ⟨n,hn,e.symm⟩
 have hin:∀ p:Int,(∃ m∈N,m.ID=p)→∃ m∈N.map g,m.ID=p:=fun p ⟨m,hm,e⟩=>⟨_,Al.2 ⟨m,hm,rfl⟩,(h.id m).trans e⟩
 refine ⟨rfl,⟨rfl,b.kp⟩,by show (N.map g).length≤24; rw [Aw]; exact b.ln,b.el,?_,fun m hm=>?_,fun m hm=>?_,h.rk,fun m hm=>?_,b.nd,fun e he=>hin e (b.es e he)⟩
 · show (N.map g).Pairwise _
   rw [Bo]
   exact b.so.imp (fun hab=>by rw [h.id,h.id]; exact hab)
 · obtain ⟨n,hn,rfl⟩:=himg m hm
   rw [h.id]
   exact ⟨b.ra n hn,h.ra n hn⟩
 · obtain ⟨n,hn,rfl⟩:=himg m hm
   exact (h.pa n hn).imp id (hin _)
 · obtain ⟨n,hn,rfl⟩:=himg m hm
   rw [h.id,h.cl]
   exact b.en n hn
end Go.Fn
open Go Go.IL
namespace Go.Fn
end Go.Fn
open List renaming countP_append → DF,countP_cons → Du,countP_le_length → Dm,countP_singleton → DS,getElem?_cons_succ → CE,nodup_append → CW
open _root_ renaming cond_false → FI
open Go Go.IL
namespace Go.Fn
abbrev AC:=aJ
abbrev AS:=bA
inductive mJ (C:List AC):Int→List Nat→Prop
 | nil:mJ C (-1) []
 | cons {a:Nat} {c:AC} {sp:List Nat} (h:C[a]? = some c) (hl:c.ah=false) (t:mJ C c.aj sp):mJ C (a:Int) (a::sp)
structure vM (A:AS) (sp:List Nat):Prop where
 len:A.Cells.length≤64
 odd:∀ c∈A.Cells,(c.ah=true→c.aj=0)∧(c.ah=false→c.al=0)
 ch:mJ A.Cells A.Free sp
 nd:sp.Nodup
 used:A.Used=(A.Cells.countP (fun c=>c.ah):Nat)
 all:A.Cells.countP (fun c=>c.ah)+sp.length=A.Cells.length
 cov:∀ (i:Nat) (c:AC),A.Cells[i]? = some c→c.ah=false→i∈sp
theorem mJ.place {C:List AC}:∀ {a:Int} {sp:List Nat},mJ C a sp → -1≤a∧a<(C.length:Int)∨a = -1
 | _,_,.nil=>.inr rfl
 | _,_,.cons h _ _=>.inl (by have:=(Ah.1 h).1; omega)
theorem mJ.ok {C:List AC} {a:Int} {sp:List Nat} (h:mJ C a sp) : -1≤a∧(a<(C.length:Int))∨a = -1:=h.place
theorem mJ.lt {C:List AC} {a:Int} {sp:List Nat} (h:mJ C a sp) (i:Nat) (hi:i∈sp):∃ c,C[i]? = some c∧c.ah=false∧∃ r,mJ C c.aj r:=by
 induction h with
 | nil=>cases hi
 | @cons a c sp h hl t ih =>
   rcases Av.1 hi with rfl | hi
   · exact ⟨c,h,hl,sp,t⟩
   · exact ih hi
theorem aD2 {A:AS} {n:Int} (h : -1≤n) (h2:n<(A.Cells.length:Int)):iJ A n=some true:=by
 unfold iJ
 rw [bndD,bndD,bndD,Ai h,Ai h2]; rfl
theorem aCL {A:AS} {n:Int} {sp:List Nat} (h:mJ A.Cells n sp):iJ A n=some true:=by
 cases h with
 | nil=>exact aD2 (by decide) (by omega)
 | cons h _ _=>have:=(Ah.1 h).1; exact aD2 (by omega) (by omega)
theorem aDj {A:AS} {sp:List Nat} (h:vM A sp) {i:Nat} {c:AC} (hc:A.Cells[i]? = some c):kS A c=some false:=by
 unfold kS
 cases hl:c.ah with
 | true =>
   rw [show ((!true) == true)=false from rfl,gdff,bnoS,bndD]; rfl
 | false =>
   obtain ⟨c',h1,_,r,h2⟩:=h.ch.lt i (h.cov i c hc hl)
   rw [hc] at h1
   injection h1 with h1
   subst h1
   rw [show ((!false) == true)=true from rfl,gdtt,aCL h2,bnoS,bndD]; rfl
theorem aD7 {A:AS} {sp:List Nat} (h:vM A sp) (r:List AC):∀ (p:List AC) (f:Nat),A.Cells=p++r→r.length<f→bN A.Cells A f (p.length:Int)=some (-1):=by
 have hlen:=h.len
 induction r with
 | nil =>
   intro p f h1 hf
   obtain ⟨f,rfl⟩:∃ g,f=g+1:=⟨f-1,by simp at hf; omega⟩
   rw [AR] at h1
   rw [bN,bndD,h1,rE,bX]
 | cons c r ih =>
   intro p f h1 hf
   obtain ⟨f,rfl⟩:∃ g,f=g+1:=⟨f-1,by simp at hf; omega⟩
   have hc:A.Cells[p.length]? = some c:=by rw [h1,Bs (AL _)]; simp
   rw [bN,bndD,pB h1,dA,kH h1,bnoS,aDj h hc,bnoS,bX,bndD,w_at h1 (by omega)]
   exact ih (p++[c]) f (jX h1) (by simpa using hf)
theorem odd_no {A:AS} {sp:List Nat} (h:vM A sp) {c:AC} (hc:c∈A.Cells):rJ c=some false:=by
 obtain ⟨h1,h2⟩:=h.odd c hc
 unfold rJ
 cases hl:c.ah with
 | true=>rw [dA,bndD,h1 hl]; rfl
 | false=>rw [bX,bndD,h2 hl]; rfl
theorem noodd_L {A:AS} {sp:List Nat} (h:vM A sp) (r:List AC):∀ (p:List AC) (f:Nat),A.Cells=p++r→r.length<f→bQ A.Cells f (p.length:Int)=some (-1):=by
 have hlen:=h.len
 induction r with
 | nil =>
   intro p f h1 hf
   obtain ⟨f,rfl⟩:∃ g,f=g+1:=⟨f-1,by simp at hf; omega⟩
   rw [AR] at h1
   rw [bQ,bndD,h1,rE,bX]
 | cons c r ih =>
   intro p f h1 hf
   obtain ⟨f,rfl⟩:∃ g,f=g+1:=⟨f-1,by simp at hf; omega⟩
   rw [bQ,bndD,pB h1,dA,kH h1,bnoS,odd_no h (by rw [h1]; simp),bnoS,bX,bndD,w_at h1 (by omega)]
   exact ih (p++[c]) f (jX h1) (by simpa using hf)
theorem aF6 {l:List Int} (hl:l.length≤1000000) {v:Int} (r:List Int):∀ (p:List Int) (f:Nat),l=p++r→v ∉ r→r.length<f→dW l v f (p.length:Int)=some (-1):=by
 induction r with
 | nil =>
   intro p f h1 _ hf
   obtain ⟨f,rfl⟩:∃ g,f=g+1:=⟨f-1,by simp at hf; omega⟩
   rw [AR] at h1
   rw [dW,bndD,h1,rE,bX]
 | cons c r ih =>
   intro p f h1 hv hf
   obtain ⟨f,rfl⟩:∃ g,f=g+1:=⟨f-1,by simp at hf; omega⟩
   rw [dW,bndD,pB h1,dA,kH h1,bnoS,bndD,Aj (fun e=>hv (by simp [e])),bX,bndD,w_at h1 hl]
   exact ih (p++[c]) f (jX h1) (fun hm=>hv (by simp [hm])) (by simpa using hf)
theorem aB3 {l:List Int} (hl:l.length≤1000000) {v:Int} (hv:v ∉ l):cS l v=some false:=by
 unfold cS jA
 have h:=aF6 hl l [] fuel rfl hv (fB (by omega))
 have h:dW l v fuel 0=some (-1):=h
 rw [h,bnoS,bndD]; rfl
def toI (l:List Nat):List Int:=l.map fun (n:Nat)=>(n:Int)
theorem toI_mem {l:List Nat} {n:Nat}:(n:Int)∈toI l↔n∈l:=by
 unfold toI
 rw [Al]
 exact ⟨fun ⟨m,h1,h2⟩=>by rw [←Int.ofNat.inj h2]; exact h1,fun h=>⟨n,h,rfl⟩⟩
theorem chain_L {A:AS} (hlen:A.Cells.length≤64) {a:Int} {sp:List Nat} (h:mJ A.Cells a sp):∀ (done:List Nat) (f:Nat),(done++sp).Nodup→done.length+sp.length≤64→sp.length<f→fP A f (toI done) a=some (toI (done++sp),true):=by
 induction h with
 | nil =>
   intro done f _ _ hf
   obtain ⟨f,rfl⟩:∃ g,f=g+1:=⟨f-1,by simp at hf; omega⟩
   rw [fP,bndD,Ai rfl,dA,AR]
 | @cons a c sp h hl t ih =>
   intro done f hn hd hf
   obtain ⟨f,rfl⟩:∃ g,f=g+1:=⟨f-1,by simp at hf; omega⟩
   have hnm:(a:Int) ∉ toI done:=fun hm=>by
    have h1:=toI_mem.1 hm
    have:=(CW.1 hn).2.2 a h1 a (by simp)
    exact this rfl
   have hdl:(toI done).length=done.length:=by unfold toI; simp
   simp at hd
   rw [fP,bndD,Aj (by omega),bX,eE,h,bnoS,hl,Cg,gdtt,aB3 (by omega) hnm,bnoS,bndD,Bool.or_self,bX,nL (by simp; omega) (by simp; omega),bnoS,bnoS]
   have:=ih (done++[a]) f (by simpa using hn) (by simp; omega) (by simp at hf; omega)
   rw [show toI (done++[a])=toI done++[(a:Int)] by unfold toI; simp] at this
   rw [this,AG]; rfl
theorem count_L {A:AS} {sp:List Nat} (h:vM A sp) (r:List AC):∀ (p:List AC) (f:Nat),A.Cells=p++r→r.length<f→iO A f (p.countP (fun c=>c.ah):Nat) (p.length:Int)=some 0:=by
 have hlen:=h.len
 induction r with
 | nil =>
   intro p f h1 hf
   obtain ⟨f,rfl⟩:∃ g,f=g+1:=⟨f-1,by simp at hf; omega⟩
   rw [AR] at h1
   have hspl:sp.length≤64:=by have:=h.all; omega
   have hch:mD A=some (toI sp,true):=chain_L hlen h.ch [] fuel (by simpa using h.nd) (by simpa using hspl) (fB (by omega))
   have hul:=h.used
   have hal:=h.all
   have htl:(toI sp).length=sp.length:=by unfold toI; simp
   have hw:Ag .i64 (((A.Cells.countP (fun c=>c.ah):Nat):Int)+(((toI sp,true):List Int×Bool).1.length:Int))=((A.Cells.countP (fun c=>c.ah):Nat):Int)+((toI sp).length:Int):=w64 (show _≤((A.Cells.countP (fun c=>c.ah):Nat):Int)+((toI sp).length:Int) by omega) (show ((A.Cells.countP (fun c=>c.ah):Nat):Int)+((toI sp).length:Int)≤_ by omega)
   rw [←h1]
   rw [iO,bndD,rE,bX,hch,bnoS,bndD,Ai (show ((A.Cells.countP (fun c=>c.ah):Nat):Int)=A.Used from hul.symm),bndD,bndD,hw,bndD,bndD,Ai (show ((A.Cells.countP (fun c=>c.ah):Nat):Int)+((toI sp).length:Int)=(A.Cells.length:Int) by omega)]
   rfl
 | cons c r ih =>
   intro p f h1 hf
   obtain ⟨f,rfl⟩:∃ g,f=g+1:=⟨f-1,by simp at hf; omega⟩
   have hpc:p.countP (fun c=>c.ah)≤p.length:=Dm
   have hpl:p.length≤64:=by rw [h1] at hlen; simp at hlen; omega
   have:=ih (p++[c]) f (jX h1) (by simpa using hf)
   rw [DF,DS] at this
   rw [iO,bndD,pB h1,dA,kH h1,bnoS,bndD,bndD,bndD,w_at h1 (by omega),w64 (by omega) (by omega)]
   cases hl:c.ah with
   | true =>
     rw [hl] at this
     rw [dA]
     exact this
   | false =>
     rw [hl] at this
     rw [bX]
     exact this
theorem vV {A:AS} {sp:List Nat} (h:vM A sp):mR A=some 0:=by
 have hlen:=h.len
 have h1:=aD7 h A.Cells [] fuel rfl (fB (by omega))
 have h2:=noodd_L h A.Cells [] fuel rfl (fB (by omega))
 have h1:dZ A.Cells A=some (-1):=h1
 have h2:eJ A.Cells=some (-1):=h2
 unfold mR
 rw [bndD,Aj (by omega),bX,aCL h.ch,bnoS,AO,bX]
 unfold dQ
 rw [h1,bnoS,bndD,show decide ((0:Int) ≤ -1)=false from rfl,bnoS]
 unfold mI eA
 rw [bX,h2,bnoS,bndD,show decide ((0:Int) ≤ -1)=false from rfl,bnoS,bX]
 exact count_L h A.Cells [] fuel rfl (fB (by omega))
def mO:List AC→Nat→List Nat
 | [],_=>[]
 | c::r,i=>bif c.ah then i::mO r (i+1) else mO r (i+1)
theorem live_L {A:AS} (hlen:A.Cells.length≤64) (r:List AC):∀ (p:List AC) (acc:List Int) (f:Nat),A.Cells=p++r→r.length<f→acc.length≤p.length→jK A f acc (p.length:Int)=some (acc++toI (mO r p.length)):=by
 induction r with
 | nil =>
   intro p acc f h1 hf _
   obtain ⟨f,rfl⟩:∃ g,f=g+1:=⟨f-1,by simp at hf; omega⟩
   rw [AR] at h1
   rw [jK,bndD,h1,rE,bX]; simp [mO,toI]
 | cons c r ih =>
   intro p acc f h1 hf ha
   obtain ⟨f,rfl⟩:∃ g,f=g+1:=⟨f-1,by simp at hf; omega⟩
   have hpl:p.length≤64:=by rw [h1] at hlen; simp at hlen; omega
   rw [jK,bndD,pB h1,dA,kH h1,bnoS,bndD,w_at h1 (by omega)]
   show _=some (acc++toI (bif c.ah then p.length::mO r (p.length+1) else mO r (p.length+1)))
   cases hl:c.ah with
   | true =>
     rw [dA,cond_true,nL (by simp; omega) (by simp; omega),bnoS]
     rw [bndD,ih (p++[c]) _ f (jX h1) (by simpa using hf) (by simp; omega),AG,Be]; rfl
   | false =>
     rw [bX,FI,ih (p++[c]) _ f (jX h1) (by simpa using hf) (by simp; omega),Be]; rfl
theorem aEH {A:AS} {sp:List Nat} (h:vM A sp):oU A=some (toI (mO A.Cells 0)):=by
 unfold oU
 rw [vV h,bnoS,bndD,Ai rfl,AO,bX]
 have:=live_L h.len A.Cells [] [] fuel rfl (fB (by have:=h.len; omega)) (AL _)
 exact this
theorem xF:∀ {l:List AC} {i p:Nat},p∈mO l i↔i≤p∧∃ c,l[p-i]? = some c∧c.ah=true
 | [],i,p=>by simp [mO]
 | c :: r,i,p=>by
   have ih:=xF (l:=r) (i:=i+1) (p:=p)
   have hstep:(i≤p∧∃ d,(c::r)[p-i]? = some d∧d.ah=true)↔(p=i∧c.ah=true)∨(i+1≤p∧∃ d,r[p-(i+1)]? = some d∧d.ah=true):=by
    constructor
    · rintro ⟨h1,d,h2,h3⟩
      by_cases hp:p=i
      · left
        rw [hp,FM] at h2
        injection h2 with h2
        exact ⟨hp,by rw [h2]; exact h3⟩
      · right
        rw [show p-i=(p-(i+1))+1 by omega,CE] at h2
        exact ⟨by omega,d,h2,h3⟩
    · rintro (⟨h1,h2⟩ | ⟨h1,d,h2,h3⟩)
      · exact ⟨by omega,c,by rw [h1,FM]; rfl,h2⟩
      · exact ⟨by omega,d,by rw [show p-i=(p-(i+1))+1 by omega,CE]; exact h2,h3⟩
   rw [hstep,←ih]
   show p∈(bif c.ah then i::mO r (i+1) else mO r (i+1))↔_
   cases hl:c.ah with
   | true=>rw [cond_true]; simp
   | false=>rw [FI]; simp
theorem sU:∀ (l:List AC) (i:Nat),(mO l i).Nodup
 | [],_=>by simp [mO]
 | c :: r,i=>by
   have ih:=sU r (i+1)
   show (bif c.ah then i::mO r (i+1) else mO r (i+1)).Nodup
   cases c.ah with
   | true =>
     rw [cond_true,Bm]
     exact ⟨fun hm=>by have:=(xF.1 hm).1; omega,ih⟩
   | false=>rw [FI]; exact ih
theorem tM:∀ (l:List AC) (i:Nat),(mO l i).length=l.countP (fun c=>c.ah)
 | [],_=>rfl
 | c::r,i=>by
   have ih:=tM r (i+1)
   rw [Du]
   show (bif c.ah then i::mO r (i+1) else mO r (i+1)).length=_
   cases c.ah with
   | true=>rw [cond_true,AV,ih]; simp
   | false=>rw [FI,ih]; simp
end Go.Fn
open Bool renaming and_self → Fy
open List renaming getD_eq_getElem?_getD → AE,getElem?_append_left → AK,getElem?_set_ne → AB,getElem?_set_self → Ax,length_set → Bv,mem_or_eq_of_mem_set → Dq,nil_append → BL
open Go Go.IL
namespace Go.Fn
theorem aGI {l:List AC} (h:l.length≤1000):eF l=some l:=by
 unfold eF
 rw [nL (by simp; omega) (by simp; omega),bnoS,BL,zH (fun e=>by rw [e])]
theorem aD5 {A:AS} (h:A.Cells.length≤64):jQ A=some (A.Cells,A.Free,A.Used):=by
 unfold jQ
 rw [aGI (by omega),bnoS]
theorem aBO {C:List AC} {i:Nat} {c c':AC} (h:C[i]? = some c):(C.set i c').countP (fun c=>c.ah)+(if c.ah=true then 1 else 0)=C.countP (fun c=>c.ah)+(if c'.ah=true then 1 else 0):=by
 obtain ⟨hlt,hg⟩:=Ah.1 h
 have e:C=C.take i++c::C.drop (i+1):=by
  conv=>lhs; rw [←AX i C]
  rw [Dp hlt,hg]
 have e2:C.set i c'=C.take i++c'::C.drop (i+1):=by
  conv=>lhs; rw [e]
  rw [Dh _ _ (by rw [Bj]; omega),Bj,show i-min i C.length=0 by omega]; rfl
 rw [e2]
 conv=>rhs; rw [e]
 simp only [DF,Du]
 omega
theorem mJ.set {C:List AC} {a:Int} {sp:List Nat} (h:mJ C a sp) {p:Nat} (hp:p ∉ sp) (c:AC):mJ (C.set p c) a sp:=by
 induction h with
 | nil=>exact .nil
 | @cons a d sp h hl t ih =>
   have hpa:p≠a:=fun e=>hp (by simp [e])
   exact .cons (by rw [AB hpa]; exact h) hl (ih (fun hm=>hp (by simp [hm])))
theorem mJ.app {C:List AC} {a:Int} {sp:List Nat} (h:mJ C a sp) (D:List AC):mJ (C++D) a sp:=by
 induction h with
 | nil=>exact .nil
 | @cons a d sp h hl t ih =>
   exact .cons (by rw [AK (Ah.1 h).1]; exact h) hl ih
def qQ (A:AS) (p:Nat):AS:=⟨A.Cells.set p ⟨false,0,A.Free⟩,(p:Int),A.Used-1⟩
theorem aEG {A:AS} {p:Nat} {c:AC} (hlen:A.Cells.length≤64) (h:A.Cells[p]? = some c) (hl:c.ah=true):lK A (p:Int)=some true:=by
 have hlt:=(Ah.1 h).1
 unfold lK
 rw [bndD,bndD,bndD,Ai (show (0:Int)≤(p:Int) by omega),Ai (show (p:Int)<(A.Cells.length:Int) by omega),Fy,Cg,gdtt,eE,h,bnoS,bndD,hl]; rfl
theorem give_ok {A:AS} {sp:List Nat} (h:vM A sp) {p:Nat} {c:AC} (hp:A.Cells[p]? = some c) (hl:c.ah=true):nV A (p:Int)=some (qQ A p,0)∧vM (qQ A p) (p::sp):=by
 have hlen:=h.len
 have hlt:=(Ah.1 hp).1
 have hcs:=aBO (c':=⟨false,0,A.Free⟩) hp
 rw [hl] at hcs
 have hcs:(A.Cells.set p ⟨false,0,A.Free⟩).countP (fun c=>c.ah)+1=A.Cells.countP (fun c=>c.ah):=by simpa using hcs
 have hu:=h.used
 have hal:=h.all
 have hnm:p ∉ sp:=fun hm=>by
  obtain ⟨c',h1,h2,_⟩:=h.ch.lt p hm
  rw [hp] at h1
  injection h1 with h1
  rw [h1,h2] at hl; cases hl
 refine ⟨?_,?_⟩
 · unfold nV
   rw [aD5 hlen,bnoS,vV h,bnoS,bndD,Ai rfl,AO,bX,aEG hlen hp hl,bnoS,AO,bX,eE,hp,bnoS,As,hp,bnoS,bndD,bndD]
   show some ((⟨A.Cells.set p ⟨false,0,A.Free⟩,(p:Int),Ag .i64 (A.Used-1)⟩:AS),(0:Int))=_
   rw [w64 (by omega) (by omega)]; rfl
 · constructor
   · show (A.Cells.set p _).length≤64; rw [Bv]; exact hlen
   · intro d hd
     rcases Dq hd with hd | hd
     · exact h.odd d hd
     · rw [hd]; exact ⟨fun h=>(by cases h),fun _=>rfl⟩
   · exact .cons (c:=⟨false,0,A.Free⟩) (by show (A.Cells.set p _)[p]? = _; rw [Ax hlt]) rfl (h.ch.set hnm _)
   · exact Bm.2 ⟨hnm,h.nd⟩
   · show A.Used-1=((A.Cells.set p _).countP (fun c=>c.ah):Nat)
     omega
   · show (A.Cells.set p _).countP (fun c=>c.ah)+(p::sp).length=(A.Cells.set p _).length
     rw [Bv,AV]; omega
   · intro i d hd hdl
     by_cases hip:p=i
     · subst hip; simp
     · have hd:(A.Cells.set p _)[i]? = some d:=hd
       rw [AB hip] at hd
       exact Bi _ (h.cov i d hd hdl)
def takeS (A:AS) (v:Int):List Nat→AS
 | []=>⟨A.Cells++[⟨true,v,0⟩],A.Free,A.Used+1⟩
 | a::_=>⟨A.Cells.set a ⟨true,v,0⟩,(A.Cells.getD a default).aj,A.Used+1⟩
def takeP (A:AS):List Nat→Nat
 | []=>A.Cells.length
 | a::_=>a
theorem aDi {A:AS} {sp:List Nat} (h:vM A sp) (v:Int) (hu:A.Used<64):nU A v=some (takeS A v sp,(takeP A sp:Int),0)∧vM (takeS A v sp) sp.tail∧(takeS A v sp).Cells[takeP A sp]? = some ⟨true,v,0⟩∧(∀ i,i≠takeP A sp→(takeS A v sp).Cells[i]? = A.Cells[i]?)∧(∀ c,A.Cells[takeP A sp]? = some c→c.ah=false)∧takeP A sp<64:=by
 have hlen:=h.len
 have hus:=h.used
 have hal:=h.all
 cases sp with
 | nil =>
   have hfree:A.Free = -1:=by
    have hch:=h.ch
    generalize A.Free=F at hch
    cases hch; rfl
   have hal:A.Cells.countP (fun c=>c.ah)=A.Cells.length:=by simpa using hal
   have hl64:A.Cells.length<64:=by omega
   refine ⟨?_,?_,?_,?_,?_,?_⟩
   · unfold nU
     rw [aD5 hlen,bnoS,vV h,bnoS,bndD,Ai rfl,AO,bX,bndD,Aj (by omega),bX,bndD,bndD]
     show (bif decide (A.Free = -1) then _ else _)=_
     rw [Ai hfree,dA]
     show (bno (app 24 A.Cells [(⟨true,v,0⟩:AC)]) fun x10=>some ((⟨x10,A.Free,Ag .i64 (A.Used+1)⟩:AS),(A.Cells.length:Int),(0:Int)))=_
     rw [nL (by simp; omega) (by simp; omega),bnoS,w64 (by omega) (by omega)]; rfl
   · constructor
     · show (A.Cells++[_]).length≤64; simp; omega
     · intro d hd
       rcases AT.1 hd with hd | hd
       · exact h.odd d hd
       · rw [Cm.1 hd]; exact ⟨fun _=>rfl,fun h=>(by cases h)⟩
     · exact h.ch.app _
     · exact h.nd
     · show A.Used+1=((A.Cells++[(⟨true,v,0⟩:AC)]).countP (fun c=>c.ah):Nat)
       rw [DF,DS]; simp; omega
     · show (A.Cells++[(⟨true,v,0⟩:AC)]).countP (fun c=>c.ah)+0=(A.Cells++[(⟨true,v,0⟩:AC)]).length
       rw [DF,DS,Be,hal]; simp
     · intro i d hd hdl
       have hd:(A.Cells++[(⟨true,v,0⟩:AC)])[i]? = some d:=hd
       by_cases hi:i<A.Cells.length
       · rw [AK hi] at hd
         exact h.cov i d hd hdl
       · rw [Bs (by omega)] at hd
         have:=Cn hd
         rw [Cm.1 this] at hdl; cases hdl
   · show (A.Cells++[_])[A.Cells.length]? = _
     rw [Bs (AL _)]; simp
   · intro i hi
     show (A.Cells++[_])[i]? = _
     have hi:i≠A.Cells.length:=hi
     by_cases hlt:i<A.Cells.length
     · rw [AK hlt]
     · rw [Cb (by simp; omega),Cb (by omega)]
   · intro c hc
     have hc:A.Cells[A.Cells.length]? = some c:=hc
     simp at hc
   · exact hl64
 | cons a sp =>
   have hch:=h.ch
   generalize hF:A.Free=F at hch
   cases hch with
   | @cons _ c _ hc hcl t =>
     have hlt:=(Ah.1 hc).1
     have hgd:A.Cells.getD a default=c:=by rw [AE,hc]; rfl
     have hcs:=aBO (c':=⟨true,v,0⟩) hc
     rw [hcl] at hcs
     have hcs:(A.Cells.set a ⟨true,v,0⟩).countP (fun c=>c.ah)=A.Cells.countP (fun c=>c.ah)+1:=by simpa using hcs
     have hnd:=Bm.1 h.nd
     simp at hal
     refine ⟨?_,?_,?_,?_,?_,?_⟩
     · unfold nU
       rw [aD5 hlen,bnoS,vV h,bnoS,bndD,Ai rfl,AO,bX,bndD,Aj (by omega),bX,bndD,bndD]
       show (bif decide (A.Free = -1) then _ else _)=_
       rw [hF,Aj (by omega),bX,eE,hc,bnoS,As,hc,bnoS,bnoS,bnoS,bndD]
       show some ((⟨A.Cells.set a ⟨true,v,0⟩,c.aj,Ag .i64 (A.Used+1)⟩:AS),(a:Int),(0:Int))=some ((⟨A.Cells.set a ⟨true,v,0⟩,(A.Cells.getD a default).aj,A.Used+1⟩:AS),(a:Int),0)
       rw [w64 (by omega) (by omega),hgd]
     · constructor
       · show (A.Cells.set a _).length≤64; rw [Bv]; exact hlen
       · intro d hd
         rcases Dq hd with hd | hd
         · exact h.odd d hd
         · rw [hd]; exact ⟨fun _=>rfl,fun h=>(by cases h)⟩
       · show mJ (A.Cells.set a _) (A.Cells.getD a default).aj sp
         rw [hgd]; exact t.set hnd.1 _
       · exact hnd.2
       · show A.Used+1=((A.Cells.set a _).countP (fun c=>c.ah):Nat)
         omega
       · show (A.Cells.set a _).countP (fun c=>c.ah)+sp.length=(A.Cells.set a _).length
         rw [Bv]; omega
       · intro i d hd hdl
         have hd:(A.Cells.set a _)[i]? = some d:=hd
         by_cases hia:a=i
         · subst hia
           rw [Ax hlt] at hd
           injection hd with hd
           rw [←hd] at hdl; cases hdl
         · rw [AB hia] at hd
           exact (Av.1 (h.cov i d hd hdl)).resolve_left (fun e=>hia e.symm)
     · show (A.Cells.set a _)[a]? = _
       rw [Ax hlt]
     · intro i hi
       have hi:i≠a:=hi
       show (A.Cells.set a _)[i]? = _
       rw [AB (fun e=>hi e.symm)]
     · intro d hd
       have hd:A.Cells[a]? = some d:=hd
       rw [hc] at hd
       injection hd with hd
       rw [←hd]; exact hcl
     · show a<64; omega
end Go.Fn
open List renaming erase_cons_head → DY,getLast?_cons_cons → EC,mem_of_mem_erase → DT
open Go Go.IL
namespace Go.Fn
abbrev Nk:=aI
def jF (ns:List Nk):Int→List Nat→Prop
 | a,[]=>a = -1
 | a,p::l=>a=(p:Int)∧∃ n,ns[p]? = some n∧jF ns n.next l
theorem jF.same {ns ns':List Nk}:∀ {l:List Nat} {a:Int},(∀ q∈l,∀ n,ns[q]? = some n→∃ n',ns'[q]? = some n'∧n'.next=n.next)→jF ns a l→jF ns' a l
 | [],_,_,h=>h
 | p::l,a,hs,⟨h1,n,h2,h3⟩=>by
   obtain ⟨n',g1,g2⟩:=hs p (by simp) n h2
   exact ⟨h1,n',g1,by rw [g2]; exact h3.same fun q hq=>hs q (by simp [hq])⟩
theorem jF.other {ns:List Nk} {a:Int} {l:List Nat} (h:jF ns a l) {p:Nat} (hp:p ∉ l) (n:Nk):jF (ns.set p n) a l :=
 h.same fun q hq m hm=>⟨m,by rw [AB (show p≠q from fun e=>hp (by rw [e]; exact hq))]; exact hm,rfl⟩
theorem jF.keep {ns:List Nk} {p:Nat} {n n':Nk} (hp:ns[p]? = some n) (hn:n'.next=n.next) {a:Int} {l:List Nat} (h:jF ns a l):jF (ns.set p n') a l:=by
 refine h.same fun q hq m hm=>?_
 by_cases e:p=q
 · subst e
   rw [hp] at hm
   injection hm with hm
   exact ⟨n',by rw [Ax (Ah.1 hp).1],by rw [←hm]; exact hn⟩
 · exact ⟨m,by rw [AB e]; exact hm,rfl⟩
theorem jF.mem {ns:List Nk}:∀ {l:List Nat} {a:Int},jF ns a l→∀ p∈l,∃ n,ns[p]? = some n
 | q::l,a,⟨_,n,h2,h3⟩,p,hp=>by
   rcases Av.1 hp with rfl | hp
   · exact ⟨n,h2⟩
   · exact h3.mem p hp
theorem jF.cut {ns:List Nk} {p q:Nat} {np nq:Nk} (hp:ns[p]? = some np) (hq:ns[q]? = some nq) {l2:List Nat}:∀ {l1:List Nat} {a:Int},jF ns a (l1++q::p::l2)→(l1++q::p::l2).Nodup →
 jF (ns.set q { nq with next:=np.next }) a (l1++q::l2)
 | [],a,⟨h1,n,h2,h3,m,h4,h5⟩,hnd=>by
   rw [hp] at h4
   injection h4 with h4
   subst h4
   have hnd:(q::p::l2).Nodup:=hnd
   have hq2:q ∉ l2:=fun hm=>(Bm.1 hnd).1 (by simp [hm])
   exact ⟨h1,{ nq with next:=np.next },by rw [Ax (Ah.1 hq).1],h5.other hq2 _⟩
 | b::l1,a,⟨h1,n,h2,h3⟩,hnd=>by
   have hnd:(b::(l1++q::p::l2)).Nodup:=hnd
   have hbq:q≠b:=fun e=>(Bm.1 hnd).1 (by simp [e])
   exact ⟨h1,n,by rw [AB hbq]; exact h2,jF.cut hp hq h3 (Bm.1 hnd).2⟩
theorem seek {ns:List Nk} (hlen:ns.length=64) {p:Nat} {room keep:Int} {C:List AC} {F U first:Int} {cl:List Int} {np:Nk} (hp:ns[p]? = some np) {l2:List Nat}:∀ (l1:List Nat) (q:Nat) (nq:Nk) (f:Nat),ns[q]? = some nq→jF ns nq.next (l1++p::l2)→p ∉ l1→l1.length<f →
 ∃ (r:Nat) (nr:Nk),(q::l1).getLast? = some r∧ns[r]? = some nr∧eW (p:Int) room keep C F U ns first cl f q=some (room,keep,C,F,U,ns.set r { nr with next:=np.next },first,cl)
 | [],q,nq,f+1,hq,h,_,_=>by
   obtain ⟨h1,_⟩:=h
   refine ⟨q,nq,rfl,hq,?_⟩
   rw [eW,hq,bnoS,bndD,Ai h1,AO,bX,eE,hp,bnoS,As,hp,bnoS,bnoS,bndD]
 | b::l1,q,nq,f+1,hq,⟨h1,nb,h2,h3⟩,hn,hf=>by
   have hpb:p≠b:=fun e=>hn (by simp [e])
   obtain ⟨r,nr,g1,g2,g3⟩:=seek hlen hp l1 b nb f h2 h3 (fun hm=>hn (by simp [hm])) (by simpa using hf)
   refine ⟨r,nr,by rw [EC]; exact g1,g2,?_⟩
   rw [eW,hq,bnoS,bndD,h1,Aj (show ¬(b:Int)=(p:Int) by omega),Ba,dA,bnoS,h1,eE,h2,bnoS,As]
   exact g3
theorem seek1 {ns:List Nk} (hlen:ns.length=64) {p:Nat} {room keep:Int} {C:List AC} {F U first:Int} {cl:List Int} {np:Nk} (hp:ns[p]? = some np) {l2:List Nat}:∀ (l1:List Nat) (q:Nat) (nq:Nk) (f:Nat),ns[q]? = some nq→jF ns nq.next (l1++p::l2)→p ∉ l1→l1.length<f →
 ∃ (r:Nat) (nr:Nk),(q::l1).getLast? = some r∧ns[r]? = some nr∧eV (p:Int) room keep C F U ns first cl f q=some (room,keep,C,F,U,ns.set r { nr with next:=np.next },first,cl)
 | [],q,nq,f+1,hq,h,_,_=>by
   obtain ⟨h1,_⟩:=h
   refine ⟨q,nq,rfl,hq,?_⟩
   rw [eV,hq,bnoS,bndD,Ai h1,AO,bX,eE,hp,bnoS,As,hp,bnoS,bnoS,bndD]
 | b::l1,q,nq,f+1,hq,⟨h1,nb,h2,h3⟩,hn,hf=>by
   have hpb:p≠b:=fun e=>hn (by simp [e])
   obtain ⟨r,nr,g1,g2,g3⟩:=seek1 hlen hp l1 b nb f h2 h3 (fun hm=>hn (by simp [hm])) (by simpa using hf)
   refine ⟨r,nr,by rw [EC]; exact g1,g2,?_⟩
   rw [eV,hq,bnoS,bndD,h1,Aj (show ¬(b:Int)=(p:Int) by omega),Ba,dA,bnoS,h1,eE,h2,bnoS,As]
   exact g3
def upI:Option Nat→Int
 | none=>-1
 | some p=>(p:Int)
def nK (ns:List Nk) (first:Int):Af Nat→Int
 | none=>first
 | some p=>(ns.getD p default).first
theorem mA {ns:List Nk} {first:Int} {p:Nat} {n:Nk} (h:ns[p]? = some n):nK ns first (some p)=n.first:=by
 show (ns.getD p default).first=_
 rw [AE,h]; rfl
structure Lk (ns:List Nk) (first:Int) (hd:Af Nat→Prop) (kids:Af Nat→List Nat):Prop where
 ch:∀ u,hd u→jF ns (nK ns first u) (kids u)
 nd:∀ u,hd u→(kids u).Nodup
 dj:∀ u v p,hd u→hd v→p∈kids u→p∈kids v→u=v
 at':∀ p,hd (some p)→∃ n,ns[p]? = some n
def zM (n:Nk):Int×Int×Int×Bool:=(n.id,n.up,n.weight,n.closed)
def nM (ns:List Nk) (q:Nat):Af (Int×Int×Int×Bool):=(ns[q]?).map zM
theorem sW {ns:List Nk} {p:Nat} {n n':Nk} (hp:ns[p]? = some n) (hv:zM n'=zM n) (q:Nat):nM (ns.set p n') q=nM ns q:=by
 unfold nM
 by_cases e:p=q
 · subst e
   rw [Ax (Ah.1 hp).1,hp]
   show some (zM n')=some (zM n)
   rw [hv]
 · rw [AB e]
def oS (kids:Af Nat→List Nat) (u:Af Nat) (p:Nat):Af Nat→List Nat:=fun v=>if v=u then (kids u).erase p else kids v
theorem aE6 {l1 l2:List Nat} {p:Nat} (h:p ∉ l1):(l1++p::l2).erase p=l1++l2:=by
 rw [List.erase_append_right _ h,DY]
theorem aDm {l:List Nat} {p:Nat} (h:p∈l) (hn:l.Nodup):∃ l1 l2,l=l1++p::l2∧p ∉ l1:=by
 obtain ⟨l1,l2,rfl⟩:=DE h
 exact ⟨l1,l2,rfl,fun hm=>(CW.1 hn).2.2 p hm p (by simp) rfl⟩
theorem yZ {l:List Nat} {r:Nat} (h:l.getLast? = some r):∃ m,l=m++[r]:=by
 obtain ⟨m,hm⟩:=List.getLast?_eq_some_iff.1 h
 exact ⟨m,hm⟩
theorem Lk.skip {ns:List Nk} {first:Int} {hd:Af Nat→Prop} {kids:Af Nat→List Nat} (h:Lk ns first hd kids) {u:Af Nat} (hu:hd u) {p r:Nat} {np nr:Nk} {m l2:List Nat} (hk:kids u=m++r::p::l2) (hp:ns[p]? = some np) (hr:ns[r]? = some nr) :
 Lk (ns.set r { nr with next:=np.next }) first hd (oS kids u p):=by
 have hnd:=h.nd u hu
 rw [hk] at hnd
 have hpm:p ∉ m++[r]:=fun hm=>by
  have:(m++[r]++p::l2).Nodup:=by simpa using hnd
  exact (CW.1 this).2.2 p hm p (by simp) rfl
 have her:(kids u).erase p=m++r::l2:=by
  rw [hk,show m++r::p::l2=(m++[r])++p::l2 by simp,aE6 hpm]; simp
 have hf:∀ v,nK (ns.set r { nr with next:=np.next }) first v=nK ns first v:=fun v=>by
  cases v with
  | none=>rfl
  | some q =>
    show ((ns.set r _).getD q default).first=(ns.getD q default).first
    rw [AE,AE]
    by_cases e:r=q
    · subst e
      rw [Ax (Ah.1 hr).1,hr]; rfl
    · rw [AB e]
 have hsub:∀ v q,q∈oS kids u p v→q∈kids v:=fun v q hq=>by
  unfold oS at hq
  split at hq
  · rename_i e; rw [e]; exact DT hq
  · exact hq
 refine ⟨fun v hv=>?_,fun v hv=>?_,fun v w q hv hw h1 h2=>h.dj v w q hv hw (hsub v q h1) (hsub w q h2),fun q hq=>?_⟩
 · rw [hf]
   have hc:=h.ch v hv
   unfold oS
   by_cases e:v=u
   · rw [Az e,her]
     rw [e,hk] at hc
     rw [e]
     exact hc.cut hp hr hnd
   · rw [An e]
     refine hc.other (fun hm=>e ?_) _
     exact h.dj v u r hv hu hm (by rw [hk]; simp)
 · unfold oS
   split
   · exact (h.nd u hu).erase p
   · exact h.nd v hv
 · obtain ⟨n,hn⟩:=h.at' q hq
   by_cases e:r=q
   · subst e
     exact ⟨_,Ax (Ah.1 hr).1⟩
   · exact ⟨n,by rw [AB e]; exact hn⟩
end Go.Fn
open List renaming mem_range → DO,range → Bw,set_set → Eo
open Go Go.IL
namespace Go.Fn
theorem xA {α:Type} [DecidableEq α]:∀ {l m:List α},l.Nodup→(∀ x∈l,x∈m)→l.length≤m.length
 | [],_,_,_=>CX _
 | x::l,m,hn,hs=>by
   have hn:=Bm.1 hn
   have hx:=hs x (by simp)
   have:=xA (l:=l) (m:=m.erase x) hn.2 (fun y hy=>(EY (by rintro rfl; exact hn.1 hy)).2 (hs y (by simp [hy])))
   rw [Ex hx] at this
   have:0<m.length:=DI hx
   rw [AV]; omega
theorem aFm {l:List Nat} {n:Nat} (hn:l.Nodup) (h:∀ p∈l,p<n):l.length≤n:=by
 have:=xA (m:=Bw n) hn (fun p hp=>DO.2 (h p hp))
 rwa [List.length_range] at this
theorem Lk.size {ns:List Nk} {first:Int} {hd:Af Nat→Prop} {kids:Af Nat→List Nat} (hlen:ns.length=64) (h:Lk ns first hd kids) {u:Af Nat} (hu:hd u):(kids u).length≤64 :=
 aFm (h.nd u hu) fun p hp=>by
  obtain ⟨n,hn⟩:=(h.ch u hu).mem p hp
  have:=(Ah.1 hn).1
  omega
theorem Lk.behead0 {ns:List Nk} {first:Int} {hd:Af Nat→Prop} {kids:Af Nat→List Nat} (h:Lk ns first hd kids) (hu:hd none) {p:Nat} {np:Nk} {l2:List Nat} (hk:kids none=p::l2) (hp:ns[p]? = some np):Lk ns np.next hd (oS kids none p):=by
 have her:(kids none).erase p=l2:=by rw [hk,DY]
 have hsub:∀ v q,q∈oS kids none p v→q∈kids v:=fun v q hq=>by
  unfold oS at hq
  split at hq
  · rename_i e; rw [e]; exact DT hq
  · exact hq
 refine ⟨fun v hv=>?_,fun v hv=>?_,fun v w q hv hw h1 h2=>h.dj v w q hv hw (hsub v q h1) (hsub w q h2),h.at'⟩
 · have hc:=h.ch v hv
   unfold oS
   cases v with
   | none =>
     rw [Az rfl,her]
     rw [hk] at hc
     obtain ⟨_,n,h2,h3⟩:=hc
     rw [hp] at h2
     injection h2 with h2
     rw [h2]; exact h3
   | some q=>rw [An (by simp)]; exact hc
 · unfold oS
   split
   · exact (h.nd none hu).erase p
   · exact h.nd v hv
theorem Lk.behead1 {ns:List Nk} {first:Int} {hd:Af Nat→Prop} {kids:Af Nat→List Nat} (h:Lk ns first hd kids) {q:Nat} (hu:hd (some q)) {p:Nat} {np nq:Nk} {l2:List Nat} (hk:kids (some q)=p::l2) (hp:ns[p]? = some np) (hq:ns[q]? = some nq) :
 Lk (ns.set q { nq with first:=np.next }) first hd (oS kids (some q) p):=by
 have her:(kids (some q)).erase p=l2:=by rw [hk,DY]
 have hlt:=(Ah.1 hq).1
 have hsub:∀ v r,r∈oS kids (some q) p v→r∈kids v:=fun v r hr=>by
  unfold oS at hr
  split at hr
  · rename_i e; rw [e]; exact DT hr
  · exact hr
 refine ⟨fun v hv=>?_,fun v hv=>?_,fun v w r hv hw h1 h2=>h.dj v w r hv hw (hsub v r h1) (hsub w r h2),fun r hr=>?_⟩
 · have hc:=h.ch v hv
   unfold oS
   by_cases e:v=some q
   · subst e
     rw [Az rfl,her,mA (n:={ nq with first:=np.next }) (by rw [Ax hlt])]
     rw [hk] at hc
     obtain ⟨_,n,h2,h3⟩:=hc
     rw [hp] at h2
     injection h2 with h2
     refine jF.keep hq (by rfl) ?_
     rw [h2]; exact h3
   · rw [An e]
     have hf:nK (ns.set q { nq with first:=np.next }) first v=nK ns first v:=by
      cases v with
      | none=>rfl
      | some r =>
        show ((ns.set q _).getD r default).first=(ns.getD r default).first
        rw [AE,AE,AB (fun h=>e (by rw [h]))]
     rw [hf]
     exact hc.keep hq (by rfl)
 · unfold oS
   split
   · exact (h.nd (some q) hu).erase p
   · exact h.nd v hv
 · obtain ⟨n,hn⟩:=h.at' r hr
   by_cases e:q=r
   · subst e
     exact ⟨_,Ax hlt⟩
   · exact ⟨n,by rw [AB e]; exact hn⟩
theorem aAj {ns:List Nk} {first:Int} {hd:Af Nat→Prop} {kids:Af Nat→List Nat} (hlen:ns.length=64) (h:Lk ns first hd kids) {u:Af Nat} (hu:hd u) {p:Nat} {np:Nk} (hp:ns[p]? = some np) (hup:np.up=upI u) (hm:p∈kids u)
 (room keep:Int) (C:List AC) (F U:Int) (cl:List Int):∃ ns' first',gN (p:Int) room keep C F U ns first cl=some (room,keep,C,F,U,ns',first',cl)∧ns'.length=64∧Lk ns' first' hd (oS kids u p)∧∀ q,nM ns' q=nM ns q:=by
 have hsz:=h.size hlen hu
 obtain ⟨l1,l2,hk,hn⟩:=aDm hm (h.nd u hu)
 have hc:=h.ch u hu
 rw [hk] at hc
 have hl1:l1.length≤64:=by rw [hk] at hsz; simp at hsz; omega
 unfold gN
 rw [eE,hp,bnoS,chk,Az hlen,As,hp,bnoS,bndD,hup]
 cases u with
 | none =>
   rw [show decide (upI none = -1)=true from rfl,dA,bndD]
   cases l1 with
   | nil =>
     obtain ⟨h1,_⟩:=hc
     have h1:first=(p:Int):=h1
     rw [Ai h1,AO,bX,bnoS,bnoS]
     exact ⟨ns,np.next,rfl,hlen,h.behead0 hu hk hp,fun q=>rfl⟩
   | cons b l1 =>
     obtain ⟨h1,nb,h2,h3⟩:=hc
     have h1:first=(b:Int):=h1
     have hpb:p≠b:=fun e=>hn (by simp [e])
     rw [h1,Aj (show ¬(b:Int)=(p:Int) by omega),Ba,dA,eE,h2,bnoS,As]
     obtain ⟨r,nr,g1,g2,g3⟩:=seek hlen (room:=room) (keep:=keep) (C:=C) (F:=F) (U:=U) (first:=(b:Int)) (cl:=cl) hp l1 b nb fuel h2 h3 (fun hm=>hn (by simp [hm])) (fB (by simp at hl1; omega))
     obtain ⟨m,hmm⟩:=yZ g1
     refine ⟨ns.set r { nr with next:=np.next },(b:Int),g3,by rw [Bv]; exact hlen,?_,sW g2 (by rfl)⟩
     rw [←h1]
     exact h.skip hu (m:=m) (l2:=l2) (by rw [hk,hmm]; simp) hp g2
 | some q =>
   obtain ⟨nq,hq⟩:=h.at' q hu
   have hqi:decide (upI (some q) = -1)=false:=Aj (show ¬(q:Int) = -1 by omega)
   have hfq:nK ns first (some q)=nq.first:=mA hq
   rw [hfq] at hc
   rw [hqi,bX,show upI (some q)=(q:Int) from rfl,eE,hq,bnoS,As,hq,bnoS,bndD]
   cases l1 with
   | nil =>
     obtain ⟨h1,_⟩:=hc
     rw [Ai h1,AO,bX,bnoS,bnoS,bnoS,bndD]
     exact ⟨_,first,rfl,by rw [Bv]; exact hlen,h.behead1 hu hk hp hq,sW hq (by rfl)⟩
   | cons b l1 =>
     obtain ⟨h1,nb,h2,h3⟩:=hc
     have hpb:p≠b:=fun e=>hn (by simp [e])
     rw [h1,Aj (show ¬(b:Int)=(p:Int) by omega),Ba,dA,bnoS,h1,eE,h2,bnoS,As]
     obtain ⟨r,nr,g1,g2,g3⟩:=seek1 hlen (room:=room) (keep:=keep) (C:=C) (F:=F) (U:=U) (first:=first) (cl:=cl) hp l1 b nb fuel h2 h3 (fun hm=>hn (by simp [hm])) (fB (by simp at hl1; omega))
     obtain ⟨m,hmm⟩:=yZ g1
     exact ⟨ns.set r { nr with next:=np.next },first,g3,by rw [Bv]; exact hlen,h.skip hu (m:=m) (l2:=l2) (by rw [hk,hmm]; simp) hp g2,sW g2 (by rfl)⟩
def sL (kids:Af Nat→List Nat) (u:Af Nat) (p:Nat):Af Nat→List Nat:=fun v=>if v=u then p::kids u else kids v
theorem aD1 {ns:List Nk} {first:Int} {hd:Af Nat→Prop} {kids:Af Nat→List Nat} (h:Lk ns first hd kids) {u:Af Nat} (hu:hd u) {p:Nat} (hp:∀ v,hd v→p ∉ kids v):∀ v w r,hd v→hd w→r∈sL kids u p v→r∈sL kids u p w→v=w:=by
 have key:∀ v r,r∈sL kids u p v→(v=u∧r=p)∨r∈kids v:=fun v r hr=>by
  unfold sL at hr
  split at hr
  · rename_i e
    rcases Av.1 hr with hr | hr
    · exact .inl ⟨e,hr⟩
    · exact .inr (by rw [e]; exact hr)
  · exact .inr hr
 intro v w r hv hw h1 h2
 rcases key v r h1 with ⟨a1,a2⟩ | a
 · rcases key w r h2 with ⟨b1,b2⟩ | b
   · rw [a1,b1]
   · exact AJ (a2 ▸ b) (hp w hw)
 · rcases key w r h2 with ⟨b1,b2⟩ | b
   · exact AJ (b2 ▸ a) (hp v hv)
   · exact h.dj v w r hv hw a b
theorem aD0 {ns:List Nk} {first:Int} {hd:Af Nat→Prop} {kids:Af Nat→List Nat} (h:Lk ns first hd kids) {u:Af Nat} (hu:hd u) {p:Nat} (hp:∀ v,hd v→p ∉ kids v):∀ v,hd v→(sL kids u p v).Nodup:=by
 intro v hv
 unfold sL
 split
 · exact Bm.2 ⟨hp u hu,h.nd u hu⟩
 · exact h.nd v hv
def seenUp (ns ns':List Nk) (p:Nat) (u:Af Nat):Prop:=(∀ q,q≠p→nM ns' q=nM ns q)∧∀ n,ns[p]? = some n→nM ns' p=some (n.id,upI u,n.weight,n.closed)
theorem aEg {ns:List Nk} {first:Int} {hd:Af Nat→Prop} {kids:Af Nat→List Nat} (hlen:ns.length=64) (h:Lk ns first hd kids) {u:Af Nat} (hu:hd u) {p:Nat} {np:Nk} (hp:ns[p]? = some np) (hpk:∀ v,hd v→p ∉ kids v) (hpu:u≠some p)
 (room keep:Int) (C:List AC) (F U:Int) (cl:List Int):∃ ns' first',gE (p:Int) (upI u) room keep C F U ns first cl=some (room,keep,C,F,U,ns',first',cl)∧ns'.length=64∧Lk ns' first' hd (sL kids u p)∧seenUp ns ns' p u:=by
 have hlt:=(Ah.1 hp).1
 unfold gE
 rw [bndD]
 cases u with
 | none =>
   rw [show decide (upI none = -1)=true from rfl,dA,chk,Az hlen,eE,hp,bnoS,As,hp,bnoS,bndD,eE,Ax hlt,bnoS,bnoS,bndD,Eo]
   refine ⟨_,_,rfl,by rw [Bv]; exact hlen,?_,?_⟩
   · have hoth:∀ (n:Nk) v,hd v→jF (ns.set p n) (nK ns first v) (kids v):=fun n v hv=>(h.ch v hv).other (hpk v hv) n
     refine ⟨fun v hv=>?_,aD0 h hu hpk,aD1 h hu hpk,fun q hq=>?_⟩
     · unfold sL
       cases v with
       | none =>
         rw [Az rfl]
         exact ⟨rfl,_,Ax hlt,hoth _ none hv⟩
       | some q =>
         rw [An (by simp)]
         have hf:nK (ns.set p (⟨np.id,upI none,np.first,first,np.weight,np.closed⟩:Nk)) (p:Int) (some q)=nK ns first (some q):=by
          show ((ns.set p _).getD q default).first=(ns.getD q default).first
          rw [AE,AE]
          by_cases e:p=q
          · subst e; rw [Ax hlt,hp]; rfl
          · rw [AB e]
         rw [hf]
         exact hoth _ (some q) hv
     · obtain ⟨n,hn⟩:=h.at' q hq
       by_cases e:p=q
       · subst e; exact ⟨_,Ax hlt⟩
       · exact ⟨n,by rw [AB e]; exact hn⟩
   · refine ⟨fun q hq=>?_,fun n hn=>?_⟩
     · unfold nM; rw [AB (fun e=>hq e.symm)]
     · rw [hp] at hn
       injection hn with hn
       subst hn
       unfold nM; rw [Ax hlt]; rfl
 | some q =>
   have hqp:q≠p:=fun e=>hpu (by rw [e])
   obtain ⟨nq,hq⟩:=h.at' q hu
   have hltq:=(Ah.1 hq).1
   have hq2:∀ n:Nk,(ns.set p n)[q]? = some nq:=fun n=>by rw [AB (fun e=>hqp e.symm)]; exact hq
   rw [Aj (show ¬upI (some q) = -1 from fun e=>by have:(q:Int) = -1:=e; omega),bX,show upI (some q)=(q:Int) from rfl,eE,hq,bnoS,chk,Az hlen,As,hq,bnoS,eE,hp,bnoS,As,hp,bnoS,bndD,eE,Ax hlt,bnoS,bnoS,bndD,Eo,hq2,bnoS,bndD]
   refine ⟨_,_,rfl,by rw [Bv,Bv]; exact hlen,?_,?_⟩
   · refine ⟨fun v hv=>?_,aD0 h hu hpk,aD1 h hu hpk,fun r hr=>?_⟩
     · have hc:∀ (n:Nk),jF (ns.set p n) (nK ns first v) (kids v):=fun n=>(h.ch v hv).other (hpk v hv) n
       unfold sL
       by_cases e:v=some q
       · subst e
         rw [Az rfl,mA (Ax (by rw [Bv]; exact hltq))]
         refine ⟨rfl,_,by rw [AB hqp,Ax hlt],?_⟩
         refine jF.keep (hq2 _) (by rfl) ?_
         have:=hc (⟨np.id,(q:Int),np.first,nq.first,np.weight,np.closed⟩:Nk)
         rw [mA hq] at this
         exact this
       · rw [An e]
         have hf:nK ((ns.set p (⟨np.id,(q:Int),np.first,nq.first,np.weight,np.closed⟩:Nk)).set q (⟨nq.id,nq.up,(p:Int),nq.next,nq.weight,nq.closed⟩:Nk)) first v=nK ns first v:=by
          cases v with
          | none=>rfl
          | some r =>
            have hqr:q≠r:=fun h=>e (by rw [h])
            show (((ns.set p _).set q _).getD r default).first=(ns.getD r default).first
            rw [AE,AE,AB hqr]
            by_cases e2:p=r
            · subst e2; rw [Ax hlt,hp]; rfl
            · rw [AB e2]
         rw [hf]
         exact jF.keep (hq2 _) (by rfl) (hc _)
     · obtain ⟨n,hn⟩:=h.at' r hr
       by_cases e:q=r
       · subst e; exact ⟨_,Ax (by rw [Bv]; exact hltq)⟩
       · rw [AB e]
         by_cases e2:p=r
         · subst e2; exact ⟨_,Ax hlt⟩
         · exact ⟨n,by rw [AB e2]; exact hn⟩
   · refine ⟨fun r hr=>?_,fun n hn=>?_⟩
     · rw [sW (hq2 _) (by rfl)]
       unfold nM; rw [AB (fun e=>hr e.symm)]
     · rw [hp] at hn
       injection hn with hn
       subst hn
       rw [sW (hq2 _) (by rfl)]
       unfold nM; rw [Ax hlt]; rfl
end Go.Fn
open List renaming eq_nil_iff_forall_not_mem → Cx
open Nat renaming le_trans → BE
open _root_ renaming congrArg → AH
open Go Go.IL
namespace Go.Fn
def gB (A:AS) (p:Nat):Prop:=∃ c,A.Cells[p]? = some c∧c.ah=true
def hdK (A:AS):Af Nat→Prop
 | none=>True
 | some p=>gB A p
def idP (ns:List Nk) (p:Nat):Int:=(ns.getD p default).id
def idU (ns:List Nk):Af Nat→Int
 | none=>0
 | some p=>idP ns p
def asN (ns:List Nk) (n:Nk) (u:Af Nat):Nd:=⟨n.id,idU ns u,n.weight,n.closed⟩
structure RL (A:AS) (sp:List Nat) (ns:List Nk) (first:Int) (kids:Af Nat→List Nat) (N:List Nd):Prop where
 ga:vM A sp
 len:ns.length=64
 lk:Lk ns first (hdK A) kids
 up:∀ p,gB A p→∃ u n,hdK A u∧ns[p]? = some n∧n.up=upI u∧p∈kids u∧asN ns n u∈N
 kid:∀ u p,hdK A u→p∈kids u→gB A p
 bw:∀ m∈N,∃ p n u,gB A p∧hdK A u∧ns[p]? = some n∧n.up=upI u∧m=asN ns n u
 inj:∀ p q,gB A p→gB A q→idP ns p=idP ns q→p=q
 so:N.Pairwise (fun a b=>a.ID<b.ID)
theorem aBT {u v:Af Nat} (h:upI u=upI v):u=v:=by
 cases u with
 | none=>cases v with
   | none=>rfl
   | some q=>have:(-1:Int)=(q:Int):=h; omega
 | some p=>cases v with
   | none=>have:(p:Int) = -1:=h; omega
   | some q=>have:(p:Int)=(q:Int):=h; congr 1; omega
theorem dL {ns:List Nk} {p:Nat} {n:Nk} (h:ns[p]? = some n):idP ns p=n.id:=by
 unfold idP
 rw [AE,h]; rfl
theorem nY {ns ns':List Nk} {q:Nat} (h:nM ns' q=nM ns q) {n:Nk} (hn:ns[q]? = some n):∃ n',ns'[q]? = some n'∧zM n'=zM n:=by
 unfold nM at h
 rw [hn] at h
 cases h2:ns'[q]? with
 | none=>rw [h2] at h; cases h
 | some n'=>rw [h2] at h; injection h with h; exact ⟨n',rfl,h⟩
theorem aDf {ns ns':List Nk} {q:Nat} (h:nM ns' q=nM ns q) (hn:ns[q]? = none):ns'[q]? = none:=by
 unfold nM at h
 rw [hn] at h
 cases h2:ns'[q]? with
 | none=>rfl
 | some n'=>rw [h2] at h; cases h
theorem zL {ns ns':List Nk} {q:Nat} (h:nM ns' q=nM ns q):idP ns' q=idP ns q:=by
 cases hn:ns[q]? with
 | none =>
   have:=aDf h hn
   unfold idP
   rw [AE,AE,hn,this]
 | some n =>
   obtain ⟨n',h1,h2⟩:=nY h hn
   rw [dL h1,dL hn]
   exact AH (·.1) h2
theorem qB {n n':Nk} (h:zM n'=zM n):n'.id=n.id∧n'.up=n.up∧n'.weight=n.weight∧n'.closed=n.closed :=
 ⟨AH (·.1) h,AH (·.2.1) h,AH (·.2.2.1) h,AH (·.2.2.2) h⟩
theorem aFu {kids:Af Nat→List Nat} {u0 u:Af Nat} {p:Nat} (hnd:(kids u0).Nodup) (hp:∀ v,p∈kids v→v=u0) (v:Af Nat) (q:Nat):q∈sL (oS kids u0 p) u p v↔(q=p∧v=u)∨(q≠p∧q∈kids v):=by
 have hdrop:∀ v,q∈oS kids u0 p v↔(q≠p∧q∈kids v):=fun v=>by
  unfold oS
  by_cases e:v=u0
  · rw [Az e,hnd.mem_erase_iff,e]
  · rw [An e]
    exact ⟨fun h=>⟨fun e2=>e (hp v (e2 ▸ h)),h⟩,fun h=>h.2⟩
 unfold sL
 by_cases e:v=u
 · rw [Az e,Av,hdrop u,e]
   constructor
   · rintro (h | h)
     · exact .inl ⟨h,rfl⟩
     · exact .inr h
   · rintro (h | h)
     · exact .inl h.1
     · exact .inr h
 · rw [An e,hdrop v]
   constructor
   · exact fun h=>.inr h
   · rintro (h | h)
     · exact AJ h.2 e
     · exact h
theorem RL.par {A:AS} {sp:List Nat} {ns:List Nk} {first:Int} {kids:Af Nat→List Nat} {N:List Nd} (h:RL A sp ns first kids N) {p:Nat} (hp:gB A p):∃ u n,hdK A u∧ns[p]? = some n∧n.up=upI u∧p∈kids u∧asN ns n u∈N∧∀ v,hdK A v→p∈kids v→v=u:=by
 obtain ⟨u,n,h1,h2,h3,h4,h5⟩:=h.up p hp
 exact ⟨u,n,h1,h2,h3,h4,h5,fun v hv hm=>h.lk.dj v u p hv h1 hm h4⟩
theorem xD {A:AS} {sp:List Nat} {ns:List Nk} {first:Int} {kids:Af Nat→List Nat} {N:List Nd} (h:RL A sp ns first kids N) (hk0:∀ u,¬hdK A u→kids u=[]) {p:Nat} (hp:gB A p) {u:Af Nat} (hu:hdK A u) (hpu:u≠some p) (room keep:Int) (cl:List Int) :
 ∃ ns' first' kids',eQ (p:Int) (upI u) room keep A.Cells A.Free A.Used ns first cl=some (room,keep,A.Cells,A.Free,A.Used,ns',first',cl)∧RL A sp ns' first' kids' (N.map (mvN (idP ns p) (idU ns u)))∧(∀ u,¬hdK A u→kids' u=[])∧(∀ q,idP ns' q=idP ns q)∧(∀ v q,q∈kids' v↔(q=p∧v=u)∨(q≠p∧q∈kids v)):=by
 obtain ⟨u0,np,a1,a2,a3,a4,a5,a6⟩:=h.par hp
 obtain ⟨ns1,first1,b1,b2,b3,b4⟩:=aAj h.len h.lk a1 a2 a3 a4 room keep A.Cells A.Free A.Used cl
 obtain ⟨np1,c1,c2⟩:=nY (b4 p) a2
 have hnd:=h.lk.nd u0 a1
 have hpk:∀ v,p∈kids v→v=u0:=fun v hm=>by
  by_cases hv:hdK A v
  · exact a6 v hv hm
  · rw [hk0 v hv] at hm; cases hm
 have hpd:∀ v,hdK A v→p ∉ oS kids u0 p v:=fun v hv hm=>by
  unfold oS at hm
  split at hm
  · exact (hnd.mem_erase_iff.1 hm).1 rfl
  · rename_i e; exact e (hpk v hm)
 obtain ⟨ns2,first2,d1,d2,d3,d4,d5⟩:=aEg b2 b3 hu c1 hpd hpu room keep A.Cells A.Free A.Used cl
 have hmem:=fun v q=>aFu (u:=u) hnd hpk v q
 have hv2:∀ q,q≠p→nM ns2 q=nM ns q:=fun q hq=>(d4 q hq).trans (b4 q)
 obtain ⟨e1,e2,e3,e4⟩:=qB c2
 have hvp:∃ n2,ns2[p]? = some n2∧n2.id=np.id∧n2.up=upI u∧n2.weight=np.weight∧n2.closed=np.closed:=by
  have:=d5 np1 c1
  unfold nM at this
  cases h2:ns2[p]? with
  | none=>rw [h2] at this; cases this
  | some n2 =>
    rw [h2] at this
    injection this with this
    refine ⟨n2,rfl,?_,?_,?_,?_⟩
    · rw [←e1]; exact AH (·.1) this
    · exact AH (·.2.1) this
    · rw [←e3]; exact AH (·.2.2.1) this
    · rw [←e4]; exact AH (·.2.2.2) this
 obtain ⟨n2,f1,f2,f3,f4,f5⟩:=hvp
 have hid:∀ q,idP ns2 q=idP ns q:=fun q=>by
  by_cases hq:q=p
  · subst hq; rw [dL f1,dL a2,f2]
  · exact zL (hv2 q hq)
 have hidU:∀ v,idU ns2 v=idU ns v:=fun v=>by
  cases v with
  | none=>rfl
  | some q=>exact hid q
 have hidp:idP ns p=np.id:=dL a2
 refine ⟨ns2,first2,_,?_,?_,?_,hid,hmem⟩
 · unfold eQ
   rw [b1,bnoS]
   show (bno (gE (p:Int) (upI u) room keep A.Cells A.Free A.Used ns1 first1 cl) _)=_
   rw [d1,bnoS]
 · refine ⟨h.ga,d2,d3,fun q hq=>?_,fun v q hv hm=>?_,fun m hm=>?_,fun q r hq hr e=>h.inj q r hq hr (by rw [←hid q,←hid r]; exact e),?_⟩
   · by_cases hqp:q=p
     · subst hqp
       refine ⟨u,n2,hu,f1,f3,(hmem u q).2 (.inl ⟨rfl,rfl⟩),?_⟩
       refine Al.2 ⟨asN ns np u0,a5,?_⟩
       unfold mvN asN
       rw [Az (show np.id=idP ns q from hidp.symm),f2,f4,f5,hidU]
     · obtain ⟨v,n,g1,g2,g3,g4,g5⟩:=h.up q hq
       obtain ⟨n',k1,k2⟩:=nY (hv2 q hqp) g2
       obtain ⟨k3,k4,k5,k6⟩:=qB k2
       refine ⟨v,n',g1,k1,k4.trans g3,(hmem v q).2 (.inr ⟨hqp,g4⟩),?_⟩
       refine Al.2 ⟨asN ns n v,g5,?_⟩
       have hne:n.id≠idP ns p:=fun e=>hqp (h.inj q p hq hp (by rw [dL g2]; exact e))
       unfold mvN asN
       rw [An hne,k3,k5,k6,hidU]
   · rcases (hmem v q).1 hm with ⟨rfl,_⟩ | ⟨_,hm⟩
     · exact hp
     · exact h.kid v q hv hm
   · obtain ⟨m0,hm0,rfl⟩:=Al.1 hm
     obtain ⟨q,n,v,g1,g2,g3,g4,rfl⟩:=h.bw m0 hm0
     by_cases hqp:q=p
     · subst hqp
       rw [a2] at g3
       injection g3 with g3
       subst g3
       refine ⟨q,n2,u,hp,hu,f1,f3,?_⟩
       unfold mvN asN
       rw [Az (show np.id=idP ns q from hidp.symm),f2,f4,f5,hidU]
     · obtain ⟨n',k1,k2⟩:=nY (hv2 q hqp) g3
       obtain ⟨k3,k4,k5,k6⟩:=qB k2
       have hne:n.id≠idP ns p:=fun e=>hqp (h.inj q p g1 hp (by rw [dL g3]; exact e))
       refine ⟨q,n',v,g1,g2,k1,k4.trans g4,?_⟩
       unfold mvN asN
       rw [An hne,k3,k5,k6,hidU]
   · rw [Bo]
     refine h.so.imp fun hab=>?_
     rw [lR,lR]; exact hab
 · intro v hv
   refine Cx.2 fun q hm=>?_
   rcases (hmem v q).1 hm with ⟨_,rfl⟩ | ⟨_,hm⟩
   · exact hv hu
   · rw [hk0 v hv] at hm; cases hm
theorem find_L {ns:List Nk} (hlen:ns.length=64) (id:Int) {l:List Nat} (hl:l.length≤64) (hs:∀ p∈l,∃ n,ns[p]? = some n) (r:List Nat):∀ (q:List Nat) (f:Nat),l=q++r→r.length<f→fL id ns (toI l) f (q.length:Int)=some (match r.find? (fun p=>decide (idP ns p=id)) with | some p=>(p:Int) | none=>-1):=by
 induction r with
 | nil =>
   intro q f h hf
   obtain ⟨f,rfl⟩:∃ g,f=g+1:=⟨f-1,by simp at hf; omega⟩
   rw [AR] at h
   rw [fL,bndD,show (toI l).length=q.length by unfold toI; rw [Aw,h],Aj (by omega),bX]; rfl
 | cons p r ih =>
   intro q f h hf
   obtain ⟨f,rfl⟩:∃ g,f=g+1:=⟨f-1,by simp at hf; omega⟩
   obtain ⟨n,hn⟩:=hs p (by rw [h]; simp)
   have hI:toI l=toI q++(p:Int)::toI r:=by rw [h]; unfold toI; simp
   have hql:(toI q).length=q.length:=by unfold toI; simp
   have hll:(toI l).length=l.length:=by unfold toI; simp
   have e1:=pB hI
   have e2:=kH hI
   have e3:=w_at hI (by omega)
   rw [hql] at e1 e2 e3
   rw [fL,bndD,e1,dA,e2,bnoS,eE,hn,bnoS,chk,Az hlen,As,hn,bnoS,bndD,List.find?_cons,dL hn]
   by_cases hid:n.id=id
   · rw [Ai hid,dA]
   · rw [Aj hid,bX,bndD,e3]
     have:=ih (q++[p]) f (by rw [h]; simp) (by simpa using hf)
     rw [show ((toI q++[(p:Int)]).length:Int)=((q++[p]).length:Int) by simp [hql]]
     exact this
theorem nI {A:AS} {p:Nat}:gB A p↔p∈mO A.Cells 0:=by
 rw [xF]
 simp [gB]
theorem aEt {A:AS} {sp:List Nat} {ns:List Nk} {first:Int} {kids:Af Nat→List Nat} {N:List Nd} (h:RL A sp ns first kids N) (id:Int) (room keep:Int) (cl:List Int) :
 (∃ p,gB A p∧idP ns p=id∧eI id room keep A.Cells A.Free A.Used ns first cl=some (p:Int))∨((∀ p,gB A p→idP ns p≠id)∧eI id room keep A.Cells A.Free A.Used ns first cl=some (-1)):=by
 have hlive:=aEH h.ga
 have hll:(mO A.Cells 0).length≤64:=by rw [tM]; exact BE Dm h.ga.len
 have hf:=find_L h.len id hll (fun p hp=>by obtain ⟨u,n,_,h2,_⟩:=h.up p (nI.2 hp); exact ⟨n,h2⟩) (mO A.Cells 0) [] fuel rfl (fB (by omega))
 have hfind:eI id room keep A.Cells A.Free A.Used ns first cl=some (match (mO A.Cells 0).find? (fun p=>decide (idP ns p=id)) with | some p=>(p:Int) | none=>-1):=by
  unfold eI
  have hA:(⟨A.Cells,A.Free,A.Used⟩:AS)=A:=rfl
  rw [hA,hlive,bnoS]
  exact hf
 rw [hfind]
 cases hc:(mO A.Cells 0).find? (fun p=>decide (idP ns p=id)) with
 | none =>
   right
   refine ⟨fun p hp e=>?_,rfl⟩
   have:=CB.1 hc p (nI.1 hp)
   exact this (Ai e)
 | some p =>
   left
   have h1:=CS hc
   have h2:=ER hc
   exact ⟨p,nI.2 h1,of_decide_eq_true h2,rfl⟩
def Up (ns:List Nk):Nat→List Nat→Prop
 | p,[]=>∃ n,ns[p]? = some n∧n.up = -1
 | p,q::l=>(∃ n,ns[p]? = some n∧n.up=(q:Int))∧Up ns q l
theorem aDh {ns:List Nk} (hlen:ns.length=64) (t:Nat):∀ (l:List Nat) (p f:Nat),Up ns p l→l.length+1<f→eR (t:Int) ns f (p:Int)=some (decide (t∈l))
 | [],p,f+2,⟨n,h1,h2⟩,_=>by
   rw [eR,bndD,Aj (by omega),Ba,dA,eE,h1,bnoS,chk,Az hlen,As,h1,bnoS,bndD,h2,Aj (by omega),bX]
   rw [eR,bndD,Ai rfl]
   simp
 | q :: l,p,f+1,⟨⟨n,h1,h2⟩,h3⟩,hf=>by
   rw [eR,bndD,Aj (by omega),Ba,dA,eE,h1,bnoS,chk,Az hlen,As,h1,bnoS,bndD,h2]
   by_cases e:q=t
   · rw [Ai (by omega),dA,Ai (by simp [e])]
   · rw [Aj (by omega),bX,aDh hlen t l q f h3 (by simpa using hf)]
     congr 1
     simp [Av,Ne.symm e]
end Go.Fn
open Nat renaming lt_succ_self → Ao
open Go Go.IL
namespace Go.Fn
theorem aD8 {A:AS} {sp:List Nat} {ns:List Nk} {first:Int} {kids:Af Nat→List Nat} {N:List Nd} (h:RL A sp ns first kids N) {p:Nat} (hp:gB A p) {n:Nk} (hn:ns[p]? = some n):∃ u,hdK A u∧n.up=upI u∧p∈kids u∧asN ns n u∈N:=by
 obtain ⟨u,m,h1,h2,h3,h4,h5⟩:=h.up p hp
 rw [hn] at h2
 injection h2 with h2
 subst h2
 exact ⟨u,h1,h3,h4,h5⟩
theorem vU {A:AS} {sp:List Nat} {ns:List Nk} {first:Int} {kids:Af Nat→List Nat} {N:List Nd} (h:RL A sp ns first kids N) (hpos:∀ m∈N,1≤m.ID) {u:Af Nat} (hu:hdK A u):idU ns u=0↔u=none:=by
 cases u with
 | none=>exact ⟨fun _=>rfl,fun _=>rfl⟩
 | some p =>
   obtain ⟨v,n,h1,h2,h3,h4,h5⟩:=h.up p hu
   have:=hpos _ h5
   have hi:idU ns (some p)=n.id:=dL h2
   exact ⟨fun e=>by have:1≤n.id:=this; omega,fun e=>by cases e⟩
theorem wT {A:AS} {sp:List Nat} {ns:List Nk} {first:Int} {kids:Af Nat→List Nat} {N:List Nd} (h:RL A sp ns first kids N) {p:Nat} (hp:gB A p) {n:Nk} (hn:ns[p]? = some n) {u:Af Nat} (hu:n.up=upI u):rC N (idP ns p)=some (idU ns u):=by
 obtain ⟨v,h1,h2,h3,h4⟩:=aD8 h hp hn
 have hv:v=u:=aBT (h2.symm.trans hu)
 subst hv
 have:=uW h.so h4
 rw [dL hn]
 exact this
theorem up_ok {A:AS} {sp:List Nat} {ns:List Nk} {first:Int} {kids:Af Nat→List Nat} {N:List Nd} (h:RL A sp ns first kids N) (hpos:∀ m∈N,1≤m.ID) {r:Int→Nat} (hr:∀ m∈N,m.aa≠0→r m.aa<r m.ID):∀ (k p:Nat),gB A p→r (idP ns p)≤k→∃ l,Up ns p l∧(∀ q∈l,gB A q)∧l.length≤k∧∀ j,l.length<j→gU N j (idP ns p)=l.map (idP ns)
 | k, p,hp,hk=>by
   obtain ⟨u,n,h1,h2,h3,h4,h5⟩:=h.up p hp
   have hpar:=wT h hp h2 h3
   cases u with
   | none =>
     refine ⟨[],⟨n,h2,h3⟩,by simp,CX _,fun j hj=>?_⟩
     obtain ⟨j,rfl⟩:∃ i,j=i+1:=⟨j-1,by simp at hj; omega⟩
     show (match rC N (idP ns p) with | some q=>if q=0 then [] else q::gU N j q | none=>[])=_
     rw [hpar]; rfl
   | some q =>
     have hne:idU ns (some q)≠0:=fun e=>by have:=(vU h hpos h1).1 e; cases this
     have hlt:r (idP ns q)<r (idP ns p):=by
      have:=hr _ h5 hne
      rw [dL h2]
      exact this
     obtain ⟨k,rfl⟩:∃ i,k=i+1:=⟨k-1,by omega⟩
     obtain ⟨l,g1,g2,g3,g4⟩:=up_ok h hpos hr k q h1 (by omega)
     refine ⟨q::l,⟨⟨n,h2,h3⟩,g1⟩,fun x hx=>?_,by simpa using g3,fun j hj=>?_⟩
     · rcases Av.1 hx with rfl | hx
       · exact h1
       · exact g2 x hx
     · obtain ⟨j,rfl⟩:∃ i,j=i+1:=⟨j-1,by simp at hj; omega⟩
       show (match rC N (idP ns p) with | some q=>if q=0 then [] else q::gU N j q | none=>[])=_
       rw [hpar]
       show (if idU ns (some q)=0 then [] else idU ns (some q)::gU N j (idU ns (some q)))=_
       rw [An hne]
       show idP ns q::gU N j (idP ns q)=idP ns q::l.map (idP ns)
       rw [g4 j (by simpa using hj)]
theorem aCC {A:AS} {sp:List Nat} {ns:List Nk} {first:Int} {kids:Af Nat→List Nat} {N:List Nd} (h:RL A sp ns first kids N) (hpos:∀ m∈N,1≤m.ID) {r:Int→Nat} (hr:∀ m∈N,m.aa≠0→r m.aa<r m.ID) (hpa:∀ m∈N,m.aa=0∨∃ x∈N,x.ID=m.aa) {p:Nat} (hp:gB A p):∃ l,Up ns p l∧(∀ q∈l,gB A q)∧l.length<N.length∧gU N N.length (idP ns p)=l.map (idP ns):=by
 obtain ⟨l,h1,h2,h3,h4⟩:=up_ok h hpos hr (r (idP ns p)) p hp (AL _)
 obtain ⟨u,n,_,g2,_,_,g5⟩:=h.up p hp
 have hid:idP ns p=n.id:=dL g2
 have hmem:∃ m∈N,m.ID=idP ns p:=⟨_,g5,hid.symm⟩
 have hj:=h4 (l.length+1) (Ao _)
 have hps:=oT h.so hr hpa (l.length+1) (idP ns p) hmem
 have hnd:=hps.1
 have hin:=hps.2
 rw [hj] at hnd hin
 have hle:(idP ns p::l.map (idP ns)).length≤(N.map (·.ID)).length:=xA hnd (fun x hx=>hin x hx)
 simp at hle
 exact ⟨l,h1,h2,by omega,h4 N.length (by omega)⟩
theorem mem_ids {A:AS} {sp:List Nat} {ns:List Nk} {first:Int} {kids:Af Nat→List Nat} {N:List Nd} (h:RL A sp ns first kids N) {l:List Nat} (hl:∀ q∈l,gB A q) {p:Nat} (hp:gB A p):p∈l↔idP ns p∈l.map (idP ns):=by
 rw [Al]
 exact ⟨fun hm=>⟨p,hm,rfl⟩,fun ⟨q,hq,e⟩=>by rw [←h.inj q p (hl q hq) hp e]; exact hq⟩
theorem aFU {A:AS} {sp:List Nat} {ns:List Nk} {first:Int} {kids:Af Nat→List Nat} {N:List Nd} (h:RL A sp ns first kids N) (hpos:∀ m∈N,1≤m.ID) (hN:N.length≤64) {r:Int→Nat} (hr:∀ m∈N,m.aa≠0→r m.aa<r m.ID) (hpa:∀ m∈N,m.aa=0∨∃ x∈N,x.ID=m.aa) {p t:Nat} (hp:gB A p) (ht:gB A t) (room keep:Int) (C:List AC) (F U:Int) (cl:List Int) :
 kQ (p:Int) (t:Int) room keep C F U ns first cl=some (decide (idP ns t∈gU N N.length (idP ns p))):=by
 obtain ⟨l,h1,h2,h3,h4⟩:=aCC h hpos hr hpa hp
 unfold kQ
 rw [aDh h.len t l p fuel h1 (fB (by omega)),h4]
 congr 1
 exact decide_eq_decide.2 (mem_ids h h2 ht)
def setN (id:Int) (w:Int) (c:Bool) (n:Nd):Nd:=if n.ID=id then ⟨n.ID,n.aa,w,c⟩ else n
theorem qE (id w:Int) (c:Bool) (n:Nd):(setN id w c n).ID=n.ID:=by unfold setN; split <;> rfl
theorem aGY {A:AS} {sp:List Nat} {ns:List Nk} {first:Int} {kids:Af Nat→List Nat} {N:List Nd} (h:RL A sp ns first kids N) {p:Nat} (hp:gB A p) {n:Nk} (hn:ns[p]? = some n) (w:Int) (c:Bool) :
 RL A sp (ns.set p (⟨n.id,n.up,n.first,n.next,w,c⟩:Nk)) first kids (N.map (setN (idP ns p) w c))∧∀ q,idP (ns.set p (⟨n.id,n.up,n.first,n.next,w,c⟩:Nk)) q=idP ns q:=by
 have hlt:=(Ah.1 hn).1
 have hid:∀ q,idP (ns.set p (⟨n.id,n.up,n.first,n.next,w,c⟩:Nk)) q=idP ns q:=fun q=>by
  by_cases e:p=q
  · subst e; rw [dL (Ax hlt),dL hn]
  · unfold idP; rw [AE,AE,AB e]
 have hidU:∀ v,idU (ns.set p (⟨n.id,n.up,n.first,n.next,w,c⟩:Nk)) v=idU ns v:=fun v=>by
  cases v with
  | none=>rfl
  | some q=>exact hid q
 have hfst:∀ v,nK (ns.set p (⟨n.id,n.up,n.first,n.next,w,c⟩:Nk)) first v=nK ns first v:=fun v=>by
  cases v with
  | none=>rfl
  | some q =>
    show ((ns.set p _).getD q default).first=(ns.getD q default).first
    rw [AE,AE]
    by_cases e:p=q
    · subst e; rw [Ax hlt,hn]; rfl
    · rw [AB e]
 refine ⟨⟨h.ga,by rw [Bv]; exact h.len,⟨fun v hv=>?_,h.lk.nd,h.lk.dj,fun q hq=>?_⟩,fun q hq=>?_,h.kid,fun m hm=>?_,fun q r hq hr e=>h.inj q r hq hr (by rw [←hid q,←hid r]; exact e),?_⟩,hid⟩
 · rw [hfst]
   exact jF.keep hn (by rfl) (h.lk.ch v hv)
 · obtain ⟨m,hm⟩:=h.lk.at' q hq
   by_cases e:p=q
   · subst e; exact ⟨_,Ax hlt⟩
   · exact ⟨m,by rw [AB e]; exact hm⟩
 · obtain ⟨u,m,h1,h2,h3,h4,h5⟩:=h.up q hq
   by_cases e:p=q
   · subst e
     rw [hn] at h2
     injection h2 with h2
     subst h2
     refine ⟨u,_,h1,Ax hlt,h3,h4,Al.2 ⟨_,h5,?_⟩⟩
     unfold setN asN
     rw [Az (show n.id=idP ns p from (dL hn).symm),hidU]
   · refine ⟨u,m,h1,by rw [AB e]; exact h2,h3,h4,Al.2 ⟨_,h5,?_⟩⟩
     have hne:m.id≠idP ns p:=fun e2=>e (h.inj p q hp hq (by rw [dL h2]; exact e2.symm))
     unfold setN asN
     rw [An hne,hidU]
 · obtain ⟨m0,hm0,rfl⟩:=Al.1 hm
   obtain ⟨q,k,u,g1,g2,g3,g4,rfl⟩:=h.bw m0 hm0
   by_cases e:p=q
   · subst e
     rw [hn] at g3
     injection g3 with g3
     subst g3
     refine ⟨p,_,u,g1,g2,Ax hlt,g4,?_⟩
     unfold setN asN
     rw [Az (show n.id=idP ns p from (dL hn).symm),hidU]
   · refine ⟨q,k,u,g1,g2,by rw [AB e]; exact g3,g4,?_⟩
     have hne:k.id≠idP ns p:=fun e2=>e (h.inj p q hp g1 (by rw [dL g3]; exact e2.symm))
     unfold setN asN
     rw [An hne,hidU]
 · rw [Bo]
   refine h.so.imp fun hab=>?_
   rw [qE,qE]; exact hab
end Go.Fn
open List renaming filter_nil → ET,map_congr_left → AU,map_cons → Am,map_id → CZ,map_map → BG,map_nil → Ay
open Go Go.IL
namespace Go.Fn
abbrev PT:=Int×Int×List aJ×Int×Int×List aI×Int×List Int
theorem coll2 {ns:List Nk} (x:Int) (T:PT) (r:List Nat):∀ (acc:List Nat) (a:Int) (f:Nat),jF ns a r→acc.length+r.length≤1000→r.length<f→fF x T ns f a (toI acc)=eH x (toI (acc++r)) fuel 0 T.1 T.2.1 T.2.2.1 T.2.2.2.1 T.2.2.2.2.1 ns T.2.2.2.2.2.2.1 T.2.2.2.2.2.2.2:=by
 induction r with
 | nil =>
   intro acc a f h _ hf
   obtain ⟨f,rfl⟩:∃ g,f=g+1:=⟨f-1,by simp at hf; omega⟩
   have h:a = -1:=h
   rw [fF,bndD,h,Ai rfl,AO,bX,AR]
 | cons p r ih =>
   intro acc a f h ha hf
   obtain ⟨f,rfl⟩:∃ g,f=g+1:=⟨f-1,by simp at hf; omega⟩
   obtain ⟨h1,n,h2,h3⟩:=h
   simp at ha
   have hal:(toI acc).length=acc.length:=by unfold toI; simp
   rw [fF,bndD,h1,Aj (by omega),Ba,dA,eE,h2,bnoS,As,h2,bnoS,nL (by simp; omega) (by simp; omega),bnoS]
   have:=ih (acc++[p]) n.next f h3 (by simp; omega) (by simpa using hf)
   rw [show toI (acc++[p])=toI acc++[(p:Int)] by unfold toI; simp] at this
   rw [this,AG]; rfl
theorem coll4 {ns:List Nk} (x:Int) (T:PT) (r:List Nat):∀ (acc:List Nat) (a:Int) (f:Nat),jF ns a r→acc.length+r.length≤1000→r.length<f→fE x T ns f a (toI acc)=eG x (toI (acc++r)) fuel 0 T.1 T.2.1 T.2.2.1 T.2.2.2.1 T.2.2.2.2.1 ns T.2.2.2.2.2.2.1 T.2.2.2.2.2.2.2:=by
 induction r with
 | nil =>
   intro acc a f h _ hf
   obtain ⟨f,rfl⟩:∃ g,f=g+1:=⟨f-1,by simp at hf; omega⟩
   have h:a = -1:=h
   rw [fE,bndD,h,Ai rfl,AO,bX,AR]
 | cons p r ih =>
   intro acc a f h ha hf
   obtain ⟨f,rfl⟩:∃ g,f=g+1:=⟨f-1,by simp at hf; omega⟩
   obtain ⟨h1,n,h2,h3⟩:=h
   simp at ha
   have hal:(toI acc).length=acc.length:=by unfold toI; simp
   rw [fE,bndD,h1,Aj (by omega),Ba,dA,eE,h2,bnoS,As,h2,bnoS,nL (by simp; omega) (by simp; omega),bnoS]
   have:=ih (acc++[p]) n.next f h3 (by simp; omega) (by simpa using hf)
   rw [show toI (acc++[p])=toI acc++[(p:Int)] by unfold toI; simp] at this
   rw [this,AG]; rfl
def uJ (ids:List Int) (d:Int) (n:Nd):Nd:=if n.ID∈ids then ⟨n.ID,d,n.ae,n.ag⟩ else n
theorem aAM (d:Int) (N:List Nd):N.map (uJ [] d)=N:=by
 conv=>rhs; rw [←CZ N]
 exact AU fun n _=>by unfold uJ; rw [An (by simp)]; rfl
theorem aA2 (a d:Int) (ids:List Int) (N:List Nd):(N.map (mvN a d)).map (uJ ids d)=N.map (uJ (a::ids) d):=by
 rw [BG]
 refine AU fun n _=>?_
 show uJ ids d (mvN a d n)=uJ (a::ids) d n
 unfold uJ
 rw [lR]
 unfold mvN
 by_cases h1:n.ID=a
 · rw [Az h1,Az (show n.ID∈a::ids by simp [h1])]
   split <;> rfl
 · rw [An h1]
   by_cases h2:n.ID∈ids
   · rw [Az h2,Az (show n.ID∈a::ids by simp [h2])]
   · rw [An h2,An (by simp [h1,h2])]
theorem gixI {l:List Nat} {q r:List Nat} {p:Nat} (h:l=q++p::r) (hl:l.length≤1000):decide ((q.length:Int)<((toI l).length:Int))=true∧gix (toI l) (q.length:Int)=some (p:Int)∧(toI l)[((q.length:Nat):Int).toNat]? = some (p:Int)∧Ag .i64 ((q.length:Int)+1)=((q++[p]).length:Int):=by
 have hI:toI l=toI q++(p:Int)::toI r:=by rw [h]; unfold toI; simp
 have hql:(toI q).length=q.length:=by unfold toI; simp
 have hll:(toI l).length=l.length:=by unfold toI; simp
 have e1:=pB hI
 have e2:=kH hI
 rw [hql] at e1 e2
 have hpl:q.length≤1000:=by rw [h] at hl; simp at hl; omega
 exact ⟨e1,e2,by rw [eE] at e2; rw [As]; exact e2,by rw [w64 (by omega) (by omega)]; simp⟩
theorem moves3 {A:AS} {sp:List Nat} {x:Nat} (hx:gB A x) (room keep:Int) (cl:List Int) {ks:List Nat} (hks:ks.length≤1000) (hal:∀ p∈ks,gB A p) (r:List Nat):∀ (q:List Nat) (f:Nat) (ns:List Nk) (first:Int) (kids:Af Nat→List Nat) (N:List Nd),ks=q++r→r.length<f→RL A sp ns first kids N→(∀ u,¬hdK A u→kids u=[]) →
 ∃ ns' first' kids',eH (x:Int) (toI ks) f (q.length:Int) room keep A.Cells A.Free A.Used ns first cl=some (room,keep,A.Cells,A.Free,A.Used,ns',first',cl)∧RL A sp ns' first' kids' (N.map (uJ ((r.filter (fun p=>decide (p≠x))).map (idP ns)) (idP ns x)))∧(∀ u,¬hdK A u→kids' u=[])∧∀ p,idP ns' p=idP ns p:=by
 induction r with
 | nil =>
   intro q f ns first kids N h hf hR h0
   obtain ⟨f,rfl⟩:∃ g,f=g+1:=⟨f-1,by simp at hf; omega⟩
   rw [AR] at h
   refine ⟨ns,first,kids,?_,by rw [ET,Ay,aAM]; exact hR,h0,fun _=>rfl⟩
   rw [eH,bndD,show (toI ks).length=q.length by unfold toI; rw [Aw,h],Aj (by omega),bX]
 | cons p r ih =>
   intro q f ns first kids N h hf hR h0
   obtain ⟨f,rfl⟩:∃ g,f=g+1:=⟨f-1,by simp at hf; omega⟩
   obtain ⟨e1,e2,e3,e4⟩:=gixI h hks
   have hp:gB A p:=hal p (by rw [h]; simp)
   rw [eH,bndD,e1,dA,e2,bnoS,e3,bnoS,bndD]
   by_cases hpx:p=x
   · subst hpx
     rw [Ai rfl,AO,bX,bndD,e4]
     obtain ⟨ns',first',kids',g1,g2,g3,g4⟩:=ih (q++[p]) f ns first kids N (by rw [h]; simp) (by simpa using hf) hR h0
     refine ⟨ns',first',kids',g1,?_,g3,g4⟩
     rw [Bz (by simp)]
     exact g2
   · rw [Aj (by omega),Ba,dA]
     obtain ⟨ns1,first1,kids1,m1,m2,m3,m4,_⟩:=xD hR h0 hp (u:=some x) hx (fun e=>hpx (by injection e with e; exact e.symm)) room keep cl
     have m1:eQ (p:Int) (x:Int) room keep A.Cells A.Free A.Used ns first cl=_:=m1
     rw [m1,bnoS,bndD,e4]
     obtain ⟨ns',first',kids',g1,g2,g3,g4⟩:=ih (q++[p]) f ns1 first1 kids1 _ (by rw [h]; simp) (by simpa using hf) m2 m3
     refine ⟨ns',first',kids',g1,?_,g3,fun y=>(g4 y).trans (m4 y)⟩
     have hmap:(r.filter (fun p=>decide (p≠x))).map (idP ns1)=(r.filter (fun p=>decide (p≠x))).map (idP ns):=AU fun y _=>m4 y
     rw [hmap,m4 x] at g2
     rw [BO (by simp [hpx]),Am,←aA2]
     exact g2
theorem moves5 {A:AS} {sp:List Nat} {x:Nat} (hx:gB A x) (room keep:Int) (cl:List Int) {ks:List Nat} (hks:ks.length≤1000) (hal:∀ p∈ks,gB A p) (r:List Nat):∀ (q:List Nat) (f:Nat) (ns:List Nk) (first:Int) (kids:Af Nat→List Nat) (N:List Nd),ks=q++r→r.length<f→RL A sp ns first kids N→(∀ u,¬hdK A u→kids u=[]) →
 ∃ ns' first' kids',eG (x:Int) (toI ks) f (q.length:Int) room keep A.Cells A.Free A.Used ns first cl=some (room,keep,A.Cells,A.Free,A.Used,ns',first',cl)∧RL A sp ns' first' kids' (N.map (uJ ((r.filter (fun p=>decide (p≠x))).map (idP ns)) (idP ns x)))∧(∀ u,¬hdK A u→kids' u=[])∧∀ p,idP ns' p=idP ns p:=by
 induction r with
 | nil =>
   intro q f ns first kids N h hf hR h0
   obtain ⟨f,rfl⟩:∃ g,f=g+1:=⟨f-1,by simp at hf; omega⟩
   rw [AR] at h
   refine ⟨ns,first,kids,?_,by rw [ET,Ay,aAM]; exact hR,h0,fun _=>rfl⟩
   rw [eG,bndD,show (toI ks).length=q.length by unfold toI; rw [Aw,h],Aj (by omega),bX]
 | cons p r ih =>
   intro q f ns first kids N h hf hR h0
   obtain ⟨f,rfl⟩:∃ g,f=g+1:=⟨f-1,by simp at hf; omega⟩
   obtain ⟨e1,e2,e3,e4⟩:=gixI h hks
   have hp:gB A p:=hal p (by rw [h]; simp)
   rw [eG,bndD,e1,dA,e2,bnoS,e3,bnoS,bndD]
   by_cases hpx:p=x
   · subst hpx
     rw [Ai rfl,AO,bX,bndD,e4]
     obtain ⟨ns',first',kids',g1,g2,g3,g4⟩:=ih (q++[p]) f ns first kids N (by rw [h]; simp) (by simpa using hf) hR h0
     refine ⟨ns',first',kids',g1,?_,g3,g4⟩
     rw [Bz (by simp)]
     exact g2
   · rw [Aj (by omega),Ba,dA]
     obtain ⟨ns1,first1,kids1,m1,m2,m3,m4,_⟩:=xD hR h0 hp (u:=some x) hx (fun e=>hpx (by injection e with e; exact e.symm)) room keep cl
     have m1:eQ (p:Int) (x:Int) room keep A.Cells A.Free A.Used ns first cl=_:=m1
     rw [m1,bnoS,bndD,e4]
     obtain ⟨ns',first',kids',g1,g2,g3,g4⟩:=ih (q++[p]) f ns1 first1 kids1 _ (by rw [h]; simp) (by simpa using hf) m2 m3
     refine ⟨ns',first',kids',g1,?_,g3,fun y=>(g4 y).trans (m4 y)⟩
     have hmap:(r.filter (fun p=>decide (p≠x))).map (idP ns1)=(r.filter (fun p=>decide (p≠x))).map (idP ns):=AU fun y _=>m4 y
     rw [hmap,m4 x] at g2
     rw [BO (by simp [hpx]),Am,←aA2]
     exact g2
end Go.Fn
open Go Go.IL
namespace Go.Fn
theorem aAX {A:AS} {sp:List Nat} {ns:List Nk} {first:Int} {kids:Af Nat→List Nat} {N:List Nd} (h:RL A sp ns first kids N) (hpos:∀ m∈N,1≤m.ID) {u v:Af Nat} (hu:hdK A u) (hv:hdK A v) (e:idU ns u=idU ns v):u=v:=by
 cases u with
 | none =>
   exact ((vU h hpos hv).1 e.symm).symm
 | some p=>cases v with
   | none=>exact (vU h hpos hu).1 e
   | some q=>rw [h.inj p q hu hv e]
theorem uK {A:AS} {sp:List Nat} {ns:List Nk} {first:Int} {kids:Af Nat→List Nat} {N:List Nd} (h:RL A sp ns first kids N) (hpos:∀ m∈N,1≤m.ID) {u:Af Nat} (hu:hdK A u) {m:Nd} (hm:m∈N):m.ID∈(kids u).map (idP ns)↔m.aa=idU ns u:=by
 obtain ⟨p,n,v,g1,g2,g3,g4,rfl⟩:=h.bw m hm
 obtain ⟨v',k1,k2,k3,k4⟩:=aD8 h g1 g3
 have hvv:v'=v:=aBT (k2.symm.trans g4)
 subst hvv
 have hid:idP ns p=n.id:=dL g3
 show n.id∈_↔idU ns v'=idU ns u
 rw [Al]
 constructor
 · rintro ⟨q,hq,e⟩
   have hqa:=h.kid u q hu hq
   have hqp:q=p:=h.inj q p hqa g1 (by rw [e,hid])
   subst hqp
   rw [h.lk.dj v' u q k1 hu k3 hq]
 · intro e
   have:v'=u:=aAX h hpos k1 hu e
   subst this
   exact ⟨p,k3,hid⟩
theorem uN {A:AS} {sp:List Nat} {ns:List Nk} {first:Int} {kids:Af Nat→List Nat} {N:List Nd} (h:RL A sp ns first kids N) (h0:∀ u,¬hdK A u→kids u=[]) (hpos:∀ m∈N,1≤m.ID) {x:Nat} (hx:gB A x) {u:Af Nat} (hu:hdK A u) (hux:u≠some x) (w:Int) (only:Bool) (room keep:Int) (cl:List Int) :
 ∃ ns' first' kids',gQ (x:Int) (upI u) w only room keep A.Cells A.Free A.Used ns first cl=some (room,keep,A.Cells,A.Free,A.Used,ns',first',cl)∧RL A sp ns' first' kids' (N.map (nQ (idP ns x) (idU ns u) w only))∧(∀ u,¬hdK A u→kids' u=[])∧∀ p,idP ns' p=idP ns p:=by
 obtain ⟨ns1,first1,kids1,m1,m2,m3,m4,m5⟩:=xD h h0 hx hu hux room keep cl
 obtain ⟨v1,n1,a1,a2,a3,a4,a5⟩:=m2.up x hx
 obtain ⟨v0,n0,b1,b2,b3,b4,b5⟩:=h.up x hx
 obtain ⟨s1,s2⟩:=aGY m2 hx a2 w n1.closed
 have hid1:∀ p,idP (ns1.set x (⟨n1.id,n1.up,n1.first,n1.next,w,n1.closed⟩:Nk)) p=idP ns p:=fun p=>(s2 p).trans (m4 p)
 -- whether it is closed
 have hcl:n1.closed=n0.closed:=by
  have hmem:=a5
  obtain ⟨m,hm,e⟩:=Al.1 hmem
  have hi:m.ID=(asN ns n0 v0).ID:=by
   have:(mvN (idP ns x) (idU ns u) m).ID=(asN ns1 n1 v1).ID:=by rw [e]
   rw [lR] at this
   rw [this]
   show n1.id=n0.id
   rw [←dL a2,←dL b2,m4]
  have hm0:=sX h.so hm b5 hi
  subst hm0
  have:(mvN (idP ns x) (idU ns u) (asN ns n0 v0)).ag=(asN ns1 n1 v1).ag:=by rw [e]
  have h2:(mvN (idP ns x) (idU ns u) (asN ns n0 v0)).ag=(asN ns n0 v0).ag:=by unfold mvN; split <;> rfl
  rw [h2] at this
  exact this.symm
 have hxid:(asN ns n0 v0).ID=idP ns x:=(dL b2).symm
 have base:∀ (o:Bool) (ids:List Int),(∀ n∈N,n.ID≠idP ns x→(n.ID∈ids↔o=true∧n.aa=idU ns u))→idP ns x ∉ ids→((N.map (mvN (idP ns x) (idU ns u))).map (setN (idP ns1 x) w n1.closed)).map (uJ ids (idP ns x))=N.map (nQ (idP ns x) (idU ns u) w o):=by
  intro o ids h1 h2
  rw [BG,BG,m4 x]
  refine AU fun n hn=>?_
  show uJ ids (idP ns x) (setN (idP ns x) w n1.closed (mvN (idP ns x) (idU ns u) n))=_
  unfold nQ
  by_cases e:n.ID=idP ns x
  · have hnn:n=asN ns n0 v0:=sX h.so hn b5 (e.trans hxid.symm)
    rw [Az e]
    unfold uJ
    rw [qE,lR,An (by rw [e]; exact h2)]
    unfold setN
    rw [lR,Az e]
    unfold mvN
    rw [Az e]
    show (⟨n.ID,idU ns u,w,n1.closed⟩:Nd)=⟨n.ID,idU ns u,w,n.ag⟩
    rw [hcl,hnn]; rfl
  · rw [An e]
    unfold uJ
    rw [qE,lR]
    have hs:setN (idP ns x) w n1.closed (mvN (idP ns x) (idU ns u) n)=n:=by
     unfold setN
     rw [lR,An e]
     unfold mvN
     rw [An e]
    rw [hs]
    by_cases hc:o=true∧n.aa=idU ns u
    · rw [Az ((h1 n hn e).2 hc),Az hc]
    · rw [An (fun hm=>hc ((h1 n hn e).1 hm)),An hc]
 unfold gQ
 rw [m1,bnoS]
 show ∃ ns' first' kids',(bno (gix ns1 (x:Int)) fun x26=>chk (ns1.length=64)<|bno (ns1[((x:Int)).toNat]?) fun x28=>bnd (ns1.set ((x:Int).toNat) (⟨x28.id,x28.up,x28.first,x28.next,w,x28.closed⟩:Nk)) fun x29=>_)=_∧_
 rw [eE,a2,bnoS,chk,Az m2.len,As,a2,bnoS,bndD]
 cases only with
 | false =>
   refine ⟨_,first1,kids1,rfl,?_,m3,hid1⟩
   have:=base false [] (fun n _ _=>by simp) (by simp)
   rw [aAM] at this
   rw [←this]
   exact s1
 | true =>
   rw [AO,bX,bndD]
   -- the kids that move
   have hks:∀ p∈kids1 u,gB A p:=fun p hp=>m2.kid u p hu hp
   have hksl:(kids1 u).length≤64:=m2.lk.size m2.len hu
   have hch:jF (ns1.set x (⟨n1.id,n1.up,n1.first,n1.next,w,n1.closed⟩:Nk)) (nK (ns1.set x (⟨n1.id,n1.up,n1.first,n1.next,w,n1.closed⟩:Nk)) first1 u) (kids1 u):=s1.lk.ch u hu
   have hids:∀ n∈N,n.ID≠idP ns x→(n.ID∈((kids1 u).filter (fun p=>decide (p≠x))).map (idP (ns1.set x (⟨n1.id,n1.up,n1.first,n1.next,w,n1.closed⟩:Nk)))↔true=true∧n.aa=idU ns u):=fun n hn hne=>by
    rw [show (true=true∧n.aa=idU ns u)↔n.aa=idU ns u from ⟨fun h=>h.2,fun h=>⟨rfl,h⟩⟩,←uK h hpos hu hn,Al,Al]
    constructor
    · rintro ⟨q,hq,e⟩
      have hq:=Bq.1 hq
      have hqx:q≠x:=of_decide_eq_true hq.2
      rcases (m5 u q).1 hq.1 with ⟨e2,_⟩ | ⟨_,hk⟩
      · exact AJ e2 hqx
      · exact ⟨q,hk,by rw [←hid1 q]; exact e⟩
    · rintro ⟨q,hq,e⟩
      have hqx:q≠x:=fun e2=>hne (by rw [←e,e2])
      exact ⟨q,Bq.2 ⟨(m5 u q).2 (.inr ⟨hqx,hq⟩),Ai hqx⟩,by rw [hid1 q]; exact e⟩
   have hnx:idP ns x ∉ ((kids1 u).filter (fun p=>decide (p≠x))).map (idP (ns1.set x (⟨n1.id,n1.up,n1.first,n1.next,w,n1.closed⟩:Nk))):=fun hm=>by
    obtain ⟨q,hq,e⟩:=Al.1 hm
    have hq:=Bq.1 hq
    have hqx:q≠x:=of_decide_eq_true hq.2
    exact hqx (h.inj q x (hks q hq.1) hx (by rw [←hid1 q]; exact e))
   have hfin:=base true _ hids hnx
   have T:PT:=(room,keep,A.Cells,A.Free,A.Used,ns1,first1,cl)
   cases u with
   | none =>
     rw [show decide (upI none = -1)=true from rfl,dA]
     obtain ⟨ns',first',kids',g1,g2,g3,g4⟩:=moves3 (sp:=sp) hx room keep cl (ks:=kids1 none) (by omega) hks (kids1 none) [] fuel _ first1 kids1 _ rfl (fB (by omega)) s1 m3
     refine ⟨ns',first',kids',?_,?_,g3,fun p=>(g4 p).trans (hid1 p)⟩
     · refine Eq.trans (coll2 (x:Int) (room,keep,A.Cells,A.Free,A.Used,ns1,first1,cl) (kids1 none) [] first1 fuel hch (by simp; omega) (fB (by omega))) ?_
       exact g1
     · rw [←hfin]
       rw [hid1 x] at g2
       exact g2
   | some q =>
     obtain ⟨nq,hq⟩:=s1.lk.at' q hu
     rw [show decide (upI (some q) = -1)=false from Aj (show ¬(q:Int) = -1 by omega),bX,show upI (some q)=(q:Int) from rfl,eE,hq,bnoS,As,hq,bnoS]
     obtain ⟨ns',first',kids',g1,g2,g3,g4⟩:=moves5 (sp:=sp) hx room keep cl (ks:=kids1 (some q)) (by omega) hks (kids1 (some q)) [] fuel _ first1 kids1 _ rfl (fB (by omega)) s1 m3
     rw [mA hq] at hch
     refine ⟨ns',first',kids',?_,?_,g3,fun p=>(g4 p).trans (hid1 p)⟩
     · refine Eq.trans (coll4 (x:Int) (room,keep,A.Cells,A.Free,A.Used,ns1,first1,cl) (kids1 (some q)) [] nq.first fuel hch (by simp; omega) (fB (by omega))) ?_
       exact g1
     · rw [←hfin]
       rw [hid1 x] at g2
       exact g2
end Go.Fn
open Go Go.IL
namespace Go.Fn
abbrev Ws:=iC
def vZ (N:List Nd) (w:Ws):Ws:=if w.dep≠0∧∀ m∈N,m.ID≠w.dep then ⟨0,16,false⟩ else w
def upN (N:List Nd) (x d:Int):List Nd:=if d≠0∧x∈gU N N.length d then N.map (mvN d ((rC N x).getD 0)) else N
def pE (N:List Nd) (x:Int) (w:Ws):List Nd:=(upN N x (vZ N w).dep).map (nQ x (vZ N w).dep (vZ N w).weight (vZ N w).only)
theorem aFh {N:List Nd} {r:Int→Nat} (hr:∀ m∈N,m.aa≠0→r m.aa<r m.ID) {k:Nat} {z x:Int} (h:x∈gU N k z):r x<r z:=wR hr k z x h
theorem uO {A:AS} {sp:List Nat} {ns:List Nk} {first:Int} {kids:Af Nat→List Nat} {N:List Nd} (h:RL A sp ns first kids N) (h0:∀ u,¬hdK A u→kids u=[]) (hpos:∀ m∈N,1≤m.ID) (hN:N.length≤64) {r:Int→Nat} (hr:∀ m∈N,m.aa≠0→r m.aa<r m.ID) (hpa:∀ m∈N,m.aa=0∨∃ x∈N,x.ID=m.aa) {x:Nat} (hx:gB A x) {u:Af Nat} (hu:hdK A u) (hux:u≠some x) (v6 w:Int) (only:Bool) (room keep:Int) (cl:List Int) :
 ∃ ns' first' kids',gR (x:Int) room keep A.Cells A.Free A.Used ns first cl (upI u) v6 w only=some (room,keep,A.Cells,A.Free,A.Used,ns',first',cl)∧RL A sp ns' first' kids' ((upN N (idP ns x) (idU ns u)).map (nQ (idP ns x) (idU ns u) w only))∧(∀ u,¬hdK A u→kids' u=[])∧∀ p,idP ns' p=idP ns p:=by
 obtain ⟨v,n,b1,b2,b3,b4,b5⟩:=h.up x hx
 unfold gR
 rw [bndD]
 cases u with
 | none =>
   rw [show decide (upI none = -1)=true from rfl,AO,show ((false == true):Bool)=false from rfl,gdff,bnoS,bndD,DP,bX]
   obtain ⟨ns',first',kids',g1,g2,g3,g4⟩:=uN h h0 hpos hx (u:=none) hu hux w only room keep cl
   refine ⟨ns',first',kids',g1,?_,g3,g4⟩
   have:upN N (idP ns x) (idU ns none)=N:=An (fun hh=>hh.1 rfl)
   rw [this]; exact g2
 | some q =>
   have hqx:q≠x:=fun e=>hux (by rw [e])
   have hne:idU ns (some q)≠0:=fun e=>by have:=(vU h hpos hu).1 e; cases this
   rw [show decide (upI (some q) = -1)=false from Aj (show ¬(q:Int) = -1 by omega),Ba,Cg,gdtt,show upI (some q)=(q:Int) from rfl,aFU h hpos hN hr hpa (p:=q) (t:=x) hu hx,bnoS,bndD,CF]
   by_cases hm:idP ns x∈gU N N.length (idP ns q)
   · rw [Ai hm,dA,eE,b2,bnoS,chk,Az h.len,As,b2,bnoS,b3]
     have hlow:=aFh hr hm
     have hvq:v≠some q:=fun e=>by
      subst e
      have hpar:(asN ns n (some q)).aa=idP ns q:=rfl
      have:=hr _ b5 (by rw [hpar]; exact hne)
      have h2:r (idP ns q)<r (idP ns x):=by rw [dL b2]; exact this
      omega
     obtain ⟨ns1,first1,kids1,m1,m2,m3,m4,m5⟩:=xD h h0 (p:=q) hu (u:=v) b1 hvq room keep cl
     rw [m1,bnoS]
     have hpos1:∀ m∈N.map (mvN (idP ns q) (idU ns v)),1≤m.ID:=fun m hm=>by
      obtain ⟨m0,hm0,rfl⟩:=Al.1 hm
      rw [lR]; exact hpos m0 hm0
     obtain ⟨ns',first',kids',g1,g2,g3,g4⟩:=uN m2 m3 hpos1 hx (u:=some q) hu hux w only room keep cl
     refine ⟨ns',first',kids',g1,?_,g3,fun p=>(g4 p).trans (m4 p)⟩
     have hpo:rC N (idP ns x)=some (idU ns v):=wT h hx b2 b3
     have hup:upN N (idP ns x) (idU ns (some q))=N.map (mvN (idP ns q) (idU ns v)):=by
      unfold upN
      rw [Az ⟨hne,hm⟩,hpo]; rfl
     have hU:idU ns1 (some q)=idU ns (some q):=m4 q
     rw [m4 x,hU] at g2
     rw [hup]; exact g2
   · rw [Aj hm,bX]
     obtain ⟨ns',first',kids',g1,g2,g3,g4⟩:=uN h h0 hpos hx (u:=some q) hu hux w only room keep cl
     refine ⟨ns',first',kids',g1,?_,g3,g4⟩
     have:upN N (idP ns x) (idU ns (some q))=N:=An (fun hh=>hm hh.2)
     rw [this]; exact g2
theorem aGA {A:AS} {sp:List Nat} {ns:List Nk} {first:Int} {kids:Af Nat→List Nat} {N:List Nd} (h:RL A sp ns first kids N) (h0:∀ u,¬hdK A u→kids u=[]) (hpos:∀ m∈N,1≤m.ID) (hN:N.length≤64) {r:Int→Nat} (hr:∀ m∈N,m.aa≠0→r m.aa<r m.ID) (hpa:∀ m∈N,m.aa=0∨∃ x∈N,x.ID=m.aa) {x:Nat} (hx:gB A x) (w:Ws) (hw:w.dep≠idP ns x) (hw0:0≤w.dep) (room keep:Int) (cl:List Int) :
 ∃ ns' first' kids',iW (x:Int) w room keep A.Cells A.Free A.Used ns first cl=some (room,keep,A.Cells,A.Free,A.Used,ns',first',cl)∧RL A sp ns' first' kids' (pE N (idP ns x) w)∧(∀ u,¬hdK A u→kids' u=[])∧∀ p,idP ns' p=idP ns p:=by
 unfold iW
 rcases aEt h w.dep room keep cl with ⟨q,f1,f2,f3⟩ | ⟨f1,f3⟩
 · have hq0:w.dep≠0:=fun e=>by
    obtain ⟨u,n,_,g2,_,_,g5⟩:=h.up q f1
    have:=hpos _ g5
    have h2:1≤n.id:=this
    rw [dL g2] at f2; omega
   have hwS:vZ N w=w:=by
    unfold vZ
    rw [An]
    rintro ⟨_,hno⟩
    obtain ⟨u,n,_,g2,_,_,g5⟩:=h.up q f1
    exact hno _ g5 (by show n.id=w.dep; rw [←dL g2]; exact f2)
   rw [f3,bnoS,bndD,Aj (show ¬(q:Int) = -1 by omega),bndD,bndD,DP,bX]
   have hux:(some q:Af Nat)≠some x:=fun e=>by injection e with e; exact hw (by rw [←f2,e])
   obtain ⟨ns',first',kids',g1,g2,g3,g4⟩:=uO h h0 hpos hN hr hpa hx (u:=some q) f1 hux w.dep w.weight w.only room keep cl
   refine ⟨ns',first',kids',g1,?_,g3,g4⟩
   unfold pE
   rw [hwS,←f2]; exact g2
 · rw [f3,bnoS,bndD,Ai rfl,bndD,bndD,CF]
   have hno:∀ m∈N,m.ID≠w.dep:=fun m hm e=>by
    obtain ⟨p,n,u,g1,_,g3,_,rfl⟩:=h.bw m hm
    exact f1 p g1 ((dL g3).trans e)
   by_cases hd:w.dep=0
   · rw [Ai hd,AO,bX]
     have hwS:vZ N w=w:=An (fun hh=>hh.1 hd)
     obtain ⟨ns',first',kids',g1,g2,g3,g4⟩:=uO h h0 hpos hN hr hpa hx (u:=none) trivial (by simp) w.dep w.weight w.only room keep cl
     refine ⟨ns',first',kids',g1,?_,g3,g4⟩
     unfold pE
     rw [hwS,hd]; exact g2
   · rw [Aj hd,Ba,dA]
     have hwS:vZ N w=⟨0,16,false⟩:=Az ⟨hd,hno⟩
     obtain ⟨ns',first',kids',g1,g2,g3,g4⟩:=uO h h0 hpos hN hr hpa hx (u:=none) trivial (by simp) 0 16 false room keep cl
     refine ⟨ns',first',kids',g1,?_,g3,g4⟩
     unfold pE
     rw [hwS]; exact g2
end Go.Fn
open List renaming perm_ext_iff_of_nodup → El,sum_cons → Da
open Go Go.IL
namespace Go.Fn
def wsum (ns:List Nk) (l:List Nat):Int:=(l.map fun p=>(ns.getD p default).weight).sum
theorem yP:∀ (N:List Nd) (id:Int),sumS N id=((N.filter (fun n=>decide (n.aa=id))).map (fun n=>n.ae)).sum
 | [],_=>rfl
 | n::N,id=>by
   have ih:=yP N id
   show (if n.aa=id then n.ae else 0)+sumS N id=_
   by_cases h:n.aa=id
   · rw [Az h,BO (by simp [h]),Am,Da,ih]
   · rw [An h,Bz (by simp [h]),ih]; omega
theorem aFg {l m:List Int} (h:l.Perm m):l.sum=m.sum:=by
 induction h with
 | nil=>rfl
 | cons x _ ih=>rw [Da,Da,ih]
 | swap x y l=>rw [Da,Da,Da,Da]; omega
 | trans _ _ h1 h2=>exact h1.trans h2
theorem ws_sum {A:AS} {sp:List Nat} {ns:List Nk} {first:Int} {kids:Af Nat→List Nat} {N:List Nd} (h:RL A sp ns first kids N) (hpos:∀ m∈N,1≤m.ID) {x:Nat} (hx:gB A x):wsum ns (kids (some x))=sumS N (idP ns x):=by
 rw [yP]
 have hk:∀ p∈kids (some x),gB A p:=fun p hp=>h.kid (some x) p hx hp
 have hnode:∀ p∈kids (some x),asN ns (ns.getD p default) (some x)∈N:=fun p hp=>by
  obtain ⟨u,n,g1,g2,g3,g4,g5⟩:=h.up p (hk p hp)
  have hu:u=some x:=h.lk.dj u (some x) p g1 hx g4 hp
  subst hu
  rw [AE,g2]; exact g5
 have hmap:(kids (some x)).map (fun p=>(ns.getD p default).weight)=((kids (some x)).map (fun p=>asN ns (ns.getD p default) (some x))).map (fun n=>n.ae):=by rw [BG]; rfl
 have hp:((kids (some x)).map (fun p=>asN ns (ns.getD p default) (some x))).Perm (N.filter (fun n=>decide (n.aa=idP ns x))):=by
  refine (El ?_ ?_).2 fun m=>?_
  · refine Bo.2 ((h.lk.nd (some x) hx).imp_of_mem fun {p q} hp hq hne e=>hne ?_)
    exact h.inj p q (hk p hp) (hk q hq) (AH (·.ID) e)
  · refine List.Pairwise.filter _ ?_
    exact h.so.imp fun hab e=>by rw [e] at hab; omega
  · rw [Al,Bq]
    constructor
    · rintro ⟨p,hp,rfl⟩
      exact ⟨hnode p hp,Ai rfl⟩
    · rintro ⟨hm,hd⟩
      have hpar:m.aa=idU ns (some x):=of_decide_eq_true hd
      obtain ⟨p,hp,e⟩:=Al.1 ((uK h hpos (u:=some x) hx hm).2 hpar)
      refine ⟨p,hp,sX h.so (hnode p hp) hm e⟩
 unfold wsum
 rw [hmap]
 exact aFg (hp.map _)
theorem off8 {ns:List Nk} {x:Nat} {room keep:Int} {C:List AC} {F U first:Int} {cl:List Int} (r:List Nat):∀ (a acc:Int) (f:Nat),jF ns a r→(∀ p∈r,0≤(ns.getD p default).weight∧(ns.getD p default).weight≤256)→0≤acc→acc+256*r.length≤1000000→r.length<f→fW (x:Int) room keep C F U ns first cl f a acc=iG (x:Int) room keep C F U ns first cl (acc+wsum ns r):=by
 induction r with
 | nil =>
   intro a acc f h _ _ _ hf
   obtain ⟨f,rfl⟩:∃ g,f=g+1:=⟨f-1,by simp at hf; omega⟩
   have h:a = -1:=h
   rw [fW,bndD,h,Ai rfl,AO,bX]
   simp [wsum]
 | cons p r ih =>
   intro a acc f h hw ha hb hf
   obtain ⟨f,rfl⟩:∃ g,f=g+1:=⟨f-1,by simp at hf; omega⟩
   obtain ⟨h1,n,h2,h3⟩:=h
   have hwp:=hw p (by simp)
   have hgn:ns.getD p default=n:=by rw [AE,h2]; rfl
   rw [hgn] at hwp
   simp at hb
   rw [fW,bndD,h1,Aj (by omega),Ba,dA,eE,h2,bnoS,As,h2,bnoS,bnoS,bnoS,bndD,w64 (by omega) (by omega)]
   rw [ih n.next (acc+n.weight) f h3 (fun q hq=>hw q (by simp [hq])) (by omega) (by omega) (by simpa using hf)]
   congr 1
   unfold wsum
   rw [Am,Da,hgn]; omega
theorem coll5 {ns:List Nk} {x:Nat} {room keep S:Int} {C:List AC} {F U first:Int} {cl:List Int} (r:List Nat):∀ (acc:List Nat) (a:Int) (f:Nat),jF ns a r→acc.length+r.length≤1000→r.length<f→fX (x:Int) room keep C F U ns first cl S f a (toI acc)=dK (x:Int) S (toI (acc++r)) fuel 0 room keep C F U ns first cl:=by
 induction r with
 | nil =>
   intro acc a f h _ hf
   obtain ⟨f,rfl⟩:∃ g,f=g+1:=⟨f-1,by simp at hf; omega⟩
   have h:a = -1:=h
   rw [fX,bndD,h,Ai rfl,AO,bX,AR]
 | cons p r ih =>
   intro acc a f h ha hf
   obtain ⟨f,rfl⟩:∃ g,f=g+1:=⟨f-1,by simp at hf; omega⟩
   obtain ⟨h1,n,h2,h3⟩:=h
   simp at ha
   have hal:(toI acc).length=acc.length:=by unfold toI; simp
   rw [fX,bndD,h1,Aj (by omega),Ba,dA,eE,h2,bnoS,As,h2,bnoS,nL (by simp; omega) (by simp; omega),bnoS]
   have:=ih (acc++[p]) n.next f h3 (by simp; omega) (by simpa using hf)
   rw [show toI (acc++[p])=toI acc++[(p:Int)] by unfold toI; simp] at this
   rw [this,AG]; rfl
end Go.Fn
open Go Go.IL
namespace Go.Fn
theorem aAD {A:AS} {sp:List Nat} {ns:List Nk} {first:Int} {kids:Af Nat→List Nat} {N:List Nd} (h:RL A sp ns first kids N) {p:Nat} (hp:gB A p) {m:Nd} (hm:m∈N) (e:m.ID=idP ns p):∃ n u,ns[p]? = some n∧hdK A u∧n.up=upI u∧m=asN ns n u:=by
 obtain ⟨u,n,h1,h2,h3,h4,h5⟩:=h.up p hp
 refine ⟨n,u,h2,h1,h3,sX h.so hm h5 ?_⟩
 rw [e,dL h2]; rfl
def upsN (ids:List Int) (d W S:Int) (n:Nd):Nd:=if n.ID∈ids then ⟨n.ID,d,max (W*n.ae / S) 1,n.ag⟩ else n
theorem zO (ids:List Int) (d W S:Int) (n:Nd):(upsN ids d W S n).ID=n.ID:=by unfold upsN; split <;> rfl
theorem aDg (d W S:Int) (N:List Nd):N.map (upsN [] d W S)=N:=by
 conv=>rhs; rw [←CZ N]
 exact AU fun n _=>by unfold upsN; rw [An (by simp)]; rfl
theorem aFT {a:Int} {ids:List Int} (ha:a ∉ ids) (d W S w:Int) (c:Bool) {N:List Nd} (hso:N.Pairwise (fun a b=>a.ID<b.ID)) {m:Nd} (hm:m∈N) (hma:m.ID=a) (hw:w=max (W*m.ae / S) 1) (hc:c=m.ag):((N.map (setN a w c)).map (mvN a d)).map (upsN ids d W S)=N.map (upsN (a::ids) d W S):=by
 rw [BG,BG]
 refine AU fun n hn=>?_
 show upsN ids d W S (mvN a d (setN a w c n))=upsN (a::ids) d W S n
 by_cases h1:n.ID=a
 · have hnm:n=m:=sX hso hn hm (h1.trans hma.symm)
   subst hnm
   have e1:mvN a d (setN a w c n)=⟨n.ID,d,w,c⟩:=by
    unfold mvN
    rw [qE,Az h1]
    unfold setN
    rw [Az h1]
   rw [e1]
   unfold upsN
   rw [An (show n.ID ∉ ids from h1 ▸ ha),Az (show n.ID∈a::ids by simp [h1]),hw,hc]
 · have e1:mvN a d (setN a w c n)=n:=by
    unfold mvN
    rw [qE,An h1]
    unfold setN
    rw [An h1]
   rw [e1]
   unfold upsN
   by_cases h2:n.ID∈ids
   · rw [Az h2,Az (by simp [h2])]
   · rw [An h2,An (by simp [h1,h2])]
theorem off6 {A:AS} {sp:List Nat} {x:Nat} (hx:gB A x) (room keep:Int) (cl:List Int) {S:Int} (hS:1≤S) {v:Af Nat} (hv:hdK A v) {W:Int} (hW:1≤W∧W≤256) {cx:Bool} {ks:List Nat} (hks:ks.length≤64) (hal:∀ p∈ks,gB A p) (hkx:∀ p∈ks,p≠x) (hkv:∀ p∈ks,v≠some p) (hkn:ks.Nodup) (r:List Nat):∀ (q:List Nat) (f:Nat) (ns:List Nk) (first:Int) (kids:Af Nat→List Nat) (N:List Nd),ks=q++r→r.length<f→RL A sp ns first kids N→(∀ u,¬hdK A u→kids u=[])→(∀ m∈N,1≤m.ID)→(∀ m∈N,1≤m.ae∧m.ae≤256)→(∀ m∈N,m.ID∈r.map (idP ns)→m.ae≤S)→(⟨idP ns x,idU ns v,W,cx⟩:Nd)∈N →
 ∃ ns' first' kids' f',dK (x:Int) S (toI ks) f (q.length:Int) room keep A.Cells A.Free A.Used ns first cl=dK (x:Int) S (toI ks) (f'+1) (ks.length:Int) room keep A.Cells A.Free A.Used ns' first' cl∧RL A sp ns' first' kids' (N.map (upsN (r.map (idP ns)) (idU ns v) W S))∧(∀ u,¬hdK A u→kids' u=[])∧(∀ p,idP ns' p=idP ns p)∧∀ u p,(p ∉ r)→(p∈kids' u↔p∈kids u):=by
 induction r with
 | nil =>
   intro q f ns first kids N h hf hR h0 hpos hw hle hxN
   obtain ⟨f,rfl⟩:∃ g,f=g+1:=⟨f-1,by simp at hf; omega⟩
   rw [AR] at h
   exact ⟨ns,first,kids,f,by rw [h],by rw [Ay,aDg]; exact hR,h0,fun _=>rfl,fun _ _ _=>Dw⟩
 | cons p r ih =>
   intro q f ns first kids N h hf hR h0 hpos hw hle hxN
   obtain ⟨f,rfl⟩:∃ g,f=g+1:=⟨f-1,by simp at hf; omega⟩
   obtain ⟨e1,e2,e3,e4⟩:=gixI h (by omega)
   have hpm:p∈ks:=by rw [h]; simp
   have hp:=hal p hpm
   have hpx:=hkx p hpm
   obtain ⟨nx,vx,x1,x2,x3,x4⟩:=aAD hR hx hxN rfl
   have hvx:vx=v:=aAX hR hpos x2 hv (AH (·.aa) x4).symm
   subst hvx
   have hxw:nx.weight=W:=(AH (·.ae) x4).symm
   obtain ⟨up,np,p1,p2,p3,p4,p5⟩:=hR.up p hp
   have hwp:=hw _ p5
   have hwp:1≤np.weight∧np.weight≤256:=hwp
   have hprod:0≤nx.weight*np.weight∧nx.weight*np.weight≤65536:=by
    rw [hxw]
    constructor
    · exact Dr (by omega) (by omega)
    · calc W*np.weight≤256*256:=Fb hW.2 hwp.2 (by omega) (by decide)
       _=65536:=by decide
   have hquo:quoI .i64 (nx.weight*np.weight) S=some (W*np.weight / S):=by
    rw [quo_ok hprod.1 (by omega) (by omega),hxw]
   obtain ⟨s1,s2⟩:=aGY hR hp p2 (max (W*np.weight / S) 1) np.closed
   have hx1:(ns.set p (⟨np.id,np.up,np.first,np.next,max (W*np.weight / S) 1,np.closed⟩:Nk))[x]? = some nx:=by rw [AB hpx]; exact x1
   obtain ⟨ns1,first1,kids1,m1,m2,m3,m4,m5⟩:=xD s1 h0 hp (u:=vx) hv (hkv p hpm) room keep cl
   have hidp:∀ y,idP ns1 y=idP ns y:=fun y=>(m4 y).trans (s2 y)
   have hidU:∀ u,idU ns1 u=idU ns u:=fun u=>by cases u with
    | none=>rfl
    | some y=>exact hidp y
   have hidU2:idU (ns.set p (⟨np.id,np.up,np.first,np.next,max (W*np.weight / S) 1,np.closed⟩:Nk)) vx=idU ns vx:=by cases vx with
    | none=>rfl
    | some y=>exact s2 y
   rw [s2 p,hidU2] at m2
   have himg:∀ m∈(N.map (setN (idP ns p) (max (W*np.weight / S) 1) np.closed)).map (mvN (idP ns p) (idU ns vx)),1≤m.ID∧1≤m.ae∧m.ae≤256:=fun m hm=>by
    obtain ⟨m1,hm1,rfl⟩:=Al.1 hm
    obtain ⟨m0,hm0,rfl⟩:=Al.1 hm1
    have hmw:(mvN (idP ns p) (idU ns vx) (setN (idP ns p) (max (W*np.weight / S) 1) np.closed m0)).ae=(setN (idP ns p) (max (W*np.weight / S) 1) np.closed m0).ae:=by unfold mvN; split <;> rfl
    rw [lR,qE,hmw]
    refine ⟨hpos m0 hm0,?_⟩
    unfold setN
    split
    · show 1≤max (W*np.weight / S) 1∧max (W*np.weight / S) 1≤256
      have hws:np.weight≤S:=hle _ p5 (by rw [show ((asN ns np up:Nd)).ID=idP ns p from (dL p2).symm]; simp)
      have:W*np.weight / S≤256:=ES (by omega) (Fb hW.2 hws (by omega) (by decide))
      omega
    · exact hw m0 hm0
   have hmap:r.map (idP ns1)=r.map (idP ns):=AU fun y _=>hidp y
   have hnr:p ∉ r:=fun hm=>by
    rw [h] at hkn
    exact (Bm.1 (CW.1 hkn).2.1).1 hm
   have hnid:idP ns p ∉ r.map (idP ns):=fun hm=>by
    obtain ⟨y,hy,e⟩:=Al.1 hm
    have hya:=hal y (by rw [h]; simp [hy])
    exact hnr (hR.inj y p hya hp e ▸ hy)
   have himl:∀ m∈(N.map (setN (idP ns p) (max (W*np.weight / S) 1) np.closed)).map (mvN (idP ns p) (idU ns vx)),m.ID∈r.map (idP ns1)→m.ae≤S:=fun m hm=>by
    obtain ⟨m1,hm1,rfl⟩:=Al.1 hm
    obtain ⟨m0,hm0,rfl⟩:=Al.1 hm1
    have hmw:(mvN (idP ns p) (idU ns vx) (setN (idP ns p) (max (W*np.weight / S) 1) np.closed m0)).ae=(setN (idP ns p) (max (W*np.weight / S) 1) np.closed m0).ae:=by unfold mvN; split <;> rfl
    rw [lR,qE,hmw,hmap]
    intro hmi
    have hne:m0.ID≠idP ns p:=fun e=>hnid (e ▸ hmi)
    unfold setN
    rw [An hne]
    exact hle m0 hm0 (by rw [Am]; exact Bi _ hmi)
   have hxN1:(⟨idP ns1 x,idU ns1 vx,W,cx⟩:Nd)∈(N.map (setN (idP ns p) (max (W*np.weight / S) 1) np.closed)).map (mvN (idP ns p) (idU ns vx)):=by
    rw [hidp x,hidU vx]
    have hne:idP ns x≠idP ns p:=fun e=>hpx (hR.inj x p hx hp e).symm
    refine Al.2 ⟨_,Al.2 ⟨_,hxN,rfl⟩,?_⟩
    unfold mvN
    rw [qE,An hne]
    unfold setN
    rw [An hne]
   obtain ⟨ns',first',kids',f',g1,g2,g3,g4,g5⟩:=ih (q++[p]) f ns1 first1 kids1 _ (by rw [h]; simp) (by simpa using hf) m2 m3 (fun m hm=>(himg m hm).1) (fun m hm=>(himg m hm).2) himl hxN1
   refine ⟨ns',first',kids',f',?_,?_,g3,fun y=>(g4 y).trans (hidp y),fun u y hy=>?_⟩
   · rw [dK,bndD,e1,dA,e2,bnoS,e3,bnoS,eE,x1,bnoS,chk,Az hR.len,As,x1,bnoS,eE,p2,bnoS,As,p2,bnoS,bndD,w64 (by omega) (by omega),hquo,bnoS,bndD,bnoS,bnoS,bndD,eE,hx1,bnoS,bnoS,x3,m1,bnoS,bndD,e4]
     exact g1
   · rw [hmap,hidU vx] at g2
     rw [Am,←aFT hnid (idU ns vx) W S (max (W*np.weight / S) 1) np.closed hR.so p5 (dL p2).symm rfl rfl]
     exact g2
   · simp at hy
     rw [g5 u y hy.2,m5 u y]
     constructor
     · rintro (⟨e,_⟩ | ⟨_,hm⟩)
       · exact AJ e hy.1
       · exact hm
     · exact fun hm=>.inr ⟨hy.1,hm⟩
end Go.Fn
open Go Go.IL
namespace Go.Fn
theorem del19 {E:List Int} {id:Int} (hl:E.length≤100000):dS E id=some (E.filter fun y=>!decide (y=id)) :=
 sH (P:=fun x=>lJ x id) (q:=fun y=>decide (y=id)) (I:=dR E id) (L:=cR id) (fun _=>rfl) (fun _ _=>rfl) (fun _ _ _ _=>rfl) hl
theorem mE {A:AS} {x:Nat} (hx:gB A x) (p:Nat):gB (qQ A x) p↔gB A p∧p≠x:=by
 obtain ⟨c,hc,_⟩:=hx
 unfold gB qQ
 by_cases e:p=x
 · subst e
   rw [Ax (Ah.1 hc).1]
   constructor
   · rintro ⟨d,hd,hl⟩
     injection hd with hd
     subst hd
     cases hl
   · exact fun h=>AJ rfl h.2
 · rw [AB (Ne.symm e)]
   exact ⟨fun h=>⟨h,e⟩,fun h=>h.1⟩
theorem qP {A:AS} {x:Nat} (hx:gB A x) (u:Af Nat):hdK (qQ A x) u↔hdK A u∧u≠some x:=by
 cases u with
 | none=>exact ⟨fun h=>⟨h,nofun⟩,fun h=>h.1⟩
 | some p =>
   constructor
   · exact fun h=>⟨((mE hx p).1 h).1,fun e=>((mE hx p).1 h).2 (Option.some.inj e)⟩
   · exact fun h=>(mE hx p).2 ⟨h.1,fun e=>h.2 (e ▸ rfl)⟩
theorem gone_ok {A:AS} {sp:List Nat} {ns:List Nk} {first:Int} {kids:Af Nat→List Nat} {N:List Nd} (h:RL A sp ns first kids N) (h0:∀ u,¬hdK A u→kids u=[]) {x:Nat} (hx:gB A x) (hk:kids (some x)=[]) (room keep:Int) {cl:List Int} (hcl:cl.length≤100000) {S:Int} {ks:List Nat} (hks:ks.length≤1000) (f:Nat) :
 ∃ ns' first' kids',dK (x:Int) S (toI ks) (f+1) (ks.length:Int) room keep A.Cells A.Free A.Used ns first cl=some (room,keep,(qQ A x).Cells,(qQ A x).Free,(qQ A x).Used,ns',first',cl.filter fun y=>!decide (y=(x:Int)))∧RL (qQ A x) (x::sp) ns' first' kids' (N.filter fun n=>!decide (n.ID=idP ns x))∧(∀ u,¬hdK (qQ A x) u→kids' u=[])∧(∀ q,idP ns' q=idP ns q):=by
 obtain ⟨u,nx,a1,a2,a3,a4,a5,a6⟩:=h.par hx
 obtain ⟨ns1,first1,b1,b2,b3,b4⟩:=aAj h.len h.lk a1 a2 a3 a4 room keep A.Cells A.Free A.Used cl
 obtain ⟨c,hc,hl⟩:=hx
 obtain ⟨g1,g2⟩:=give_ok h.ga hc hl
 have hx:gB A x:=⟨c,hc,hl⟩
 have hid:∀ q,idP ns1 q=idP ns q:=fun q=>zL (b4 q)
 have hidU:∀ v,idU ns1 v=idU ns v:=fun v=>by
  cases v with
  | none=>rfl
  | some q=>exact hid q
 have hnd:=h.lk.nd u a1
 have hdr:∀ v q,hdK A v→(q∈oS kids u x v↔q≠x∧q∈kids v):=fun v q hv=>by
  unfold oS
  by_cases e:v=u
  · rw [Az e,hnd.mem_erase_iff,e]
  · rw [An e]
    exact ⟨fun hm=>⟨fun e2=>e (a6 v hv (e2 ▸ hm)),hm⟩,fun hm=>hm.2⟩
 refine ⟨ns1,first1,_,?_,⟨g2,b2,⟨fun v hv=>b3.ch v ((qP hx v).1 hv).1,fun v hv=>b3.nd v ((qP hx v).1 hv).1,fun v w p hv hw=>b3.dj v w p ((qP hx v).1 hv).1 ((qP hx w).1 hw).1,fun p hp=>b3.at' p ((qP hx (some p)).1 hp).1⟩,fun p hp=>?_,fun v p hv hm=>?_,fun m hm=>?_,fun p q hp hq e=>h.inj p q ((mE hx p).1 hp).1 ((mE hx q).1 hq).1 (by rw [←hid p,←hid q]; exact e),?_⟩,fun v hv=>?_,hid⟩
 · rw [dK,bndD,show (toI ks).length=ks.length by unfold toI; simp,Aj (by omega),bX,b1,bnoS]
   show (bno (nV A (x:Int)) _)=_
   rw [g1,bnoS]
   show (chk (ns1.length=64)<|bno (dS cl (x:Int)) _)=_
   rw [chk,Az b2,del19 hcl,bnoS]
 · obtain ⟨hpa,hpx⟩:=(mE hx p).1 hp
   obtain ⟨v,n,k1,k2,k3,k4,k5⟩:=h.up p hpa
   have hvx:v≠some x:=fun e=>by rw [e,hk] at k4; cases k4
   obtain ⟨n',q1,q2⟩:=nY (b4 p) k2
   obtain ⟨q3,q4,q5,q6⟩:=qB q2
   refine ⟨v,n',(qP hx v).2 ⟨k1,hvx⟩,q1,q4.trans k3,(hdr v p k1).2 ⟨hpx,k4⟩,?_⟩
   have e:asN ns1 n' v=asN ns n v:=by unfold asN; rw [q3,q5,q6,hidU]
   rw [e]
   refine Bq.2 ⟨k5,?_⟩
   have hne:(asN ns n v).ID≠idP ns x:=fun e=>hpx (h.inj p x hpa hx (by rw [dL k2]; exact e))
   rw [Aj hne]; rfl
 · obtain ⟨hv1,hv2⟩:=(qP hx v).1 hv
   obtain ⟨e1,e2⟩:=(hdr v p hv1).1 hm
   exact (mE hx p).2 ⟨h.kid v p hv1 e2,e1⟩
 · obtain ⟨hm1,hm2⟩:=Bq.1 hm
   obtain ⟨p,n,v,k1,k2,k3,k4,rfl⟩:=h.bw m hm1
   have hpx:p≠x:=fun e=>by
    subst e
    have:(asN ns n v).ID=idP ns p:=(dL k3).symm
    rw [Ai this] at hm2
    cases hm2
   have hvx:v≠some x:=fun e=>by
    obtain ⟨v',n',q1,q2,q3,q4,q5⟩:=h.up p k1
    rw [k3] at q2
    injection q2 with q2
    subst q2
    have:v=v':=aBT (k4.symm.trans q3)
    rw [←this,e,hk] at q4; cases q4
   obtain ⟨n',q1,q2⟩:=nY (b4 p) k3
   obtain ⟨q3,q4,q5,q6⟩:=qB q2
   refine ⟨p,n',v,(mE hx p).2 ⟨k1,hpx⟩,(qP hx v).2 ⟨k2,hvx⟩,q1,q4.trans k4,?_⟩
   unfold asN
   rw [q3,q5,q6,hidU]
 · exact List.Pairwise.filter _ h.so
 · by_cases hv2:hdK A v
   · have hvx:v=some x:=by
      refine Classical.byContradiction fun e=>hv ((qP hx v).2 ⟨hv2,e⟩)
     refine Cx.2 fun q hm=>?_
     have:=((hdr v q hv2).1 hm).2
     rw [hvx,hk] at this; cases this
   · refine Cx.2 fun q hm=>?_
     unfold oS at hm
     split at hm
     · rename_i e; exact hv2 (e ▸ a1)
     · rw [h0 v hv2] at hm; cases hm
end Go.Fn
open List renaming exists_mem_of_ne_nil → Ep,map_append → BR
open Nat renaming lt_irrefl → BN
open Go Go.IL
namespace Go.Fn
theorem off_ok {A:AS} {sp:List Nat} {ns:List Nk} {first:Int} {kids:Af Nat→List Nat} {N:List Nd} (h:RL A sp ns first kids N) (h0:∀ u,¬hdK A u→kids u=[]) (hpos:∀ m∈N,1≤m.ID) (hw:∀ m∈N,1≤m.ae∧m.ae≤256) {r:Int→Nat} (hr:∀ m∈N,m.aa≠0→r m.aa<r m.ID) {x:Nat} (hx:gB A x) (room keep:Int) {cl:List Int} (hcl:cl.length≤100000) :
 ∃ L y R ns' first' kids',N=L++y::R∧y.ID=idP ns x∧iB (x:Int) room keep A.Cells A.Free A.Used ns first cl=some (room,keep,(qQ A x).Cells,(qQ A x).Free,(qQ A x).Used,ns',first',cl.filter fun y=>!decide (y=(x:Int)))∧RL (qQ A x) (x::sp) ns' first' kids' (offS L y R)∧(∀ u,¬hdK (qQ A x) u→kids' u=[])∧(∀ q,idP ns' q=idP ns q):=by
 obtain ⟨v,nx,hv,hxn,hup,hxk,hxN⟩:=h.up x hx
 have hyid:(asN ns nx v).ID=idP ns x:=(dL hxn).symm
 obtain ⟨L,R,hN⟩:=DE hxN
 have hsize:=h.lk.size h.len (u:=some x) hx
 have hal:∀ p∈kids (some x),gB A p:=fun p hp=>h.kid (some x) p hx hp
 have hposx:1≤idP ns x:=hyid ▸ hpos _ hxN
 have hkid:∀ m∈N,(m.ID∈(kids (some x)).map (idP ns)↔m.aa=idP ns x):=fun m hm=>uK h hpos (u:=some x) hx hm
 have hnode:∀ p∈kids (some x),∃ n,ns[p]? = some n∧n.up=upI (some x)∧asN ns n (some x)∈N:=fun p hp=>by
  obtain ⟨u,n,g1,g2,g3,g4,g5⟩:=h.up p (hal p hp)
  have hu:u=some x:=h.lk.dj u (some x) p g1 hx g4 hp
  subst hu
  exact ⟨n,g2,g3,g5⟩
 have hrk:∀ p∈kids (some x),r (idP ns x)<r (idP ns p):=fun p hp=>by
  obtain ⟨n,g1,g2,g3⟩:=hnode p hp
  have:=hr _ g3 (show idP ns x≠0 by omega)
  rw [dL g1]; exact this
 have hvx:v≠some x:=fun e=>by
  subst e
  have:=hr _ hxN (show idP ns x≠0 by omega)
  rw [hyid] at this
  exact BN _ this
 have hkx:∀ p∈kids (some x),p≠x:=fun p hp e=>by
  have:=hrk p hp
  rw [e] at this; omega
 have hkv:∀ p∈kids (some x),v≠some p:=fun p hp e=>by
  subst e
  obtain ⟨n,g1,g2,g3⟩:=hnode p hp
  have h1:=hrk p hp
  have h2:=hr _ hxN (show idP ns p≠0 by
   have:=hpos _ g3
   rw [dL g1]
   have:1≤n.id:=this
   omega)
  rw [hyid] at h2
  have h2:r (idP ns p)<r (idP ns x):=h2
  omega
 have hW:=hw _ hxN
 have hW:1≤nx.weight∧nx.weight≤256:=hW
 have hsum:wsum ns (kids (some x))=sumS N (idP ns x):=ws_sum h hpos hx
 have hS2:sumS N (idP ns x)=sumS (L++R) (asN ns nx v).ID:=by
  rw [hyid]
  have hne:(asN ns nx v).aa≠idP ns x:=fun e=>hvx (aAX h hpos hv (v:=some x) hx e)
  rw [hN,aBU,aBU]
  show _+((if (asN ns nx v).aa=idP ns x then _ else 0)+_)=_
  rw [An hne]; omega
 have hch:jF ns nx.first (kids (some x)):=by
  have:=h.lk.ch (some x) hx
  rw [mA hxn] at this; exact this
 have hwk:∀ p∈kids (some x),0≤(ns.getD p default).weight∧(ns.getD p default).weight≤256:=fun p hp=>by
  obtain ⟨n,g1,g2,g3⟩:=hnode p hp
  have:=hw _ g3
  have:1≤n.weight∧n.weight≤256:=this
  rw [AE,g1]
  exact ⟨by show 0≤n.weight; omega,this.2⟩
 obtain ⟨f0,hf0⟩:∃ f,fuel=f+1:=⟨fuel-1,by decide⟩
 have hstep:iB (x:Int) room keep A.Cells A.Free A.Used ns first cl=dK (x:Int) (sumS N (idP ns x)) (toI (kids (some x))) fuel 0 room keep A.Cells A.Free A.Used ns first cl:=by
  unfold iB
  rw [bndD,Aj (by omega),bX,eE,hxn,bnoS,chk,Az h.len,As,hxn,bnoS]
  rw [off8 (kids (some x)) nx.first 0 fuel hch hwk (by omega) (by omega) (fB (by omega))]
  unfold iG
  rw [bndD,Aj (by omega),bX,eE,hxn,bnoS,chk,Az h.len,As,hxn,bnoS]
  have:=coll5 (x:=x) (room:=room) (keep:=keep) (S:=0+wsum ns (kids (some x))) (C:=A.Cells) (F:=A.Free) (U:=A.Used) (first:=first) (cl:=cl) (kids (some x)) [] nx.first fuel hch (by simp; omega) (fB (by omega))
  rw [show toI []=([]:List Int) from rfl,BL] at this
  rw [this,Int.zero_add,hsum]
 have hall:∃ ns1 first1 kids1 f1,dK (x:Int) (sumS N (idP ns x)) (toI (kids (some x))) fuel 0 room keep A.Cells A.Free A.Used ns first cl=dK (x:Int) (sumS N (idP ns x)) (toI (kids (some x))) (f1+1) ((kids (some x)).length:Int) room keep A.Cells A.Free A.Used ns1 first1 cl∧RL A sp ns1 first1 kids1 (N.map (upsN ((kids (some x)).map (idP ns)) (idU ns v) nx.weight (sumS N (idP ns x))))∧(∀ u,¬hdK A u→kids1 u=[])∧(∀ p,idP ns1 p=idP ns p):=by
  by_cases hk:kids (some x)=[]
  · rw [hk]
    exact ⟨ns,first,kids,f0,by rw [hf0]; rfl,by rw [Ay,aDg]; exact h,h0,fun _=>rfl⟩
  · obtain ⟨p,hp⟩:=Ep _ hk
    obtain ⟨n,g1,g2,g3⟩:=hnode p hp
    have hge:=aCD hw g3
    have hge:n.weight≤sumS N (idP ns x):=hge
    have h1:=(hw _ g3).1
    have h1:1≤n.weight:=h1
    obtain ⟨ns1,first1,kids1,f1,c1,c2,c3,c4,c5⟩:=off6 hx room keep cl (S:=sumS N (idP ns x)) (by omega) hv hW (cx:=nx.closed) hsize hal hkx hkv (h.lk.nd (some x) hx) (kids (some x)) [] fuel ns first kids N rfl (fB (by omega)) h h0 hpos hw (fun m hm hmi=>by
     have hp:=(hkid m hm).1 hmi
     have:=aCD hw hm
     rw [hp] at this; exact this) (by rw [dL hxn]; exact hxN)
    exact ⟨ns1,first1,kids1,f1,c1,c2,c3,c4⟩
 obtain ⟨ns1,first1,kids1,f1,c1,c2,c3,c4⟩:=hall
 have hidU:∀ u,idU ns1 u=idU ns u:=fun u=>by cases u with
  | none=>rfl
  | some y=>exact c4 y
 have hpos1:∀ m∈N.map (upsN ((kids (some x)).map (idP ns)) (idU ns v) nx.weight (sumS N (idP ns x))),1≤m.ID:=fun m hm=>by
  obtain ⟨m0,hm0,rfl⟩:=Al.1 hm
  rw [zO]; exact hpos m0 hm0
 have hk1:kids1 (some x)=[]:=by
  refine Cx.2 fun p hp=>?_
  obtain ⟨u,n,g1,g2,g3,g4,g5⟩:=c2.up p (c2.kid (some x) p hx hp)
  have hpar:=(uK c2 hpos1 (u:=some x) hx g5).1 (Al.2 ⟨p,hp,dL g2⟩)
  rw [hidU] at hpar
  obtain ⟨m0,hm0,e⟩:=Al.1 g5
  rw [←e] at hpar
  unfold upsN at hpar
  split at hpar
  · exact hvx (aAX h hpos hv (v:=some x) hx hpar)
  · rename_i hn
    exact hn ((hkid m0 hm0).2 hpar)
 obtain ⟨ns2,first2,kids2,d1,d2,d3,d4⟩:=gone_ok c2 c3 hx hk1 room keep hcl (S:=sumS N (idP ns x)) (ks:=kids (some x)) (by omega) f1
 refine ⟨L,asN ns nx v,R,ns2,first2,kids2,hN,hyid,?_,?_,d3,fun q=>(d4 q).trans (c4 q)⟩
 · rw [hstep,c1,d1]
 · have hL:(N.map (upsN ((kids (some x)).map (idP ns)) (idU ns v) nx.weight (sumS N (idP ns x)))).filter (fun n=>!decide (n.ID=idP ns1 x))=offS L (asN ns nx v) R:=by
    have hso:=h.so
    rw [hN] at hso
    have hdis:∀ m∈L++R,m.ID≠idP ns x:=fun m hm e=>by
     obtain ⟨s1,s2,s3⟩:=BD.1 hso
     rcases AT.1 hm with hm | hm
     · have:=s3 m hm _ (BW ..)
       omega
     · have:=(AQ.1 s2).1 m hm
       omega
    have hmem:∀ m∈L++R,m∈N:=fun m hm=>by
     rw [hN]
     rcases AT.1 hm with hm | hm
     · exact AT.2 (.inl hm)
     · exact AT.2 (.inr (Bi _ hm))
    have hmapN:∀ m∈L++R,upsN ((kids (some x)).map (idP ns)) (idU ns v) nx.weight (sumS N (idP ns x)) m=offN (asN ns nx v) (sumS (L++R) (asN ns nx v).ID) m:=fun m hm=>by
     unfold upsN offN
     rw [hS2]
     by_cases e:m.aa=idP ns x
     · rw [Az ((hkid m (hmem m hm)).2 e),Az (e.trans hyid.symm)]; rfl
     · rw [An (fun hc=>e ((hkid m (hmem m hm)).1 hc)),An (fun hc=>e (hc.trans hyid))]
    unfold offS
    rw [c4 x]
    conv=>lhs; rw [hN]
    rw [BR,Am,CP,Bz (by rw [zO,hyid]; simp),BR]
    congr 1
    · rw [BJ.2]
      · exact AU fun m hm=>by rw [←hN]; exact hmapN m (AT.2 (.inl hm))
      · intro a ha
        obtain ⟨m,hm,rfl⟩:=Al.1 ha
        rw [zO,Aj (hdis m (AT.2 (.inl hm)))]; rfl
    · rw [BJ.2]
      · exact AU fun m hm=>by rw [←hN]; exact hmapN m (AT.2 (.inr hm))
      · intro a ha
        obtain ⟨m,hm,rfl⟩:=Al.1 ha
        rw [zO,Aj (hdis m (AT.2 (.inr hm)))]; rfl
   rw [←hL]; exact d2
end Go.Fn
open Go Go.IL
namespace Go.Fn
theorem new_ok {A:AS} {sp:List Nat} {ns:List Nk} {first:Int} {kids:Af Nat→List Nat} {N:List Nd} (h:RL A sp ns first kids N) (h0:∀ u,¬hdK A u→kids u=[]) (hu:A.Used<64) {id:Int} {L R:List Nd} (hN:N=L++R) (hso:(L++(⟨id,0,16,false⟩:Nd)::R).Pairwise (fun a b=>a.ID<b.ID)) (room keep:Int) (cl:List Int) :
 ∃ ns' first' kids',gE (takeP A sp:Int) (-1) room keep (takeS A id sp).Cells (takeS A id sp).Free (takeS A id sp).Used (ns.set (takeP A sp) (⟨id,0,-1,-1,16,false⟩:Nk)) first cl=some (room,keep,(takeS A id sp).Cells,(takeS A id sp).Free,(takeS A id sp).Used,ns',first',cl)∧RL (takeS A id sp) sp.tail ns' first' kids' (L++(⟨id,0,16,false⟩:Nd)::R)∧(∀ u,¬hdK (takeS A id sp) u→kids' u=[])∧idP ns' (takeP A sp)=id∧(∀ p,p≠takeP A sp→idP ns' p=idP ns p)∧¬ gB A (takeP A sp)∧∀ p,gB (takeS A id sp) p↔gB A p∨p=takeP A sp:=by
 obtain ⟨t1,t2,t3,t4,t5,t6⟩:=aDi h.ga id hu
 generalize takeP A sp=q at *
 generalize takeS A id sp=A' at *
 have hal:∀ p,gB A' p↔gB A p∨p=q:=fun p=>by
  by_cases e:p=q
  · subst e
    exact ⟨fun _=>.inr rfl,fun _=>⟨_,t3,rfl⟩⟩
  · unfold gB
    rw [t4 p e]
    exact ⟨fun h=>.inl h,fun h=>h.elim (fun h=>h) (fun h=>AJ h e)⟩
 have hqn:¬ gB A q:=fun ⟨c,hc,hl⟩=>by rw [t5 c hc] at hl; cases hl
 have hqk:∀ v,q ∉ kids v:=fun v hm=>by
  by_cases hv:hdK A v
  · exact hqn (h.kid v q hv hm)
  · rw [h0 v hv] at hm; cases hm
 have hkq:kids (some q)=[]:=h0 _ hqn
 have hhd:∀ u,hdK A' u↔hdK A u∨u=some q:=fun u=>by
  cases u with
  | none=>exact ⟨fun h=>.inl h,fun _=>trivial⟩
  | some p =>
    rw [show hdK A' (some p)↔_ from hal p]
    exact ⟨fun h=>h.elim .inl (fun e=>.inr (e ▸ rfl)),fun h=>h.elim .inl (fun e=>.inr (Option.some.inj e))⟩
 have hvq:∀ v,hdK A v→v≠some q:=fun v hv e=>by subst e; exact hqn hv
 have hq:(ns.set q (⟨id,0,-1,-1,16,false⟩:Nk))[q]? = some (⟨id,0,-1,-1,16,false⟩:Nk):=Ax (by rw [h.len]; exact t6)
 have hoth:∀ p,p≠q→(ns.set q (⟨id,0,-1,-1,16,false⟩:Nk))[p]? = ns[p]?:=fun p e=>AB (Ne.symm e)
 have hlk:Lk (ns.set q (⟨id,0,-1,-1,16,false⟩:Nk)) first (hdK A') kids:=by
  refine ⟨fun u hu=>?_,fun u hu=>?_,fun u v p hu hv hpu hpv=>?_,fun p hp=>?_⟩
  · rcases (hhd u).1 hu with hu | rfl
    · have hc:=(h.lk.ch u hu).other (hqk u) (⟨id,0,-1,-1,16,false⟩:Nk)
      have hf:nK (ns.set q (⟨id,0,-1,-1,16,false⟩:Nk)) first u=nK ns first u:=by
       cases u with
       | none=>rfl
       | some p =>
         have hpq:p≠q:=fun e=>hvq _ hu (e ▸ rfl)
         show ((ns.set q _).getD p default).first=(ns.getD p default).first
         rw [AE,hoth p hpq,←AE]
      rw [hf]; exact hc
    · rw [hkq,mA hq]; rfl
  · rcases (hhd u).1 hu with hu | rfl
    · exact h.lk.nd u hu
    · rw [hkq]; exact Dc
  · rcases (hhd u).1 hu with hu | rfl
    · rcases (hhd v).1 hv with hv | rfl
      · exact h.lk.dj u v p hu hv hpu hpv
      · rw [hkq] at hpv; cases hpv
    · rw [hkq] at hpu; cases hpu
  · rcases (hal p).1 hp with hp | rfl
    · obtain ⟨n,hn⟩:=h.lk.at' p hp
      exact ⟨n,by rw [hoth p (fun e=>hqn (e ▸ hp))]; exact hn⟩
    · exact ⟨_,hq⟩
 obtain ⟨ns',first',e1,e2,e3,e4,e5⟩:=aEg (by rw [Bv]; exact h.len) hlk (u:=none) trivial hq (fun v _=>hqk v) nofun room keep A'.Cells A'.Free A'.Used cl
 have hv1:∀ p,p≠q→nM ns' p=nM ns p:=fun p e=>by
  rw [e4 p e]
  unfold nM
  rw [hoth p e]
 have hn2:∃ n2,ns'[q]? = some n2∧n2.id=id∧n2.up = -1∧n2.weight=16∧n2.closed=false:=by
  have:=e5 _ hq
  unfold nM at this
  cases h2:ns'[q]? with
  | none=>rw [h2] at this; cases this
  | some n2 =>
    rw [h2] at this
    injection this with this
    exact ⟨n2,rfl,AH (·.1) this,AH (·.2.1) this,AH (·.2.2.1) this,AH (·.2.2.2) this⟩
 obtain ⟨n2,f1,f2,f3,f4,f5⟩:=hn2
 have hidq:idP ns' q=id:=by rw [dL f1,f2]
 have hid:∀ p,p≠q→idP ns' p=idP ns p:=fun p e=>zL (hv1 p e)
 have hidU:∀ v,hdK A v→idU ns' v=idU ns v:=fun v hv=>by
  cases v with
  | none=>rfl
  | some p=>exact hid p (fun e=>hvq _ hv (e ▸ rfl))
 have has:asN ns' n2 none=(⟨id,0,16,false⟩:Nd):=by unfold asN; rw [f2,f4,f5]; rfl
 have hmem:∀ m,m∈L++(⟨id,0,16,false⟩:Nd)::R↔m=⟨id,0,16,false⟩∨m∈N:=fun m=>by
  rw [hN]; simp only [AT,Av]
  constructor
  · rintro (a | a | a)
    · exact .inr (.inl a)
    · exact .inl a
    · exact .inr (.inr a)
  · rintro (a | a | a)
    · exact .inr (.inl a)
    · exact .inl a
    · exact .inr (.inr a)
 have hne:∀ m∈N,m.ID≠id:=fun m hm e=>by
  obtain ⟨s1,s2,s3⟩:=BD.1 hso
  rw [hN] at hm
  rcases AT.1 hm with hm | hm
  · have:=s3 m hm _ (BW ..)
    have:m.ID<id:=this
    omega
  · have:=(AQ.1 s2).1 m hm
    have:id<m.ID:=this
    omega
 have hida:∀ p,gB A p→idP ns' p=idP ns p∧idP ns p≠id:=fun p hp=>by
  refine ⟨hid p (fun e=>hqn (e ▸ hp)),fun e=>?_⟩
  obtain ⟨v,n,k1,k2,k3,k4,k5⟩:=h.up p hp
  exact hne _ k5 (by rw [dL k2] at e; exact e)
 refine ⟨ns',first',_,e1,⟨t2,e2,e3,fun p hp=>?_,fun u p hu hm=>?_,fun m hm=>?_,fun p r hp hr e=>?_,hso⟩,fun v hv=>?_,hidq,hid,hqn,hal⟩
 · by_cases e:p=q
   · subst e
     refine ⟨none,n2,trivial,f1,f3,?_,(hmem _).2 (.inl has)⟩
     unfold sL; rw [Az rfl]; exact BW ..
   · have hp:gB A p:=((hal p).1 hp).elim (fun h=>h) (fun h=>AJ h e)
     obtain ⟨v,n,k1,k2,k3,k4,k5⟩:=h.up p hp
     obtain ⟨n',q1,q2⟩:=nY (hv1 p e) k2
     obtain ⟨q3,q4,q5,q6⟩:=qB q2
     refine ⟨v,n',(hhd v).2 (.inl k1),q1,q4.trans k3,?_,(hmem _).2 (.inr ?_)⟩
     · unfold sL
       split
       · rename_i e; subst e; exact Bi _ k4
       · exact k4
     · have e:asN ns' n' v=asN ns n v:=by unfold asN; rw [q3,q5,q6,hidU v k1]
       rw [e]; exact k5
 · unfold sL at hm
   split at hm
   · rcases Av.1 hm with e | hm
     · exact (hal p).2 (.inr e)
     · exact (hal p).2 (.inl (h.kid none p trivial hm))
   · rcases (hhd u).1 hu with hu | rfl
     · exact (hal p).2 (.inl (h.kid u p hu hm))
     · rw [hkq] at hm; cases hm
 · rcases (hmem m).1 hm with rfl | hm
   · exact ⟨q,n2,none,(hal q).2 (.inr rfl),trivial,f1,f3,has.symm⟩
   · obtain ⟨p,n,v,k1,k2,k3,k4,rfl⟩:=h.bw m hm
     obtain ⟨n',q1,q2⟩:=nY (hv1 p (fun e=>hqn (e ▸ k1))) k3
     obtain ⟨q3,q4,q5,q6⟩:=qB q2
     refine ⟨p,n',v,(hal p).2 (.inl k1),(hhd v).2 (.inl k2),q1,q4.trans k4,?_⟩
     unfold asN; rw [q3,q5,q6,hidU v k2]
 · rcases (hal p).1 hp with hp | rfl
   · rcases (hal r).1 hr with hr | rfl
     · exact h.inj p r hp hr (by rw [←(hida p hp).1,←(hida r hr).1]; exact e)
     · exact AJ (((hida p hp).1.symm.trans e).trans hidq) (hida p hp).2
   · rcases (hal r).1 hr with hr | rfl
     · exact AJ (((hida r hr).1.symm.trans e.symm).trans hidq) (hida r hr).2
     · rfl
 · have hv2:¬ hdK A v:=fun hh=>hv ((hhd v).2 (.inl hh))
   unfold sL
   split
   · rename_i e; subst e; exact AJ trivial hv
   · exact h0 v hv2
end Go.Fn
open List renaming cons_append → BQ
open Go Go.IL
namespace Go.Fn
def lowN (N:List Nd) (id:Int):List Nd:=N.filter fun n=>decide (n.ID<id)
def aEh (N:List Nd) (id:Int):List Nd:=N.filter fun n=>decide (id<n.ID)
def newS (N:List Nd) (id:Int):List Nd:=lowN N id++(⟨id,0,16,false⟩:Nd)::aEh N id
theorem vO {id:Int}:∀ {N:List Nd},N.Pairwise (fun a b=>a.ID<b.ID)→(∀ m∈N,m.ID≠id)→N=lowN N id++aEh N id
 | [],_,_=>rfl
 | n :: N,hs,hn=>by
   obtain ⟨s1,s2⟩:=AQ.1 hs
   have ih:=vO s2 fun m hm=>hn m (Bi _ hm)
   have hne:=hn n (BW ..)
   unfold lowN aEh at *
   by_cases h:n.ID<id
   · rw [BO (by simp [h]),Bz (by simp; omega),BQ,←ih]
   · have hl:N.filter (fun n=>decide (n.ID<id))=[]:=CK.2 fun m hm=>by have:=s1 m hm; simp; omega
     rw [hl,BL] at ih
     rw [Bz (by simp [h]),BO (by simp; omega),hl,BL,←ih]
theorem yV {id:Int} {N:List Nd} (hs:N.Pairwise (fun a b=>a.ID<b.ID)):(newS N id).Pairwise (fun a b=>a.ID<b.ID):=by
 unfold newS lowN aEh
 refine BD.2 ⟨hs.filter _,AQ.2 ⟨fun m hm=>of_decide_eq_true (Bq.1 hm).2,hs.filter _⟩,fun a ha b hb=>?_⟩
 have h1:a.ID<id:=of_decide_eq_true (Bq.1 ha).2
 rcases Av.1 hb with rfl | hb
 · exact h1
 · have h2:id<b.ID:=of_decide_eq_true (Bq.1 hb).2
   omega
theorem aBk {id:Int} {N:List Nd} (hs:N.Pairwise (fun a b=>a.ID<b.ID)) (hn:∀ m∈N,m.ID≠id) (m:Nd):m∈newS N id↔m=⟨id,0,16,false⟩∨m∈N:=by
 conv=>rhs; rw [vO hs hn]
 unfold newS
 simp only [AT,Av]
 constructor
 · rintro (a | a | a)
   · exact .inr (.inl a)
   · exact .inl a
   · exact .inr (.inr a)
 · rintro (a | a | a)
   · exact .inr (.inl a)
   · exact .inl a
   · exact .inr (.inr a)
theorem aBi {id:Int} {N:List Nd} (hs:N.Pairwise (fun a b=>a.ID<b.ID)) (hn:∀ m∈N,m.ID≠id):(newS N id).length=N.length+1:=by
 conv=>rhs; rw [vO hs hn]
 unfold newS
 simp; omega
theorem aF5 {A:AS} {sp:List Nat} {ns:List Nk} {first:Int} {kids:Af Nat→List Nat} {N:List Nd} (h:RL A sp ns first kids N) (h0:∀ u,¬hdK A u→kids u=[]) (hpos:∀ m∈N,1≤m.ID) (hu:A.Used<64) (hN:N.length<64) {r:Int→Nat} (hr:∀ m∈N,m.aa≠0→r m.aa<r m.ID) (hpa:∀ m∈N,m.aa=0∨∃ x∈N,x.ID=m.aa) {id:Int} (hid:1≤id) (hno:∀ m∈N,m.ID≠id) (w:Ws) (hw:w.dep≠id) (hw0:0≤w.dep) (room keep:Int) (cl:List Int) :
 ∃ A' sp' ns' first' kids',fQ id w room keep A.Cells A.Free A.Used ns first cl=some (0,room,keep,A'.Cells,A'.Free,A'.Used,ns',first',cl)∧RL A' sp' ns' first' kids' (pE (newS N id) id w)∧(∀ u,¬hdK A' u→kids' u=[])∧∀ p,gB A p→gB A' p∧idP ns' p=idP ns p:=by
 obtain ⟨t1,_,_,_,_,t6⟩:=aDi h.ga id hu
 obtain ⟨ns1,first1,kids1,e1,e2,e3,e4,e5,e6,e7⟩:=new_ok h h0 hu (vO h.so hno) (yV h.so) room keep cl
 have e2:RL (takeS A id sp) sp.tail ns1 first1 kids1 (newS N id):=e2
 have hmem:=aBk h.so hno
 obtain ⟨ns',first',kids',g1,g2,g3,g4⟩:=aGA e2 e3 (fun m hm=>by
  rcases (hmem m).1 hm with rfl | hm
  · exact hid
  · exact hpos m hm) (by rw [aBi h.so hno]; omega) (r:=r) (fun m hm hp=>by
  rcases (hmem m).1 hm with rfl | hm
  · exact AJ rfl hp
  · exact hr m hm hp) (fun m hm=>by
  rcases (hmem m).1 hm with rfl | hm
  · exact .inl rfl
  · rcases hpa m hm with e | ⟨x,hx,e⟩
    · exact .inl e
    · exact .inr ⟨x,(hmem x).2 (.inr hx),e⟩) (x:=takeP A sp) ((e7 _).2 (.inr rfl)) w (by rw [e4]; exact hw) hw0 room keep cl
 rw [e4] at g2
 obtain ⟨n0,hn0⟩:∃ n,ns[takeP A sp]? = some n:=⟨_,AY (by rw [h.len]; exact t6)⟩
 refine ⟨takeS A id sp,sp.tail,ns',first',kids',?_,g2,g3,fun p hp=>⟨(e7 p).2 (.inl hp),(g4 p).trans (e5 p fun e=>e6 (e ▸ hp))⟩⟩
 unfold fQ
 rw [show nU (⟨A.Cells,A.Free,A.Used⟩:AS) id=_ from t1,bnoS,bndD]
 show (bif (!decide ((0:Int)=0)) then _ else _)=_
 rw [Ai rfl,AO,bX]
 show (bno (gix ns (takeP A sp:Int)) _)=_
 rw [eE,hn0,bnoS,chk,Az h.len]
 show (bno (ns[((takeP A sp:Nat):Int).toNat]?) _)=_
 rw [As,hn0,bnoS,bndD]
 show (bno (gE (takeP A sp:Int) (-1) room keep (takeS A id sp).Cells (takeS A id sp).Free (takeS A id sp).Used (ns.set (((takeP A sp:Nat):Int).toNat) (⟨id,0,-1,-1,16,false⟩:Nk)) first cl) _)=_
 rw [As,e1,bnoS]
 show (bno (iW (takeP A sp:Int) w room keep (takeS A id sp).Cells (takeS A id sp).Free (takeS A id sp).Used ns1 first1 cl) _)=_
 rw [g1,bnoS]
end Go.Fn
open Go Go.IL
namespace Go.Fn
theorem aDM {N:List Nd} {x:Int} {w:Ws} {r:Int→Nat} (h:HP N x r) (hf:(∀ n∈N,n.aa≠0→r n.aa<r n.ID)∧∀ n∈N,n.aa=0∨∃ m∈N,m.ID=n.aa) (hne:w.dep≠x) (hw:1≤w.weight∧w.weight≤256):∃ g,pE N x w=N.map g∧Hung N g:=by
 unfold pE
 by_cases hc:w.dep≠0∧∀ m∈N,m.ID≠w.dep
 · have hws:vZ N w=⟨0,16,false⟩:=Az hc
   rw [hws]
   have:upN N x 0=N:=An (fun hh=>hh.1 rfl)
   exact ⟨nQ x 0 16 false,by show (upN N x 0).map _=_; rw [this],aAY h (by decide) (fun hh=>AJ rfl hh)⟩
 · have hws:vZ N w=w:=An hc
   rw [hws]
   by_cases h0:w.dep=0
   · have:upN N x w.dep=N:=An (fun hh=>hh.1 h0)
     exact ⟨nQ x w.dep w.weight w.only,by rw [this],aAY h hw (fun hh=>AJ h0 hh)⟩
   · have hex:∃ k∈N,k.ID=w.dep:=by
      refine Classical.byContradiction fun hn=>hc ⟨h0,fun m hm e=>hn ⟨m,hm,e⟩⟩
     obtain ⟨k,hkm,hk⟩:=hex
     obtain ⟨y,hy,hyx⟩:=h.xm
     have hkx:k.ID≠x:=by rw [hk]; exact hne
     by_cases hin:x∈gU N N.length w.dep
     · have hanc:Anc N x k.ID:=by rw [hk]; exact aCO h.ok.so _ _ hne hin (by have:=h.ok.ra y hy; omega)
       obtain ⟨h1,h2⟩:=hp_move h hy hyx hkm hkx hanc hf
       have hu:=aAY (d:=w.dep) (w:=w.weight) (o:=w.only) h1 hw (fun _=>⟨⟨_,Al.2 ⟨k,hkm,rfl⟩,(lR _ _ _).trans hk⟩,by rw [←hk]; exact h2⟩)
       have hpar:rC N x=some y.aa:=by rw [←hyx]; exact uW h.ok.so hy
       have hup:upN N x w.dep=N.map (mvN k.ID y.aa):=by
        unfold upN
        rw [Az ⟨h0,hin⟩,hpar,hk]; rfl
       refine ⟨nQ x w.dep w.weight w.only ∘ mvN k.ID y.aa,by rw [hup,BG],⟨fun n=>(hu.id _).trans (lR _ _ _),fun n=>(hu.cl _).trans ?_,fun n hn=>hu.ra _ (Al.2 ⟨n,hn,rfl⟩),fun n hn=>?_,?_⟩⟩
       · unfold mvN; split <;> rfl
       · rcases hu.pa _ (Al.2 ⟨n,hn,rfl⟩) with e | ⟨m,hm,e⟩
         · exact .inl e
         · obtain ⟨z,hz,ez⟩:=Al.1 hm
           have e2:z.ID=m.ID:=by rw [←ez,lR]
           exact .inr ⟨z,hz,e2.trans e⟩
       · obtain ⟨r',hr'⟩:=hu.rk
         rw [BG] at hr'
         exact ⟨r',hr'⟩
     · have hna:¬ Anc N x w.dep:=not_anc h.ok.so hf.1 hf.2 ⟨k,hkm,hk⟩ hne hin
       have hup:upN N x w.dep=N:=An (fun hh=>hin hh.2)
       exact ⟨nQ x w.dep w.weight w.only,by rw [hup],aAY h hw (fun _=>⟨⟨k,hkm,hk⟩,hna⟩)⟩
theorem aGC {K:Int} {N:List Nd} {E:List Int} (h:FV K ⟨24,K,N,E⟩) {x:Int} (hx:∃ n∈N,n.ID=x) {w:Ws} (hne:w.dep≠x) (hw:1≤w.weight∧w.weight≤256):FV K ⟨24,K,pE N x w,E⟩∧(pE N x w).length=N.length:=by
 obtain ⟨r,hr⟩:=h.rk
 have hp:HP N x r:=⟨h.ok,hx,fun n hn=>(h.ra n hn).2,fun n hn _=>h.pa n hn,fun n hn _ hz=>hr n hn hz,.inl ⟨hr,h.pa⟩⟩
 obtain ⟨g,e,hg⟩:=aDM hp ⟨hr,h.pa⟩ hne hw
 rw [e]
 exact ⟨fv_hung h.bs hg,Aw ..⟩
theorem fv_new {K:Int} {N:List Nd} {E:List Int} (h:FV K ⟨24,K,N,E⟩) {id:Int} (hid:1≤id∧id≤1048576) (hno:∀ m∈N,m.ID≠id) (hlt:N.length<24):FV K ⟨24,K,newS N id,E⟩:=by
 have hmem:=aBk h.so hno
 obtain ⟨r,hr⟩:=h.rk
 refine ⟨rfl,h.kp,by show (newS N id).length≤24; rw [aBi (N:=N) h.so hno]; exact hlt,h.el,yV h.so,fun n hn=>?_,fun n hn=>?_,⟨r,fun n hn hp=>?_⟩,fun n hn=>?_,h.nd,fun e he=>?_⟩
 · rcases (hmem n).1 hn with rfl | hn
   · exact ⟨hid,by show (1:Int)≤16; decide,by show (16:Int)≤256; decide⟩
   · exact h.ra n hn
 · rcases (hmem n).1 hn with rfl | hn
   · exact .inl rfl
   · rcases h.pa n hn with e | ⟨m,hm,e⟩
     · exact .inl e
     · exact .inr ⟨m,(hmem m).2 (.inr hm),e⟩
 · rcases (hmem n).1 hn with rfl | hn
   · exact AJ rfl hp
   · exact hr n hn hp
 · rcases (hmem n).1 hn with rfl | hn
   · refine ⟨fun hc=>(by cases hc),fun hc=>?_⟩
     obtain ⟨m,hm,e2⟩:=h.es _ hc
     exact AJ e2 (hno m hm)
   · exact h.en n hn
 · obtain ⟨n,hn,e2⟩:=h.es e he
   exact ⟨n,(hmem n).2 (.inr hn),e2⟩
end Go.Fn
open Go Go.IL
namespace Go.Fn
structure TS (A:AS) (ns:List Nk) (first:Int) (cl:List Int) (R K:Int) (N:List Nd) (E:List Int):Prop where
 rl:∃ sp kids,RL A sp ns first kids N∧∀ u,¬hdK A u→kids u=[]
 cn:∃ cN:List Nat,cl=toI cN∧(∀ p∈cN,gB A p)∧E=cN.map (idP ns)
 fv:FV K ⟨24,K,N,E⟩
 ln:(N.length:Int)≤R
 rm:R≤24
theorem zN {A:AS} {sp:List Nat} {ns:List Nk} {first:Int} {kids:Af Nat→List Nat} {N:List Nd} (h:RL A sp ns first kids N):A.Used=(N.length:Int):=by
 rw [h.ga.used]
 have hl:=tM A.Cells 0
 rw [←hl]
 have hp:((mO A.Cells 0).map (idP ns)).Perm (N.map (·.ID)):=by
  refine (El ?_ (aEf h.so)).2 fun i=>?_
  · refine Bo.2 ((sU A.Cells 0).imp_of_mem fun {p q} hp hq hne e=>hne (h.inj p q (nI.2 hp) (nI.2 hq) e))
  · constructor
    · intro hi
      obtain ⟨p,hp,rfl⟩:=Al.1 hi
      obtain ⟨v,n,k1,k2,k3,k4,k5⟩:=h.up p (nI.2 hp)
      exact Al.2 ⟨_,k5,(dL k2).symm⟩
    · intro hi
      obtain ⟨m,hm,rfl⟩:=Al.1 hi
      obtain ⟨p,n,v,k1,k2,k3,k4,rfl⟩:=h.bw m hm
      exact Al.2 ⟨p,nI.1 k1,dL k3⟩
 have:=hp.length_eq
 rw [Aw,Aw] at this
 rw [this]
theorem yO (x:Nat):∀ (l:List Nat),(toI l).filter (fun y=>!decide (y=(x:Int)))=toI (l.filter fun p=>!decide (p=x))
 | []=>rfl
 | p::l=>by
   have ih:=yO x l
   rw [show toI (p::l)=(p:Int)::toI l from rfl]
   by_cases e:p=x
   · rw [Bz (by simp [e]),Bz (by simp [e]),ih]
   · rw [BO (by simp; omega),BO (by simp [e]),ih]; rfl
theorem off_ts {A:AS} {ns:List Nk} {first:Int} {cl:List Int} {R K:Int} {N:List Nd} {E:List Int} (h:TS A ns first cl R K N E) {x:Nat} (hx:gB A x) (room keep:Int) :
 ∃ L y Rr ns' first' cl',N=L++y::Rr∧y.ID=idP ns x∧iB (x:Int) room keep A.Cells A.Free A.Used ns first cl=some (room,keep,(qQ A x).Cells,(qQ A x).Free,(qQ A x).Used,ns',first',cl')∧TS (qQ A x) ns' first' cl' R K (offS L y Rr) (E.filter fun e=>!decide (e=y.ID))∧∀ q,idP ns' q=idP ns q:=by
 obtain ⟨sp,kids,hR,h0⟩:=h.rl
 obtain ⟨cN,c1,c2,c3⟩:=h.cn
 obtain ⟨r,hr⟩:=h.fv.rk
 have hEl:(E.length:Int)≤K:=h.fv.el
 have hK:K≤24:=h.fv.kp.2.2
 have hcl:cl.length≤100000:=by
  rw [c1]
  rw [c3,Aw] at hEl
  unfold toI
  rw [Aw]; omega
 obtain ⟨L,y,Rr,ns',first',kids',g1,g2,g3,g4,g5,g6⟩:=off_ok hR h0 (fun m hm=>(h.fv.ra m hm).1.1) (fun m hm=>(h.fv.ra m hm).2) hr hx room keep hcl
 refine ⟨L,y,Rr,ns',first',_,g1,g2,g3,⟨⟨_,kids',g4,g5⟩,⟨cN.filter fun p=>!decide (p=x),by rw [c1,yO],fun p hp=>?_,?_⟩,fv_off h.fv g1,?_,h.rm⟩,g6⟩
 · obtain ⟨h1,h2⟩:=Bq.1 hp
   exact (mE hx p).2 ⟨c2 p h1,fun e=>by rw [Ai e] at h2; cases h2⟩
 · rw [g2,c3,List.filter_map,AU (fun p _=>g6 p)]
   congr 1
   refine List.filter_congr fun p hp=>?_
   show (!decide (idP ns p=idP ns x)) = !decide (p=x)
   congr 1
   by_cases e:p=x
   · rw [Ai e,Ai (by rw [e])]
   · rw [Aj e,Aj (fun hh=>e (hR.inj p x (c2 p hp) hx hh))]
 · have:=h.ln
   rw [g1] at this
   unfold offS
   rw [Aw]
   simp at this ⊢
   omega
end Go.Fn
open Go Go.IL
namespace Go.Fn
def offT (N:List Nd) (e:Int):List Nd:=match N.find? (fun n=>decide (n.ID=e)) with
 | some y=>(N.filter fun n=>!decide (n.ID=e)).map (offN y (sumS (N.filter fun n=>!decide (n.ID=e)) y.ID))
 | none=>N
theorem off_T {N L Rr:List Nd} {y:Nd} {e:Int} (hs:N.Pairwise (fun a b=>a.ID<b.ID)) (hN:N=L++y::Rr) (he:y.ID=e):offS L y Rr=offT N e:=by
 rw [hN] at hs
 obtain ⟨s1,s2,s3⟩:=BD.1 hs
 have hL:∀ m∈L,m.ID≠e:=fun m hm hh=>by
  have:=s3 m hm y (BW ..)
  omega
 have hR:∀ m∈Rr,m.ID≠e:=fun m hm hh=>by
  have:=(AQ.1 s2).1 m hm
  omega
 have hf:N.find? (fun n=>decide (n.ID=e))=some y:=by
  rw [hN,DN,CB.2 (fun m hm=>by simp [hL m hm]),Option.none_or,List.find?_cons_of_pos (by simp [he])]
 have hfl:N.filter (fun n=>!decide (n.ID=e))=L++Rr:=by
  rw [hN,CP,Bz (by simp [he]),BJ.2 (fun m hm=>by simp [hL m hm]),BJ.2 (fun m hm=>by simp [hR m hm])]
 unfold offT offS
 rw [hf,hfl]
def goodW (id:Int) (w:Ws):Prop:=(1≤id∧id≤1048576)∧w.dep≠id∧0≤w.dep∧1≤w.weight∧w.weight≤256
def fullS (N:List Nd) (id:Int) (w:Ws):List Int→Int×List Nd×List Int
 | []=>(7,N,[])
 | e::E=>(0,pE (newS (offT N e) id) id w,(e::E).filter fun z=>!decide (z=e))
def insS (R:Int) (N:List Nd) (E:List Int) (id:Int) (w:Ws):Int×List Nd×List Int :=
 if (N.length:Int)<R then (0,pE (newS N id) id w,E) else fullS N id w E
theorem aCc {A:AS} {ns:List Nk} {first:Int} {cl:List Int} {R K:Int} {N:List Nd} {E:List Int} (h:TS A ns first cl R K N E) (hlt:(N.length:Int)<R) {id:Int} {w:Ws} (hw:goodW id w) (hno:∀ m∈N,m.ID≠id) (room keep:Int) :
 ∃ A' ns' first',fQ id w room keep A.Cells A.Free A.Used ns first cl=some (0,room,keep,A'.Cells,A'.Free,A'.Used,ns',first',cl)∧TS A' ns' first' cl R K (pE (newS N id) id w) E:=by
 obtain ⟨sp,kids,hR,h0⟩:=h.rl
 obtain ⟨cN,c1,c2,c3⟩:=h.cn
 obtain ⟨r,hr⟩:=h.fv.rk
 have hrm:=h.rm
 obtain ⟨w1,w2,w3,w4⟩:=hw
 have hul:=zN hR
 obtain ⟨A',sp',ns',first',kids',g1,g2,g3,g4⟩:=aF5 hR h0 (fun m hm=>(h.fv.ra m hm).1.1) (by omega) (by omega) hr h.fv.pa w1.1 hno w w2 w3 room keep cl
 have hfn:=fv_new h.fv w1 hno (by omega)
 obtain ⟨f1,f2⟩:=aGC hfn (x:=id) ⟨_,(aBk h.fv.so hno _).2 (.inl rfl),rfl⟩ w2 w4
 refine ⟨A',ns',first',g1,⟨⟨sp',kids',g2,g3⟩,⟨cN,c1,fun p hp=>(g4 p (c2 p hp)).1,?_⟩,f1,?_,hrm⟩⟩
 · rw [c3]
   exact AU fun p hp=>((g4 p (c2 p hp)).2).symm
 · rw [f2,aBi (N:=N) h.fv.so hno]; omega
theorem aEa {A:AS} {ns:List Nk} {first:Int} {cl:List Int} {R K:Int} {N:List Nd} {E:List Int} (h:TS A ns first cl R K N E) {id:Int} {w:Ws} (hw:goodW id w) (hno:∀ m∈N,m.ID≠id) :
 ∃ A' ns' first' cl',jU id w R K A.Cells A.Free A.Used ns first cl=some ((insS R N E id w).1,R,K,A'.Cells,A'.Free,A'.Used,ns',first',cl')∧TS A' ns' first' cl' R K (insS R N E id w).2.1 (insS R N E id w).2.2:=by
 obtain ⟨sp,kids,hR,h0⟩:=h.rl
 obtain ⟨cN,c1,c2,c3⟩:=h.cn
 have hul:=zN hR
 have hln:=h.ln
 unfold jU mK
 rw [bnoS,bndD,hul]
 by_cases hlt:(N.length:Int)<R
 · rw [Aj (by omega),bX]
   obtain ⟨A',ns',first',g1,g2⟩:=aCc h hlt hw hno R K
   rw [hul] at g1
   have e:insS R N E id w=(0,pE (newS N id) id w,E):=Az hlt
   rw [e]
   exact ⟨A',ns',first',cl,g1,g2⟩
 · rw [Ai (by omega),dA,chk,Az hR.len,bndD]
   have e:insS R N E id w=fullS N id w E:=An hlt
   rw [e]
   cases cN with
   | nil =>
     have hc:cl=[]:=c1
     have hE:E=[]:=c3
     subst hc
     subst hE
     refine ⟨A,ns,first,[],?_,h⟩
     rw [←hul]; rfl
   | cons p cN =>
     have hE:E=idP ns p::cN.map (idP ns):=c3
     have hc:cl=(p:Int)::toI cN:=c1
     obtain ⟨L,y,Rr,ns1,first1,cl1,g1,g2,g3,g4,g5⟩:=off_ts h (c2 p (by simp)) R K
     rw [hul] at g3
     have hT:offS L y Rr=offT N (idP ns p):=off_T h.fv.so g1 g2
     rw [hT,g2] at g4
     have hno1:∀ m∈offT N (idP ns p),m.ID≠id:=fun m hm=>by
      rw [←hT] at hm
      unfold offS at hm
      obtain ⟨m0,hm0,rfl⟩:=Al.1 hm
      rw [uG]
      refine hno m0 ?_
      rw [g1]
      rcases AT.1 hm0 with hm | hm
      · exact AT.2 (.inl hm)
      · exact AT.2 (.inr (Bi _ hm))
     have hl1:((offT N (idP ns p)).length:Int)<R:=by
      rw [←hT]
      rw [g1] at hln
      unfold offS
      rw [Aw]
      simp at hln ⊢
      omega
     obtain ⟨A',ns',first',k1,k2⟩:=aCc g4 hl1 hw hno1 R K
     rw [hE] at k2 ⊢
     refine ⟨A',ns',first',cl1,?_,k2⟩
     rw [hc]
     rw [show decide ((((p:Int)::toI cN).length:Int)=0)=false from Aj (by simp; omega),bX]
     show (bno (iB (p:Int) R K A.Cells A.Free (N.length:Int) ns first ((p:Int)::toI cN)) _)=_
     rw [←hc,g3,bnoS]
     exact k1
end Go.Fn
open Go Go.IL
namespace Go.Fn
def fitW (id:Int) (w:Ws):Prop:=(1≤id∧id≤1048576)∧(0≤w.dep∧w.dep≤1048576)∧1≤w.weight∧w.weight≤256
instance (id:Int) (w:Ws):Decidable (fitW id w):=inferInstanceAs (Decidable (_∧_))
def zK (id:Int) (w:Ws):Int:=if fitW id w then (if id=w.dep then 4 else 0) else 8
theorem aEc (a b c:Int):nB a b c=some (decide (b≤a∧a≤c)):=by
 unfold nB
 rw [bndD,bndD,bndD,←Bool.decide_and]
theorem wish_ok (id:Int) (w:Ws):lI w id=some (zK id w):=by
 unfold lI iF zK
 rw [aEc,bnoS]
 by_cases h1:1≤id∧id≤1048576
 · rw [Ai h1,AO,bX,aEc,bnoS]
   by_cases h2:0≤w.dep∧w.dep≤1048576
   · rw [Ai h2,AO,bX,aEc,bnoS]
     by_cases h3:1≤w.weight∧w.weight≤256
     · rw [Ai h3,AO,bX,bndD,Az (show fitW id w from ⟨h1,h2,h3⟩)]
       by_cases h4:id=w.dep
       · rw [Ai h4,dA,Az h4]
       · rw [Aj h4,bX,An h4]
     · rw [Aj h3,Ba,dA,An (fun hh:fitW id w=>h3 hh.2.2)]
   · rw [Aj h2,Ba,dA,dA,An (fun hh:fitW id w=>h2 hh.2.1)]
 · rw [Aj h1,Ba,dA,dA,An (fun hh:fitW id w=>h1 hh.1)]
theorem aDe {id:Int} {w:Ws} (h:zK id w=0):goodW id w:=by
 unfold zK at h
 split at h
 · rename_i hf
   split at h
   · cases h
   · rename_i hn
     exact ⟨hf.1,fun e=>hn e.symm,hf.2.1.1,hf.2.2⟩
 · cases h
def hasN (N:List Nd) (id:Int):Prop:=∃ m∈N,m.ID=id
instance (N:List Nd) (id:Int):Decidable (hasN N id):=inferInstanceAs (Decidable (∃ m∈N,m.ID=id))
theorem aB0 {A:AS} {ns:List Nk} {first:Int} {cl:List Int} {R K:Int} {N:List Nd} {E:List Int} (h:TS A ns first cl R K N E) (id:Int) (room keep:Int) :
 (hasN N id∧∃ p,gB A p∧idP ns p=id∧eI id room keep A.Cells A.Free A.Used ns first cl=some (p:Int))∨(¬hasN N id∧eI id room keep A.Cells A.Free A.Used ns first cl=some (-1)):=by
 obtain ⟨sp,kids,hR,h0⟩:=h.rl
 rcases aEt hR id room keep cl with ⟨p,p1,p2,p3⟩ | ⟨p1,p2⟩
 · obtain ⟨v,n,k1,k2,k3,k4,k5⟩:=hR.up p p1
   exact .inl ⟨⟨_,k5,(dL k2).symm.trans p2⟩,p,p1,p2,p3⟩
 · refine .inr ⟨fun ⟨m,hm,e⟩=>?_,p2⟩
   obtain ⟨p,n,v,k1,k2,k3,k4,rfl⟩:=hR.bw m hm
   exact p1 p k1 ((dL k3).trans e)
def uS (R:Int) (N:List Nd) (E:List Int) (id:Int) (w:Ws):Int×List Nd×List Int :=
 if zK id w=0 then (if hasN N id then (13,N,E) else insS R N E id w) else (zK id w,N,E)
theorem aFP {A:AS} {ns:List Nk} {first:Int} {cl:List Int} {R K:Int} {N:List Nd} {E:List Int} (h:TS A ns first cl R K N E) (id dep weight:Int) (only:Bool) :
 ∃ A' ns' first' cl',fI id dep weight only R K A.Cells A.Free A.Used ns first cl=some ((uS R N E id ⟨dep,weight,only⟩).1,R,K,A'.Cells,A'.Free,A'.Used,ns',first',cl')∧TS A' ns' first' cl' R K (uS R N E id ⟨dep,weight,only⟩).2.1 (uS R N E id ⟨dep,weight,only⟩).2.2:=by
 unfold fI uS
 rw [wish_ok,bnoS,bndD]
 by_cases h1:zK id ⟨dep,weight,only⟩=0
 · rw [Ai h1,AO,bX,Az h1]
   rcases aB0 h id R K with ⟨f1,p,f2,f3,f4⟩ | ⟨f1,f4⟩
   · rw [f4,bnoS,bndD,Aj (by omega),Ba,dA,Az f1]
     exact ⟨A,ns,first,cl,rfl,h⟩
   · rw [f4,bnoS,bndD,Ai rfl,AO,bX,An f1]
     obtain ⟨A',ns',first',cl',g1,g2⟩:=aEa h (aDe h1) fun m hm e=>f1 ⟨m,hm,e⟩
     rw [g1,bnoS]
     exact ⟨A',ns',first',cl',rfl,g2⟩
 · rw [Aj h1,Ba,dA,An h1]
   exact ⟨A,ns,first,cl,rfl,h⟩
end Go.Fn
open Go Go.IL
namespace Go.Fn
end Go.Fn
open Go Go.IL
namespace Go.Fn
theorem aGB {K K':Int} {N:List Nd} {E:List Int} (h:FV K ⟨24,K,N,E⟩) (h1:0≤K'∧K'≤24) (h2:(E.length:Int)≤K'):FV K' ⟨24,K',N,E⟩ :=
 ⟨rfl,⟨rfl,h1⟩,h.ln,h2,h.so,h.ra,h.pa,h.rk,h.en,h.nd,h.es⟩
theorem TS.keep {A:AS} {ns:List Nk} {first:Int} {cl:List Int} {R K K':Int} {N:List Nd} {E:List Int} (h:TS A ns first cl R K N E) (h1:0≤K'∧K'≤24) (h2:(E.length:Int)≤K'):TS A ns first cl R K' N E :=
 ⟨h.rl,h.cn,aGB h.fv h1 h2,h.ln,h.rm⟩
def shutN (N:List Nd) (id:Int):Prop:=∃ m∈N,m.ID=id∧m.ag=true
instance (N:List Nd) (id:Int):Decidable (shutN N id):=inferInstanceAs (Decidable (∃ m∈N,m.ID=id∧m.ag=true))
end Go.Fn
open List renaming length_replicate → Cv,replicate → AI
open Go Go.IL
namespace Go.Fn
theorem new_ts {R K:Int} (hR:0≤R∧R≤24) (hK:0≤K∧K≤24):TS ⟨[],-1,0⟩ (AI 64 (⟨0,0,0,0,0,false⟩:Nk)) (-1) [] R K [] []:=by
 have hal:∀ p,¬gB ⟨[],-1,0⟩ p:=fun p ⟨c,hc,_⟩=>by cases hc
 refine ⟨⟨[],fun _=>[],⟨⟨by decide,(fun c hc=>by cases hc),mJ.nil,Dc,rfl,rfl,fun i c hc=>by cases hc⟩,Cv ..,⟨fun u hu=>?_,fun _ _=>Dc,fun u v p _ _ hp=>(by cases hp),fun p hp=>AJ hp (hal p)⟩,fun p hp=>AJ hp (hal p),fun u p _ hp=>(by cases hp),fun m hm=>(by cases hm),fun p q hp=>AJ hp (hal p),List.Pairwise.nil⟩,fun _ _=>rfl⟩,⟨[],rfl,fun p hp=>(by cases hp),rfl⟩,⟨rfl,⟨rfl,hK⟩,CX _,hK.1,List.Pairwise.nil,fun n hn=>(by cases hn),fun n hn=>(by cases hn),⟨fun _=>0,fun n hn=>(by cases hn)⟩,fun n hn=>(by cases hn),Dc,fun e he=>(by cases he)⟩,hR.1,hR.2⟩
 cases u with
 | none=>rfl
 | some p=>exact AJ hu (hal p)
end Go.Fn
open Go Go.IL
namespace Go.Fn
theorem aF8 {A:AS} {sp:List Nat} {ns:List Nk} {first:Int} {kids:Af Nat→List Nat} {N:List Nd} (h:RL A sp ns first kids N) {u:Af Nat} (hu:hdK A u) (room keep:Int) (C:List AC) (F U:Int) (cl:List Int):fJ (upI u) room keep C F U ns first cl=some (idU ns u):=by
 unfold fJ
 rw [bndD]
 cases u with
 | none=>rfl
 | some p =>
   obtain ⟨v,n,k1,k2,k3,k4,k5⟩:=h.up p hu
   rw [show decide (upI (some p) = -1)=false from Aj (show ¬(p:Int) = -1 by omega),bX,show upI (some p)=(p:Int) from rfl,eE,k2,bnoS,chk,Az h.len,As,k2,bnoS]
   show _=some (idP ns p)
   rw [dL k2]
end Go.Fn
open Go Go.IL
namespace Go.Fn
theorem aFi {A:AS} {sp:List Nat} {ns:List Nk} {first:Int} {kids:Af Nat→List Nat} {N:List Nd} (h:RL A sp ns first kids N) (room keep:Int) (C:List AC) (F U:Int) (cl:List Int):∀ (l:List Nat) (p:Nat) (acc:List Int) (f:Nat),Up ns p l→(∀ q∈l,gB A q)→acc.length+l.length≤1000→l.length<f→eO room keep C F U ns first cl f acc (p:Int)=some (acc++l.map (idP ns)):=by
 intro l
 induction l with
 | nil =>
   intro p acc f hu _ _ hf
   obtain ⟨f,rfl⟩:∃ g,f=g+1:=⟨f-1,by simp at hf; omega⟩
   obtain ⟨n,h1,h2⟩:=hu
   rw [eO,bndD,Aj (by omega),Ba,Cg,gdtt,eE,h1,bnoS,chk,Az (fun _=>h.len),gdtt,As,h1,bnoS,bndD,h2,Ai rfl,AO,bndD,Fc,bX,Ay,AR]
 | cons q l ih =>
   intro p acc f hu hl ha hf
   obtain ⟨f,rfl⟩:∃ g,f=g+1:=⟨f-1,by simp at hf; omega⟩
   obtain ⟨⟨n,h1,h2⟩,h3⟩:=hu
   have hid:fJ (q:Int) room keep C F U ns first cl=some (idP ns q):=aF8 h (u:=some q) (hl q (by simp)) room keep C F U cl
   simp at ha
   rw [eO,bndD,Aj (by omega),Ba,Cg,gdtt,eE,h1,bnoS,chk,Az (fun _=>h.len),gdtt,As,h1,bnoS,bndD,h2,Aj (by omega),Ba,bndD,Eb,dA,bnoS,chk,Az h.len,bnoS,h2,hid,bnoS,nL (by simp; omega) (by simp; omega),bnoS]
   rw [ih q (acc++[idP ns q]) f h3 (fun z hz=>hl z (by simp [hz])) (by simp; omega) (by simpa using hf)]
   rw [Am,AG]; rfl
theorem aFO {A:AS} {ns:List Nk} {first:Int} {cl:List Int} {R K:Int} {N:List Nd} {E:List Int} (h:TS A ns first cl R K N E) (id:Int) (room keep:Int):jN id room keep A.Cells A.Free A.Used ns first cl=some (if hasN N id then gU N N.length id else []):=by
 obtain ⟨sp,kids,hR,h0⟩:=h.rl
 obtain ⟨r,hr⟩:=h.fv.rk
 have hN:N.length≤24:=h.fv.ln
 unfold jN
 rcases aB0 h id room keep with ⟨f1,p,f2,f3,f4⟩ | ⟨f1,f4⟩
 · obtain ⟨l,l1,l2,l3,l4⟩:=aCC hR (fun m hm=>(h.fv.ra m hm).1.1) hr h.fv.pa f2
   rw [f4,bnoS,Az f1,aFi hR room keep A.Cells A.Free A.Used cl l p [] fuel l1 l2 (by simp; omega) (fB (by omega)),←f3,l4]; rfl
 · rw [f4,bnoS,An f1]
   rfl
end Go.Fn
open Go Go.IL
namespace Go.Fn
def yD (ns:List Nk) (p:Nat):Nd:=⟨(ns.getD p default).id,(if (ns.getD p default).up = -1 then 0 else idP ns (ns.getD p default).up.toNat),(ns.getD p default).weight,(ns.getD p default).closed⟩
theorem wF {A:AS} {sp:List Nat} {ns:List Nk} {first:Int} {kids:Af Nat→List Nat} {N:List Nd} (h:RL A sp ns first kids N) {p:Nat} (hp:gB A p):yD ns p∈N∧(yD ns p).ID=idP ns p∧∃ n u,ns[p]? = some n∧n.up=upI u∧hdK A u∧yD ns p=asN ns n u:=by
 obtain ⟨u,n,k1,k2,k3,k4,k5⟩:=h.up p hp
 have e:yD ns p=asN ns n u:=by
  unfold yD asN
  rw [AE,k2]
  show (⟨n.id,(if n.up = -1 then 0 else idP ns n.up.toNat),n.weight,n.closed⟩:Nd)=_
  rw [k3]
  cases u with
  | none=>rfl
  | some q =>
    rw [show upI (some q)=(q:Int) from rfl,An (by omega),As]; rfl
 rw [e]
 exact ⟨k5,(dL k2).symm,n,u,k2,k3,k1,rfl⟩
theorem aFV {A:AS} {sp:List Nat} {ns:List Nk} {first:Int} {kids:Af Nat→List Nat} {N:List Nd} (h:RL A sp ns first kids N) {lv:List Nat} (hl:lv.length≤1000) (hc:∀ p∈lv,gB A p) (room keep:Int) (C:List AC) (F U:Int) (cl:List Int) (r:List Nat):∀ (q:List Nat) (f:Nat),lv=q++r→r.length<f→fG room keep C F U ns first cl (toI lv) f (q.map (yD ns)) (q.length:Int)=(bno (dV (lv.map (yD ns))) fun x31=>chk (x31.length=(lv.map (yD ns)).length)<|some x31):=by
 induction r with
 | nil =>
   intro q f h1 hf
   obtain ⟨f,rfl⟩:∃ g,f=g+1:=⟨f-1,by simp at hf; omega⟩
   rw [AR] at h1
   subst h1
   rw [fG,bndD,show (toI lv).length=lv.length by unfold toI; simp,Aj (by omega),bX]
 | cons p r ih =>
   intro q f h1 hf
   obtain ⟨f,rfl⟩:∃ g,f=g+1:=⟨f-1,by simp at hf; omega⟩
   obtain ⟨e1,e2,e3,e4⟩:=gixI h1 hl
   have hq:q.length≤1000:=by rw [h1] at hl; simp at hl; omega
   obtain ⟨_,_,n,u,k1,k2,k3,k4⟩:=wF h (hc p (by rw [h1]; simp))
   rw [fG,bndD,e1,dA,e2,bnoS,eE,k1,bnoS,chk,Az h.len,As,k1,bnoS,k2,aF8 h k3,bnoS,nL (by simp; omega) (by simp; omega),bnoS,bndD,e4]
   have:=ih (q++[p]) f (by rw [h1]; simp) (by simpa using hf)
   rw [BR,List.map_singleton,k4] at this
   exact this
end Go.Fn
open Go Go.IL
namespace Go.Fn
theorem kids_L3 {A:AS} {sp:List Nat} {ns:List Nk} {first:Int} {kids:Af Nat→List Nat} {N:List Nd} (h:RL A sp ns first kids N) (room keep:Int) (C:List AC) (F U:Int) (cl:List Int):∀ (r:List Nat) (acc:List Int) (a:Int) (f:Nat),jF ns a r→(∀ p∈r,gB A p)→acc.length+r.length≤1000→r.length<f→fN room keep C F U ns first cl f a acc=fO (acc++r.map (idP ns)):=by
 intro r
 induction r with
 | nil =>
   intro acc a f hc _ _ hf
   obtain ⟨f,rfl⟩:∃ g,f=g+1:=⟨f-1,by simp at hf; omega⟩
   have hc:a = -1:=hc
   rw [fN,bndD,hc,Ai rfl,AO,bX,Ay,AR]
 | cons p r ih =>
   intro acc a f hc hl ha hf
   obtain ⟨f,rfl⟩:∃ g,f=g+1:=⟨f-1,by simp at hf; omega⟩
   obtain ⟨h1,n,h2,h3⟩:=hc
   have hid:fJ (p:Int) room keep C F U ns first cl=some (idP ns p):=aF8 h (u:=some p) (hl p (by simp)) room keep C F U cl
   simp at ha
   rw [fN,bndD,h1,Aj (by omega),Ba,dA,eE,h2,bnoS,As,h2,bnoS,hid,bnoS,nL (by simp; omega) (by simp; omega),bnoS]
   rw [ih (acc++[idP ns p]) n.next f h3 (fun z hz=>hl z (by simp [hz])) (by simp; omega) (by simpa using hf),Am,AG]; rfl
theorem kids_L4 {A:AS} {sp:List Nat} {ns:List Nk} {first:Int} {kids:Af Nat→List Nat} {N:List Nd} (h:RL A sp ns first kids N) (room keep:Int) (C:List AC) (F U:Int) (cl:List Int):∀ (r:List Nat) (acc:List Int) (a:Int) (f:Nat),jF ns a r→(∀ p∈r,gB A p)→acc.length+r.length≤1000→r.length<f→fM room keep C F U ns first cl f a acc=fO (acc++r.map (idP ns)):=by
 intro r
 induction r with
 | nil =>
   intro acc a f hc _ _ hf
   obtain ⟨f,rfl⟩:∃ g,f=g+1:=⟨f-1,by simp at hf; omega⟩
   have hc:a = -1:=hc
   rw [fM,bndD,hc,Ai rfl,AO,bX,Ay,AR]
 | cons p r ih =>
   intro acc a f hc hl ha hf
   obtain ⟨f,rfl⟩:∃ g,f=g+1:=⟨f-1,by simp at hf; omega⟩
   obtain ⟨h1,n,h2,h3⟩:=hc
   have hid:fJ (p:Int) room keep C F U ns first cl=some (idP ns p):=aF8 h (u:=some p) (hl p (by simp)) room keep C F U cl
   simp at ha
   rw [fM,bndD,h1,Aj (by omega),Ba,dA,eE,h2,bnoS,As,h2,bnoS,hid,bnoS,nL (by simp; omega) (by simp; omega),bnoS]
   rw [ih (acc++[idP ns p]) n.next f h3 (fun z hz=>hl z (by simp [hz])) (by simp; omega) (by simpa using hf),Am,AG]; rfl
end Go.Fn
open Go Go.IL
namespace Go.Fn
theorem aGS {A:AS} {ns:List Nk} {first:Int} {cl:List Int} {R K:Int} {N:List Nd} {E:List Int} (h:TS A ns first cl R K N E) (id:Int) (room keep:Int) :
 (¬(hasN N id∨id=0)∧iH id room keep A.Cells A.Free A.Used ns first cl=some []) ∨
 (hasN N id∨id=0)∧∃ l:List Int,iH id room keep A.Cells A.Free A.Used ns first cl=fO l∧l.Nodup∧l.length≤64∧(∀ m∈N,(m.ID∈l↔m.aa=id))∧∀ i∈l,hasN N i:=by
 obtain ⟨sp,kids,hR,h0⟩:=h.rl
 have hpos:∀ m∈N,1≤m.ID:=fun m hm=>(h.fv.ra m hm).1.1
 have hnd:∀ u,hdK A u→((kids u).map (idP ns)).Nodup:=fun u hu =>
  Bo.2 ((hR.lk.nd u hu).imp_of_mem fun {p q} hp hq hne e=>hne (hR.inj p q (hR.kid u p hu hp) (hR.kid u q hu hq) e))
 have hin:∀ u,hdK A u→∀ i∈(kids u).map (idP ns),hasN N i:=fun u hu i hi=>by
  obtain ⟨p,hp,rfl⟩:=Al.1 hi
  obtain ⟨v,n,k1,k2,k3,k4,k5⟩:=hR.up p (hR.kid u p hu hp)
  exact ⟨_,k5,(dL k2).symm⟩
 unfold iH
 rcases aB0 h id room keep with ⟨f1,p,f2,f3,f4⟩ | ⟨f1,f4⟩
 · have hsz:=hR.lk.size hR.len (u:=some p) f2
   obtain ⟨v,n,k1,k2,k3,k4,k5⟩:=hR.up p f2
   have hch:=hR.lk.ch (some p) f2
   rw [mA k2] at hch
   refine .inr ⟨.inl f1,(kids (some p)).map (idP ns),?_,hnd (some p) f2,by rw [Aw]; exact hsz,fun m hm=>?_,hin (some p) f2⟩
   · rw [f4,bnoS,bndD,bndD,bndD,Aj (show ¬(p:Int) = -1 by omega),DP,bX,bndD,bX,eE,k2,bnoS,chk,Az hR.len,As,k2,bnoS]
     rw [kids_L4 hR room keep A.Cells A.Free A.Used cl (kids (some p)) [] n.first fuel hch (fun z hz=>hR.kid (some p) z f2 hz) (by simp; omega) (fB (by omega))]; rfl
   · rw [uK hR hpos (u:=some p) f2 hm,←f3]; rfl
 · by_cases e:id=0
   · have hsz:=hR.lk.size hR.len (u:=none) trivial
     refine .inr ⟨.inr e,(kids none).map (idP ns),?_,hnd none trivial,by rw [Aw]; exact hsz,fun m hm=>?_,hin none trivial⟩
     · rw [f4,bnoS,bndD,bndD,bndD,Ai e,AO,Fc,bX,bndD,show decide ((-1:Int) = -1)=true from rfl,dA,chk,Az hR.len]
       rw [kids_L3 hR room keep A.Cells A.Free A.Used cl (kids none) [] first fuel (hR.lk.ch none trivial) (fun z hz=>hR.kid none z trivial hz) (by simp; omega) (fB (by omega))]; rfl
     · rw [uK hR hpos (u:=none) trivial hm,e]; rfl
   · refine .inl ⟨fun hh=>hh.elim f1 e,?_⟩
     rw [f4,bnoS,bndD,bndD,bndD,Aj e,Ba,Eb,show decide ((-1:Int) = -1)=true from rfl,dA]
end Go.Fn
open _root_ renaming decide_eq_true_iff → CA
open Go Go.IL
namespace Go.Fn
theorem sS {α:Type} {k:α→Int}:∀ {w:List α},w.Pairwise (fun a b=>k a≤k b)→(w.map k).Nodup→w.Pairwise (fun a b=>k a<k b)
 | [],_,_=>.nil
 | x::w,h,hn=>by
   obtain ⟨h1,h2⟩:=AQ.1 h
   obtain ⟨n1,n2⟩:=Bm.1 hn
   refine AQ.2 ⟨fun y hy=>?_,sS h2 n2⟩
   have:=h1 y hy
   have:k x≠k y:=fun e=>n1 (Al.2 ⟨y,hy,e.symm⟩)
   omega
theorem tsort_t {l:List Int} (hl:l.length≤24) (hn:l.Nodup):∃ w,aBY l=some w∧w.Perm l∧w.Pairwise (· < ·):=by
 have hp:=nP id l
 refine ⟨_,sortI_t (by omega),hp,?_⟩
 refine sS (k:=id) (oR id l) ?_
 rw [CZ]
 exact (hp.nodup_iff).2 hn
theorem ksort_t {l:List Nd} (hl:l.length≤24) (hn:(l.map (·.ID)).Nodup) (hg:∀ m∈l,0≤m.ID∧m.ID≤1048576):∃ w,dV l=some w∧w.Perm l∧w.Pairwise (fun a b=>a.ID<b.ID):=by
 have hp:=nP (fun m:Nd=>m.ID) l
 refine ⟨_,sortK_t (by omega) (fun m hm=>?_) hn,hp,sS (oR _ l) (((hp.map _).nodup_iff).2 hn)⟩
 have:=hg m hm
 rw [AA,CA,CA]
 exact this
end Go.Fn
open Go Go.IL
namespace Go.Fn
theorem Kids_ts {A:AS} {ns:List Nk} {first:Int} {cl:List Int} {R K:Int} {N:List Nd} {E:List Int} (h:TS A ns first cl R K N E) (id:Int) (room keep:Int) :
 ∃ w:List Int,iH id room keep A.Cells A.Free A.Used ns first cl=some w∧w.Pairwise (· < ·)∧(∀ i∈w,hasN N i)∧(¬(hasN N id∨id=0)→w=[])∧((hasN N id∨id=0)→∀ m∈N,(m.ID∈w↔m.aa=id)):=by
 rcases aGS h id room keep with ⟨h1,h2⟩ | ⟨h1,l,h2,h3,h4,h5,h6⟩
 · exact ⟨[],h2,List.Pairwise.nil,fun i hi=>(by cases hi),fun _=>rfl,fun hh=>AJ hh h1⟩
 · have hl:l.length≤24:=by
    have:=rP h3 (m:=N.map (·.ID)) fun i hi=>by
     obtain ⟨m,hm,e⟩:=h6 i hi
     exact Al.2 ⟨m,hm,e⟩
    rw [Aw] at this
    have hN:N.length≤24:=h.fv.ln
    omega
   obtain ⟨w,hw,hp,hs⟩:=tsort_t hl h3
   refine ⟨w,?_,hs,fun i hi=>h6 i (hp.mem_iff.1 hi),fun hh=>AJ h1 hh,fun _ m hm=>?_⟩
   · rw [h2]
     unfold fO
     unfold lD
     rw [hw,bnoS,chk,Az hp.length_eq]
   · rw [hp.mem_iff]; exact h5 m hm
end Go.Fn
open Go Go.IL
namespace Go.Fn
theorem aCS:∀ {l m:List Nd},l.Pairwise (fun a b=>a.ID<b.ID)→m.Pairwise (fun a b=>a.ID<b.ID)→(∀ x,x∈l↔x∈m)→l=m
 | [],[],_,_,_=>rfl
 | [],y::m,_,_,h=>by have:=(h y).2 (by simp); cases this
 | x::l,[],_,_,h=>by have:=(h x).1 (by simp); cases this
 | x :: l,y::m,h1,h2,h=>by
   obtain ⟨a1,a2⟩:=AQ.1 h1
   obtain ⟨b1,b2⟩:=AQ.1 h2
   have e:x=y:=by
    rcases Av.1 ((h x).1 (by simp)) with e | hx
    · exact e
    · rcases Av.1 ((h y).2 (by simp)) with e | hy
      · exact e.symm
      · have:=a1 y hy
        have:=b1 x hx
        omega
   subst e
   rw [aCS a2 b2 fun z=>?_]
   constructor
   · intro hz
     rcases Av.1 ((h z).1 (Bi _ hz)) with e | hz2
     · have:=a1 z hz
       rw [e] at this; omega
     · exact hz2
   · intro hz
     rcases Av.1 ((h z).2 (Bi _ hz)) with e | hz2
     · have:=b1 z hz
       rw [e] at this; omega
     · exact hz2
theorem aCr {A:AS} {ns:List Nk} {first:Int} {cl:List Int} {R K:Int} {N:List Nd} {E:List Int} (h:TS A ns first cl R K N E) (room keep:Int):iX room keep A.Cells A.Free A.Used ns first cl=some N:=by
 obtain ⟨sp,kids,hR,h0⟩:=h.rl
 have hN:N.length≤24:=h.fv.ln
 have hlen:(mO A.Cells 0).length=N.length:=by
  have h1:=zN hR
  rw [hR.ga.used,←tM A.Cells 0] at h1
  omega
 have hc:∀ p∈mO A.Cells 0,gB A p:=fun p hp=>nI.2 hp
 unfold iX
 rw [aEH hR.ga,bnoS]
 have:=aFV hR (lv:=mO A.Cells 0) (by omega) hc room keep A.Cells A.Free A.Used cl (mO A.Cells 0) [] fuel rfl (fB (by omega))
 rw [show ((0:Int))=(([]:List Nat).length:Int) from rfl]
 refine Eq.trans this ?_
 have hids:((mO A.Cells 0).map (yD ns)).map (·.ID)=(mO A.Cells 0).map (idP ns):=by
  rw [BG]
  exact AU fun p hp=>(wF hR (hc p hp)).2.1
 obtain ⟨w,e,hp,hs⟩:=ksort_t (l:=(mO A.Cells 0).map (yD ns)) (by rw [Aw]; omega) (by
  rw [hids]
  exact Bo.2 ((sU A.Cells 0).imp_of_mem fun {p q} hp hq hne e=>hne (hR.inj p q (hc p hp) (hc q hq) e))) (fun m hm=>by
  obtain ⟨p,hp,rfl⟩:=Al.1 hm
  have:=(h.fv.ra _ (wF hR (hc p hp)).1).1
  omega)
 rw [e,bnoS,chk,Az hp.length_eq]
 congr 1
 refine aCS hs hR.so fun x=>?_
 rw [hp.mem_iff]
 constructor
 · intro hx
   obtain ⟨p,hp,rfl⟩:=Al.1 hx
   exact (wF hR (hc p hp)).1
 · intro hx
   obtain ⟨p,n,u,k1,k2,k3,k4,rfl⟩:=hR.bw x hx
   obtain ⟨g1,g2,_⟩:=wF hR k1
   refine Al.2 ⟨p,nI.1 k1,sX hR.so g1 hx ?_⟩
   rw [g2,dL k3]; rfl
end Go.Fn
open Go Go.IL
namespace Go.Fn
end Go.Fn
open Go Go.IL
namespace Go.Fn
end Go.Fn
open Go Go.IL
namespace Go.Fn
end Go.Fn
open Go Go.IL
namespace Go.Fn
inductive Dsc (N:List Nd) (d:Int):Int→Prop
 | child (n:Nd) (hn:n∈N) (hp:n.aa=d):Dsc N d n.ID
 | up (n:Nd) (hn:n∈N) (hp:n.aa≠0) (h:Dsc N d n.aa):Dsc N d n.ID
structure Tr (N:List Nd) (r:Int→Nat):Prop where
 so:N.Pairwise (fun a b=>a.ID<b.ID)
 id:∀ n∈N,1≤n.ID
 pa:∀ n∈N,n.aa=0∨∃ m∈N,m.ID=n.aa
 rk:∀ n∈N,n.aa≠0→r n.aa<r n.ID
theorem FV.tr {K:Int} {st:Fs} (h:FV K st):∃ r,Tr st.ai r:=by
 obtain ⟨r,hr⟩:=h.rk
 exact ⟨r,h.so,fun n hn=>(h.ra n hn).1.1,h.pa,hr⟩
section
variable {N:List Nd} {r:Int→Nat}
theorem wP (h:Tr N r) {n:Nd} (hn:n∈N):gU N N.length n.ID=if n.aa=0 then [] else n.aa::gU N N.length n.aa:=by
 obtain ⟨k,hk⟩:∃ k,N.length=k+1:=⟨N.length-1,by have:=DI hn; omega⟩
 by_cases hz:n.aa=0
 · rw [Az hz,hk,gU,uW h.so hn]
   simp only [Az hz]
 · rw [An hz]
   have e1:gU N N.length n.ID=n.aa::gU N k n.aa:=by
    rw [hk,gU,uW h.so hn]
    simp only [An hz]
   obtain ⟨h1,h2⟩:=oT h.so h.rk h.pa N.length n.ID ⟨n,hn,rfl⟩
   have h3:=rP h1 h2
   rw [e1,AV,AV,Aw] at h3
   have h4:=wQ (N:=N) k n.aa (by omega)
   rw [e1,hk,h4]
end
end Go.Fn
open Go Go.IL
namespace Go.Fn
end Go.Fn
open Go Go.IL
namespace Go.Fn
end Go.Fn
open Go Go.IL
namespace Go.Fn
def askI (N:List Nd) (l:List Int) (i:Int):Bool:=decide (i∈l)&&N.any fun m=>decide (m.ID=i) && !m.ag
def aAo (N:List Nd) (l:List Int) (i:Int):Bool:=askI N l i && !((gU N N.length i).any (askI N l))
structure Marks19 (A:AS) (ns:List Nk) (q:List Int) (B:List Bool):Prop where
 len:B.length=64
 mr:∀ p:Nat,B[p]? = some true↔gB A p∧idP ns p∈q∧(ns.getD p default).closed=false
structure RdAcc (A:AS) (ns:List Nk) (N:List Nd) (l:List Int) (k:Nat) (acc:List Int):Prop where
 nd:acc.Nodup
 ln:acc.length≤k
 me:∀ i,i∈acc↔∃ p,p<k∧gB A p∧idP ns p=i∧aAo N l i=true
end Go.Fn
open Go Go.IL
namespace Go.Fn
end Go.Fn
open List renaming any_append → Ek
open Go Go.IL
namespace Go.Fn
def askN (l:List Int) (n:Nd):Bool:=!n.ag&&decide (n.ID∈l)
def actQ (N:List Nd) (l:List Int) (q:List Nd) (id:Int):Bool:=q.any fun n=>askN l n&&(decide (n.ID=id)||decide (id∈gU N N.length n.ID))
structure aDc (N:List Nd) (l:List Int) (q:List Nd) (v33:List (Int×aX)) (v34 v35:List (Int×Bool)):Prop where
 nd:∀ n∈q,mget v33 n.ID=some n
 no:∀ id,(∀ n∈q,n.ID≠id)→mget v33 id=none
 ct:∀ id,(mget v34 id).getD false=q.any fun n=>decide (n.ID=id)&&askN l n
 c0:v34.length=0↔∀ n∈q,askN l n=false
 ac:∀ id,(mget v35 id).getD false=actQ N l q id
theorem aEF (v32:Int) (kk:Int→List (Int×aX)→List (Int×Bool)→List (Int×Bool)→Af (List Gr×Int)) (x68:List (Int×aX)) (x73:List (Int×Bool)) {P:List Int} (hP:P.length≤1000000) :
 ∀ (r p:List Int) (f:Nat) (v:List (Int×Bool)),P=p++r→r.length<f→∃ w,(∀ id,(mget w id).getD false=((mget v id).getD false||decide (id∈r)))∧iP v32 kk x68 x73 P f (p.length:Int) v=kk (Ag .i64 (v32+1)) x68 x73 w
 | _,_,0,_,_,hf=>AJ hf (by omega)
 | [],p,f+1,v,h,hf=>⟨v,fun id=>by simp,by rw [iP,bndD,rF h,bX,bndD]⟩
 | x :: r,p,f+1,v,h,hf=>by
   obtain ⟨w,h1,h2⟩:=aEF v32 kk x68 x73 hP r (p++[x]) f (mput v x true) (jX h) (by simp at hf ⊢; omega)
   refine ⟨w,fun id=>?_,by rw [iP,bndD,pB h,dA,kH h,bnoS,bndD,bndD,w_at h hP,h2]⟩
   rw [h1 id,rQ]
   by_cases hx:x=id
   · rw [Az hx]; subst hx; simp
   · rw [An hx]
     congr 1
     rw [decide_eq_decide]
     simp [Ne.symm hx]
def pickT (a0:List Gr) (a2 a3:Int) (a4:List aJ) (a5 a6:Int) (a7:List aI) (a8:Int) (a9:List Int) (x1:List Gr) (v33:List (Int×aX)) (v34 v35:List (Int×Bool)):Af (List Gr×Int) :=
 bno (lF a0) fun x94=>bnd (!decide (x94=0)) fun x95=>bnd (decide ((v34.length:Int)=0)) fun x96=>bnd (x95||x96) fun x97 =>
 bif x97 then some (x1,0) else bno (cF x1 v33 v34 v35 a2 a3 a4 a5 a6 a7 a8 a9) fun x99=>eZ a2 a3 a4 a5 a6 a7 a8 a9 v33 v34 v35 fuel x99 0
theorem aBm {A:AS} {ns:List Nk} {first:Int} {cl:List Int} {R K:Int} {N:List Nd} {E:List Int} (h:TS A ns first cl R K N E) (room keep:Int) {l:List Int} (hl:l.length≤1000) (a0 x1:List Gr) :
 ∀ (r q:List Nd) (f:Nat) (v33:List (Int×aX)) (v34 v35:List (Int×Bool)),N=q++r→r.length<f→aDc N l q v33 v34 v35 →
 ∃ w33 w34 w35,aDc N l N w33 w34 w35∧fU a0 l room keep A.Cells A.Free A.Used ns first cl x1 N f (q.length:Int) v33 v34 v35=pickT a0 room keep A.Cells A.Free A.Used ns first cl x1 w33 w34 w35
 | _,_,0,_,_,_,_,hf,_=>AJ hf (by omega)
 | [],q,f+1,v33,v34,v35,hN,hf,hI=>by
   refine ⟨v33,v34,v35,by rw [hN,AR]; rw [hN,AR] at hI; exact hI,?_⟩
   rw [fU,bndD,rF hN,bX]; rfl
 | n :: r,q,f+1,v33,v34,v35,hN,hf,hI=>by
   have hln:N.length≤24:=h.fv.ln
   have hn:n∈N:=by rw [hN]; simp
   have hso:N.Pairwise (fun a b=>a.ID<b.ID):=h.fv.so
   have hne:∀ m∈q,m.ID≠n.ID:=fun m hm=>by
    rw [hN,BD] at hso
    have:=hso.2.2 m hm n (by simp); omega
   have hw:Ag .i64 ((q.length:Int)+1)=((q++[n]).length:Int):=w_at hN (by omega)
   have hnd:∀ m∈q++[n],mget (mput v33 n.ID n) m.ID=some m:=fun m hm=>by
    rw [rQ]
    rcases AT.1 hm with hm | hm
    · rw [An (fun e=>hne m hm e.symm)]; exact hI.nd m hm
    · rw [Cm] at hm; subst hm; exact Az rfl
   have hno:∀ id,(∀ m∈q++[n],m.ID≠id)→mget (mput v33 n.ID n) id=none:=fun id hid=>by
    rw [rQ,An (hid n (by simp))]
    exact hI.no id fun m hm=>hid m (by simp [hm])
   have hcont:bno (gd (n.ag == false) (cS l n.ID) default) (fun x69=>some (n.ag||(!x69)))=some (!askN l n):=by
    unfold askN
    rw [cint (by omega)]
    cases n.ag
    · simp only [Cg,gdtt,bnoS,FB,Ba,CF]
    · rfl
   have hstep:∀ (F:Bool→Af (List Gr×Int)),(bno (gd (n.ag == false) (cS l n.ID) default) fun x69=>bnd (n.ag||(!x69)) fun x70=>F x70)=F (!askN l n):=fun F=>by
    have:(bno (gd (n.ag == false) (cS l n.ID) default) fun x69=>bnd (n.ag||(!x69)) fun x70=>F x70)=bno (bno (gd (n.ag == false) (cS l n.ID) default) (fun x69=>some (n.ag||(!x69)))) F:=by
     cases gd (n.ag == false) (cS l n.ID) default <;> rfl
    rw [this,hcont,bnoS]
   rw [fU,bndD,pB hN,dA,kH hN,bnoS,bndD,hstep]
   cases hk:askN l n with
   | false =>
     rw [Ba,dA,bndD,hw]
     refine aBm h room keep hl a0 x1 r (q++[n]) f _ v34 v35 (jX hN) (by simp at hf ⊢; omega) ⟨hnd,hno,fun id=>?_,?_,fun id=>?_⟩
     · rw [hI.ct id,Ek]; simp [hk]
     · rw [hI.c0]
       constructor
       · intro h1 m hm
         rcases AT.1 hm with hm | hm
         · exact h1 m hm
         · rw [Cm] at hm; subst hm; exact hk
       · exact fun h1 m hm=>h1 m (by simp [hm])
     · rw [hI.ac id]; unfold actQ; rw [Ek]; simp [hk]
   | true =>
     rw [AO,bX,bndD,bndD,aFO h n.ID room keep,Az ⟨n,hn,rfl⟩,bnoS]
     obtain ⟨w,h1,h2⟩:=aEF (q.length:Int) (fU a0 l room keep A.Cells A.Free A.Used ns first cl x1 N f) (mput v33 n.ID n) (mput v34 n.ID true) (P:=gU N N.length n.ID) (by have:=aAE N N.length n.ID; omega) (gU N N.length n.ID) [] fuel (mput v35 n.ID true) rfl (fB (by have:=aAE N N.length n.ID; omega))
     rw [show ((([]:List Int).length:Nat):Int)=0 from rfl] at h2
     rw [h2,hw]
     refine aBm h room keep hl a0 x1 r (q++[n]) f _ _ w (jX hN) (by simp at hf ⊢; omega) ⟨hnd,hno,fun id=>?_,?_,fun id=>?_⟩
     · rw [rQ,Ek]
       by_cases hx:n.ID=id
       · rw [Az hx]; simp [hx,hk]
       · rw [An hx,hI.ct id]; simp [hx]
     · constructor
       · exact fun h0=>AJ h0 (mput_ne _ _ _)
       · intro h0
         have:=h0 n (by simp)
         rw [hk] at this; cases this
     · rw [h1 id,rQ]
       unfold actQ
       rw [Ek]
       by_cases hx:n.ID=id
       · rw [Az hx]; simp [hx,hk]
       · rw [An hx,hI.ac id]; unfold actQ; simp [hx,hk]
theorem lookI0 (N:List Nd) (l:List Int):aDc N l [] [] [] [] where
 nd:=fun n hn=>AJ hn Bx
 no:=fun _ _=>rfl
 ct:=fun _=>rfl
 c0:=⟨fun _ n hn=>AJ hn Bx,fun _=>rfl⟩
 ac:=fun _=>rfl
end Go.Fn
open List renaming filter_cons → Dv,length_singleton → EP
open Go Go.IL
namespace Go.Fn
def mkM (n:Nd):Mb:=⟨n.ID,n.ae,0⟩
def grpM (N:List Nd) (l:List Int) (at_:Int):List Mb:=(N.filter fun n=>decide (n.aa=at_)&&actQ N l N n.ID).map mkM
theorem aDR {α:Type} (p q:α→Bool):∀ l:List α,(l.filter p).filter q=l.filter fun x=>p x&&q x:=fun l=>by
 rw [List.filter_filter]; congr 1; funext x; exact Bool.and_comm _ _
theorem kids_eq {N:List Nd} (hs:N.Pairwise (fun a b=>a.ID<b.ID)) {w:List Int} {at_:Int} (h1:w.Pairwise (· < ·)) (h2:∀ i∈w,hasN N i) (h3:∀ m∈N,(m.ID∈w↔m.aa=at_)):w=(N.filter fun n=>decide (n.aa=at_)).map (·.ID):=by
 have hp:((N.filter fun n=>decide (n.aa=at_)).map (·.ID)).Pairwise (· < ·):=by
  rw [Bo]; exact hs.filter _
 have key:∀ {a b:List Int},a.Pairwise (· < ·)→b.Pairwise (· < ·)→(∀ x,x∈a↔x∈b)→a=b:=by
  intro a
  induction a with
  | nil =>
    intro b _ _ h
    cases b with
    | nil=>rfl
    | cons y b=>have:=(h y).2 (by simp); cases this
  | cons x a ih =>
    intro b ha hb h
    cases b with
    | nil=>have:=(h x).1 (by simp); cases this
    | cons y b =>
      obtain ⟨a1,a2⟩:=AQ.1 ha
      obtain ⟨b1,b2⟩:=AQ.1 hb
      have e:x=y:=by
       rcases Av.1 ((h x).1 (by simp)) with e | hx
       · exact e
       · rcases Av.1 ((h y).2 (by simp)) with e | hy
         · exact e.symm
         · have:=a1 y hy; have:=b1 x hx; omega
      subst e
      rw [ih a2 b2 fun z=>?_]
      constructor
      · intro hz
        rcases Av.1 ((h z).1 (by simp [hz])) with e | hz2
        · have:=a1 z hz; omega
        · exact hz2
      · intro hz
        rcases Av.1 ((h z).2 (by simp [hz])) with e | hz2
        · have:=b1 z hz; omega
        · exact hz2
 refine key h1 hp fun x=>?_
 constructor
 · intro hx
   obtain ⟨m,hm,rfl⟩:=h2 x hx
   exact Al.2 ⟨m,Bq.2 ⟨hm,Ai ((h3 m hm).1 hx)⟩,rfl⟩
 · intro hx
   obtain ⟨m,hm,rfl⟩:=Al.1 hx
   obtain ⟨hm1,hm2⟩:=Bq.1 hm
   exact (h3 m hm1).2 (of_decide_eq_true hm2)
def aFX (v34:List (Int×Bool)) (out:List Gr) (at_:Int) (kk:List Gr→Int→Af (List Gr×Int)) (m:List Mb):Af (List Gr×Int) :=
 bno (iU (⟨at_,m⟩:Gr) out) fun x206=>bno (gL x206 at_) fun x207=>bno (gix x206 x207.1) fun x208=>bno (x206[(x207.1:Int).toNat]?) fun x209 =>
 bno (jM x209) fun x210=>bnd ((mget v34 x210).getD false) fun x211=>bif x211 then some (x206,x210) else kk x206 x210
theorem aAZ {N:List Nd} {l:List Int} {v33:List (Int×aX)} {v34 v35:List (Int×Bool)} (hI:aDc N l N v33 v34 v35) (out:List Gr) (at_:Int) (kk:List Gr→Int→Af (List Gr×Int)) {ks:List Nd} (hks:∀ n∈ks,n∈N) (hkl:ks.length≤1000) :
 ∀ (r q:List Nd) (acc:List Mb) (f:Nat),ks=q++r→r.length<f→acc.length≤q.length →
   gY v33 v34 v35 out at_ kk (ks.map (·.ID)) f (q.length:Int) acc=aFX v34 out at_ kk (acc++(r.filter fun n=>actQ N l N n.ID).map mkM)
 | _,_,_,0,_,hf,_=>AJ hf (by omega)
 | [],q,acc,f+1,h,hf,ha=>by
   have hm:ks.map (·.ID)=q.map (·.ID)++[]:=by rw [h]; simp
   have:=rF hm
   rw [Aw] at this
   rw [gY,bndD,this,bX]
   simp only [ET,Ay,AR]
   rfl
 | n :: r,q,acc,f+1,h,hf,ha=>by
   have hm:ks.map (·.ID)=q.map (·.ID)++n.ID::r.map (·.ID):=by rw [h]; simp
   have hn:n∈N:=hks n (by rw [h]; simp)
   have hql:q.length≤ks.length:=by rw [h]; simp
   have e1:=pB hm
   have e2:=kH hm
   have e3:=w_at hm (by rw [Aw]; omega)
   rw [Aw] at e1 e2
   rw [Be,Aw,EP] at e3
   rw [gY,bndD,e1,dA,e2,bnoS,bndD,hI.ac,hI.nd n hn]
   rw [e3,show q.length+1=(q++[n]).length by simp]
   cases hk:actQ N l N n.ID with
   | false =>
     rw [bX,bndD,aAZ hI out at_ kk hks hkl r (q++[n]) acc f (jX h) (by simp at hf ⊢; omega) (by simp; omega),Dv,hk]
     rfl
   | true =>
     rw [dA,bndD]
     show bno (app 24 acc [(⟨n.ID,n.ae,0⟩:Mb)]) _=_
     rw [nL (by simp; omega) (by simp; omega),bnoS,bndD,aAZ hI out at_ kk hks hkl r (q++[n]) _ f (jX h) (by simp at hf ⊢; omega) (by simp; omega),Dv,hk,AG]
     rfl
theorem aF9 {A:AS} {ns:List Nk} {first:Int} {cl:List Int} {R K:Int} {N:List Nd} {E:List Int} (h:TS A ns first cl R K N E) (room keep:Int) {l:List Int} {v33:List (Int×aX)} {v34 v35:List (Int×Bool)} (hI:aDc N l N v33 v34 v35) (out:List Gr) {at_:Int} (hat:hasN N at_∨at_=0) (f:Nat) :
 eZ room keep A.Cells A.Free A.Used ns first cl v33 v34 v35 (f+1) out at_=aFX v34 out at_ (eZ room keep A.Cells A.Free A.Used ns first cl v33 v34 v35 f) (grpM N l at_):=by
 obtain ⟨w,h1,h2,h3,h4,h5⟩:=Kids_ts h at_ room keep
 have hln:N.length≤24:=h.fv.ln
 have hw:=kids_eq h.fv.so h2 h3 (h5 hat)
 have hfl:(N.filter fun n=>decide (n.aa=at_)).length≤N.length:=Dl _ _
 rw [eZ,h1,bnoS,hw]
 have:=aAZ hI out at_ (eZ room keep A.Cells A.Free A.Used ns first cl v33 v34 v35 f) (ks:=N.filter fun n=>decide (n.aa=at_)) (fun n hn=>(Bq.1 hn).1) (by omega) (N.filter fun n=>decide (n.aa=at_)) [] [] fuel rfl (fB (by omega)) (AL _)
 rw [show ((([]:List Nd).length:Nat):Int)=0 from rfl] at this
 rw [this,BL,aDR]; rfl
theorem zF {α:Type} (p:α→Bool):∀ l:List α,(l.filter p).length+(l.filter fun y=>!p y).length=l.length
 | []=>rfl
 | x::l=>by
   have:=zF p l
   rw [Dv,Dv]
   cases p x <;> simp <;> omega
theorem aC8 {l:List Gr} (h:mV l) {g:Gr} (hb:jJ g.ab=g.ab) :
 ∃ a x c,pA l g=a++x::c∧x.aa=g.aa∧jJ x.ab=g.ab∧(x=g∨x∈l)∧(∀ y∈a,y∈l∧y.aa<g.aa)∧(∀ y∈c,y∈l∧g.aa<y.aa)∧a.Pairwise (fun a b=>a.aa<b.aa)∧c.Pairwise (fun a b=>a.aa<b.aa)∧a.length+c.length≤l.length:=by
 have hp1:(l.filter fun y=>decide (y.aa<g.aa)).Pairwise (fun a b=>a.aa<b.aa):=h.so.filter _
 have hp2:(l.filter fun y=>decide (g.aa≤y.aa)).Pairwise (fun a b=>a.aa<b.aa):=h.so.filter _
 have hm1:∀ y∈l.filter fun y=>decide (y.aa<g.aa),y∈l∧y.aa<g.aa:=fun y hy=>by
  obtain ⟨h1,h2⟩:=Bq.1 hy; exact ⟨h1,of_decide_eq_true h2⟩
 have hm2:∀ y∈l.filter fun y=>decide (g.aa≤y.aa),y∈l∧g.aa≤y.aa:=fun y hy=>by
  obtain ⟨h1,h2⟩:=Bq.1 hy; exact ⟨h1,of_decide_eq_true h2⟩
 have hlen:(l.filter fun y=>decide (y.aa<g.aa)).length+(l.filter fun y=>decide (g.aa≤y.aa)).length=l.length:=by
  have e:(fun y:Gr=>decide (g.aa≤y.aa))=fun y=>!decide (y.aa<g.aa):=by
   funext y
   by_cases hy:y.aa<g.aa
   · rw [Ai hy,Aj (by omega)]; rfl
   · rw [Aj hy,Ai (by omega)]; rfl
  rw [e]; exact zF _ l
 unfold pA
 revert hp2 hm2 hlen
 generalize l.filter (fun y=>decide (g.aa≤y.aa))=b
 intro hp2 hm2 hlen
 cases b with
 | nil=>exact ⟨_,g,[],rfl,rfl,hb,.inl rfl,hm1,fun y hy=>(by cases hy),hp1,List.Pairwise.nil,by rw [Cd] at hlen ⊢; omega⟩
 | cons y c =>
   obtain ⟨p1,p2⟩:=AQ.1 hp2
   have hy:=hm2 y (by simp)
   show ∃ a x c',_++(if y.aa=g.aa then (if jJ y.ab=g.ab then y::c else g::c) else g::y::c)=_∧_
   by_cases h1:y.aa=g.aa
   · have hc:∀ z∈c,z∈l∧g.aa<z.aa:=fun z hz=>⟨(hm2 z (by simp [hz])).1,by have:=p1 z hz; omega⟩
     rw [Az h1]
     by_cases h2:jJ y.ab=g.ab
     · rw [Az h2]; exact ⟨_,y,c,rfl,h1,h2,.inr hy.1,hm1,hc,hp1,p2,by simp at hlen; omega⟩
     · rw [An h2]; exact ⟨_,g,c,rfl,rfl,hb,.inl rfl,hm1,hc,hp1,p2,by simp at hlen; omega⟩
   · rw [An h1]
     refine ⟨_,g,y::c,rfl,rfl,hb,.inl rfl,hm1,fun z hz=>?_,hp1,hp2,by omega⟩
     rcases Av.1 hz with rfl | hz
     · exact ⟨hy.1,by omega⟩
     · exact ⟨(hm2 z (by simp [hz])).1,by have:=p1 z hz; omega⟩
def PIn (N:List Nd) (l:List Gr):Prop:=∀ g∈l,hasN N g.aa∨g.aa=0
theorem pin_len {N:List Nd} {l:List Gr} (hN:N.length≤24) (hp:PIn N l) (hs:l.Pairwise (fun a b=>a.aa<b.aa)):l.length≤25:=by
 have h1:(l.map (·.aa)).Nodup:=by
  unfold FG
  rw [Bo]
  exact hs.imp fun h=>by omega
 have h2:=rP h1 (m:=0::N.map (·.ID)) fun x hx=>by
  obtain ⟨g,hg,rfl⟩:=Al.1 hx
  rcases hp g hg with ⟨m,hm,e⟩ | e
  · exact Bi _ (Al.2 ⟨m,hm,e⟩)
  · show g.aa∈_; rw [e]; simp
 simp at h2; omega
structure qA (m:List Mb):Prop where
 ln:m.length≤24
 ok:∀ x∈m,okM x
 so:m.Pairwise (fun a b=>a.ID<b.ID)
theorem aBF {K:Int} {N:List Nd} {E:List Int} (h:FV K ⟨24,K,N,E⟩) (l:List Int) (at_:Int):qA (grpM N l at_)∧jJ (grpM N l at_)=grpM N l at_:=by
 refine ⟨⟨?_,fun x hx=>?_,?_⟩,?_⟩
 · unfold grpM
   rw [Aw]
   have:=Dl (fun n=>decide (n.aa=at_)&&actQ N l N n.ID) N
   have:N.length≤24:=h.ln
   omega
 · obtain ⟨n,hn,rfl⟩:=Al.1 hx
   have h1:=h.ra n (Bq.1 hn).1
   exact ⟨h1.1,h1.2,(by show (0:Int)≤0; omega),(by show (0:Int)≤_; omega)⟩
 · unfold grpM
   rw [Bo]
   exact (h.so.filter _)
 · unfold jJ grpM; rw [BG]; rfl
def grpG (l:List Gr) (p:Int):List Mb:=((l.find? fun g=>decide (g.aa=p)).map (·.ab)).getD []
theorem grpG_at {a c:List Gr} {x:Gr} (ha:∀ y∈a,y.aa<x.aa):grpG (a++x::c) x.aa=x.ab:=by
 unfold grpG
 rw [DN,CB.2 (fun y hy=>by have:=ha y hy; simp; omega)]
 simp
def topM:List Mb→Int
 | []=>0
 | b::l=>(qR b l).ID
theorem aA3 {N:List Nd} (hN:N.length≤24) {l:List Gr} (h:mV l) (hp:PIn N l) {at_:Int} {m:List Mb} (hat:hasN N at_∨at_=0) (hr:0≤at_∧at_≤1048576) (hm:qA m) (hb:jJ m=m) :
 mV (pA l ⟨at_,m⟩)∧PIn N (pA l ⟨at_,m⟩)∧∃ a x c,pA l ⟨at_,m⟩=a++x::c∧x.aa=at_∧jJ x.ab=m∧(∀ y∈a,y.aa<at_)∧(∀ y∈c,at_<y.aa):=by
 obtain ⟨a,x,c,h1,h2,h3,h4,h5,h6,h7,h8,h9⟩:=aC8 h (g:=⟨at_,m⟩) hb
 have hx:x.ab.length≤24∧(∀ y∈x.ab,okM y)∧x.ab.Pairwise (fun a b=>a.ID<b.ID):=by
  rcases h4 with rfl | h4
  · exact ⟨hm.ln,hm.ok,hm.so⟩
  · exact ⟨h.ml x h4,h.mr x h4,h.mo x h4⟩
 have hmem:∀ y∈a++x::c,y=x∨y∈l:=fun y hy=>by
  rcases AT.1 hy with hy | hy
  · exact .inr (h5 y hy).1
  · rcases Av.1 hy with hy | hy
    · exact .inl hy
    · exact .inr (h6 y hy).1
 have hso:(a++x::c).Pairwise (fun a b=>a.aa<b.aa):=by
  rw [BD]
  refine ⟨h7,AQ.2 ⟨fun y hy=>by have:=(h6 y hy).2; simp only at h2 this; omega,h8⟩,fun y hy z hz=>?_⟩
  have e1:=(h5 y hy).2
  rcases Av.1 hz with rfl | hz
  · simp only at h2 e1; omega
  · have e2:=(h6 z hz).2; simp only at e1 e2; omega
 have hpin:PIn N (a++x::c):=fun y hy=>by
  rcases hmem y hy with rfl | hy
  · simp only at h2; rw [h2]; exact hat
  · exact hp y hy
 rw [h1]
 refine ⟨⟨pin_len hN hpin hso,fun y hy=>?_,fun y hy=>?_,fun y hy=>?_,fun y hy=>?_,hso⟩,hpin,a,x,c,rfl,h2,h3,fun y hy=>(h5 y hy).2,fun y hy=>(h6 y hy).2⟩
 · rcases hmem y hy with rfl | hy
   · exact hx.1
   · exact h.ml y hy
 · rcases hmem y hy with rfl | hy
   · simp only at h2; omega
   · exact h.pa y hy
 · rcases hmem y hy with rfl | hy
   · exact hx.2.1
   · exact h.mr y hy
 · rcases hmem y hy with rfl | hy
   · exact hx.2.2
   · exact h.mo y hy
theorem aFW {N:List Nd} (hN:N.length≤24) {out:List Gr} (h:mV out) (hp:PIn N out) {at_:Int} {m:List Mb} (hat:hasN N at_∨at_=0) (hr:0≤at_∧at_≤1048576) (hm:qA m) (hb:jJ m=m) (hne:m≠[]) (v34:List (Int×Bool)) (kk:List Gr→Int→Af (List Gr×Int)) :
 aFX v34 out at_ kk m=(bif (mget v34 (topM (grpG (pA out ⟨at_,m⟩) at_))).getD false then some (pA out ⟨at_,m⟩,topM (grpG (pA out ⟨at_,m⟩) at_)) else kk (pA out ⟨at_,m⟩) (topM (grpG (pA out ⟨at_,m⟩) at_))) ∧
  ∃ x∈m,topM (grpG (pA out ⟨at_,m⟩) at_)=x.ID:=by
 obtain ⟨g1,g2,a,x,c,g3,g4,g5,g6,g7⟩:=aA3 hN h hp hat hr hm hb
 have hgr:grpG (pA out ⟨at_,m⟩) at_=x.ab:=by
  rw [g3,←g4]; exact grpG_at fun y hy=>by rw [g4]; exact g6 y hy
 have hx:x∈pA out ⟨at_,m⟩:=by rw [g3]; simp
 have hxl:=g1.ml x hx
 unfold aFX
 rw [aFv h hr,bnoS,hgr]
 obtain ⟨a',b',e1,e2,e3,e4⟩:=aEu g1 hr
 have ea:a'=a:=by
  rw [e2,g3,CP,Dv,BJ.2 (fun y hy=>Ai (g6 y hy)),Aj (show ¬x.aa<at_ by omega),CK.2 (fun y hy=>by have:=g7 y hy; simp; omega)]
  simp
 rcases e4 with ⟨y,c',f1,f2,f3⟩ | ⟨f1,_⟩
 · rw [f3,bnoS,ea,kH g3,bnoS,aAb g3,bnoS]
   cases hm2:x.ab with
   | nil =>
     rw [hm2] at g5
     exact AJ g5.symm hne
   | cons b r =>
     have hlr:r.length≤1000:=by rw [hm2] at hxl; simp at hxl; omega
     rw [aEs hm2 hlr (g1.mr x hx),bnoS,bndD]
     refine ⟨rfl,?_⟩
     have hbm:qR b r∈x.ab:=by
      rw [hm2]
      rcases vW r b with e | e
      · rw [e]; simp
      · exact Bi _ e
     refine ⟨⟨(qR b r).ID,(qR b r).ae,0⟩,?_,rfl⟩
     rw [←g5]
     exact Al.2 ⟨_,hbm,rfl⟩
 · exact AJ g4 (f1 x hx)
end Go.Fn
open Bool renaming or_false → Cl
open Go Go.IL
namespace Go.Fn
def aC4 (N:List Nd) (l:List Int):Nat→List Gr→Int→Af (List Gr×Int)
 | 0,_,_=>none
 | k+1,out,at_ =>
   let out':=pA out ⟨at_,grpM N l at_⟩
   let id:=topM (grpG out' at_)
   bif N.any (fun n=>decide (n.ID=id)&&askN l n) then some (out',id) else aC4 N l k out' id
def askB (N:List Nd) (l:List Int) (id:Int):Bool:=N.any fun n=>decide (n.ID=id)&&askN l n
theorem aGk (N:List Nd) (l:List Int) (id:Int):askB N l id=askI N l id:=by
 unfold askB askI askN
 rw [EQ]
 simp only [Bu,AA,decide_eq_true_eq,Eu]
 constructor
 · rintro ⟨n,h1,h2,h3,h4⟩; exact ⟨h2 ▸ h4,n,h1,h2,h3⟩
 · rintro ⟨h1,n,h2,h3,h4⟩; exact ⟨n,h2,h3,h4,h3.symm ▸ h1⟩
theorem act_kid {N:List Nd} {r:Int→Nat} (h:Tr N r) {l:List Int} {at_:Int} (ha:actQ N l N at_=true) (hk:askB N l at_=false):∃ m∈N,m.aa=at_∧actQ N l N m.ID=true:=by
 obtain ⟨n,hn,h1⟩:=Bu.1 ha
 rw [AA,BC,decide_eq_true_eq,decide_eq_true_eq] at h1
 obtain ⟨h1,h2⟩:=h1
 rcases h2 with h2 | h2
 · exfalso
   have:askB N l at_=true:=Bu.2 ⟨n,hn,by rw [h1,Ai h2]; rfl⟩
   rw [hk] at this; cases this
 · have key : ∀ (j:Nat) (z:Nd),z∈N→r z.ID≤j→at_∈gU N N.length z.ID→∃ m∈N,m.aa=at_∧(m.ID=z.ID∨m.ID∈gU N N.length z.ID):=by
    intro j
    induction j with
    | zero =>
      intro z hz hj hat
      rw [wP h hz] at hat
      by_cases h0:z.aa=0
      · rw [Az h0] at hat; cases hat
      · have:=h.rk z hz h0; omega
    | succ j ih =>
      intro z hz hj hat
      rw [wP h hz] at hat ⊢
      by_cases h0:z.aa=0
      · rw [Az h0] at hat; cases hat
      · rw [An h0] at hat ⊢
        rcases Av.1 hat with e | hat
        · exact ⟨z,hz,e.symm,.inl rfl⟩
        · rcases h.pa z hz with e | ⟨p,hp,e⟩
          · exact AJ e h0
          · have hr:=h.rk z hz h0
            rw [←e] at hat hr ⊢
            obtain ⟨m,hm1,hm2,hm3⟩:=ih p hp (by omega) hat
            exact ⟨m,hm1,hm2,.inr (by rcases hm3 with e2 | e2 <;> simp [e2])⟩
   obtain ⟨m,hm1,hm2,hm3⟩:=key (r n.ID) n hn (AL _) h2
   refine ⟨m,hm1,hm2,Bu.2 ⟨n,hn,?_⟩⟩
   rw [h1,CF,BC,decide_eq_true_eq,decide_eq_true_eq]
   rcases hm3 with e | e
   · exact .inl e.symm
   · exact .inr e
theorem aGQ {N:List Nd} {r:Int→Nat} (h:Tr N r) {l:List Int} (ha:∃ n∈N,askN l n=true):∃ m∈N,m.aa=0∧actQ N l N m.ID=true:=by
 obtain ⟨n,hn,hk⟩:=ha
 have key:∀ (j:Nat) (z:Nd),z∈N→r z.ID≤j→∃ m∈N,m.aa=0∧(m.ID=z.ID∨m.ID∈gU N N.length z.ID):=by
  intro j
  induction j with
  | zero =>
    intro z hz hj
    by_cases h0:z.aa=0
    · exact ⟨z,hz,h0,.inl rfl⟩
    · have:=h.rk z hz h0; omega
  | succ j ih =>
    intro z hz hj
    by_cases h0:z.aa=0
    · exact ⟨z,hz,h0,.inl rfl⟩
    · rcases h.pa z hz with e | ⟨p,hp,e⟩
      · exact AJ e h0
      · have hr:=h.rk z hz h0
        rw [wP h hz,An h0]
        rw [←e] at hr ⊢
        obtain ⟨m,hm1,hm2,hm3⟩:=ih p hp (by omega)
        exact ⟨m,hm1,hm2,.inr (by rcases hm3 with e2 | e2 <;> simp [e2])⟩
 obtain ⟨m,hm1,hm2,hm3⟩:=key (r n.ID) n hn (AL _)
 refine ⟨m,hm1,hm2,Bu.2 ⟨n,hn,?_⟩⟩
 rw [hk,CF,BC,decide_eq_true_eq,decide_eq_true_eq]
 rcases hm3 with e | e
 · exact .inl e.symm
 · exact .inr e
structure AtI (N:List Nd) (l:List Int) (at_:Int):Prop where
 nd:at_≠0→∃ n∈N,n.ID=at_
 ac:∃ m∈N,m.aa=at_∧actQ N l N m.ID=true
 nk:at_≠0→askI N l at_=false∧(gU N N.length at_).any (askI N l)=false
def muR (N:List Nd) (r:Int→Nat) (at_:Int):Nat:=if at_=0 then N.length+1 else (N.countP fun n=>decide (r at_<r n.ID))+1
theorem muR_le (N:List Nd) (r:Int→Nat) (at_:Int):muR N r at_≤N.length+1:=by
 unfold muR; split
 · omega
 · have:=Dm (p:=fun n=>decide (r at_<r n.ID)) (l:=N); omega
theorem muR_lt {N:List Nd} {r:Int→Nat} (h:Tr N r) {m:Nd} (hm:m∈N):muR N r m.ID<muR N r m.aa:=by
 have h0:m.ID≠0:=by have:=h.id m hm; omega
 unfold muR
 rw [An h0]
 have hlt:∀ (p:Nd→Bool),p m=false→N.countP p<N.length:=fun p hp=>by
  have:∀ (L:List Nd),m∈L→L.countP p<L.length:=by
   intro L
   induction L with
   | nil=>intro hL; cases hL
   | cons x L ih =>
     intro hL
     rw [Du,AV]
     have hle:=Dm (p:=p) (l:=L)
     rcases Av.1 hL with e | hL
     · rw [←e,hp]; simp; omega
     · have:=ih hL; split <;> omega
  exact this N hm
 by_cases hp:m.aa=0
 · rw [Az hp]
   have:=hlt (fun n=>decide (r m.ID<r n.ID)) (by simp)
   omega
 · rw [An hp]
   have hr:=h.rk m hm hp
   have : ∀ (L:List Nd),m∈L→L.countP (fun n=>decide (r m.ID<r n.ID))<L.countP (fun n=>decide (r m.aa<r n.ID)):=by
    intro L
    have hmono:∀ (L:List Nd),L.countP (fun n=>decide (r m.ID<r n.ID))≤L.countP (fun n=>decide (r m.aa<r n.ID)):=fun L=>List.countP_mono_left fun n _ hn=>by
     rw [decide_eq_true_eq] at hn ⊢; omega
    induction L with
    | nil=>intro hL; cases hL
    | cons x L ih =>
      intro hL
      rw [Du,Du]
      have hle:=hmono L
      rcases Av.1 hL with e | hL
      · rw [←e,An (by simp),Az (Ai hr)]; omega
      · have:=ih hL
        by_cases hx:r m.ID<r x.ID
        · rw [Az (Ai hx),Az (Ai (by omega))]; omega
        · rw [An (by simpa using hx)]; split <;> omega
   have:=this N hm
   omega
theorem aD3 {A:AS} {ns:List Nk} {first:Int} {cl:List Int} {R K:Int} {N:List Nd} {E:List Int} (h:TS A ns first cl R K N E) {r:Int→Nat} (hT:Tr N r) (room keep:Int) {l:List Int} {v33:List (Int×aX)} {v34 v35:List (Int×Bool)} (hI:aDc N l N v33 v34 v35) :
 ∀ (k f:Nat) (out:List Gr) (at_:Int),mV out→PIn N out→AtI N l at_→muR N r at_≤k→muR N r at_≤f →
 ∃ out' id,eZ room keep A.Cells A.Free A.Used ns first cl v33 v34 v35 f out at_=some (out',id)∧aC4 N l k out at_=some (out',id)∧mV out'∧PIn N out'∧hasN N id∧aAo N l id=true
 | 0,f,out,at_,_,_,_,hk,_=>by exfalso; unfold muR at hk; split at hk <;> omega
 | k+1,0,out,at_,_,_,_,_,hf=>by exfalso; unfold muR at hf; split at hf <;> omega
 | k + 1,f+1,out,at_,hg,hp,ha,hk,hf=>by
   have hln:N.length≤24:=h.fv.ln
   have hat:hasN N at_∨at_=0:=by
    by_cases h0:at_=0
    · exact .inr h0
    · exact .inl (ha.nd h0)
   have hr:0≤at_∧at_≤1048576:=by
    rcases hat with ⟨m,hm,e⟩ | e
    · have:=(h.fv.ra m hm).1; omega
    · omega
   obtain ⟨hm1,hm2⟩:=aBF h.fv l at_
   have hne:grpM N l at_≠[]:=by
    obtain ⟨m,h1,h2,h3⟩:=ha.ac
    intro h0
    have:mkM m∈grpM N l at_:=Al.2 ⟨m,Bq.2 ⟨h1,by rw [Ai h2,h3]; rfl⟩,rfl⟩
    rw [h0] at this; cases this
   obtain ⟨s1,x,hx,s2⟩:=aFW hln hg hp hat hr hm1 hm2 hne v34 (eZ room keep A.Cells A.Free A.Used ns first cl v33 v34 v35 f)
   obtain ⟨g1,g2,_⟩:=aA3 hln hg hp hat hr hm1 hm2
   obtain ⟨m,hmN,rfl⟩:=Al.1 hx
   obtain ⟨hmN,hmP⟩:=Bq.1 hmN
   rw [AA,decide_eq_true_eq] at hmP
   have hid:topM (grpG (pA out ⟨at_,grpM N l at_⟩) at_)=m.ID:=s2
   rw [aF9 h room keep hI out hat,s1]
   show ∃ out' id,_∧(bif N.any (fun n=>decide (n.ID=topM (grpG (pA out ⟨at_,grpM N l at_⟩) at_))&&askN l n) then some (pA out ⟨at_,grpM N l at_⟩,topM (grpG (pA out ⟨at_,grpM N l at_⟩) at_)) else aC4 N l k (pA out ⟨at_,grpM N l at_⟩) (topM (grpG (pA out ⟨at_,grpM N l at_⟩) at_)))=_∧_
   rw [hid,hI.ct m.ID,show (N.any fun n=>decide (n.ID=m.ID)&&askN l n)=askI N l m.ID from aGk N l m.ID]
   have hpath:(gU N N.length m.ID).any (askI N l)=false:=by
    rw [wP hT hmN,hmP.1]
    by_cases h0:at_=0
    · rw [Az h0]; rfl
    · obtain ⟨n1,n2⟩:=ha.nk h0
      rw [An h0,List.any_cons,n1,n2]; rfl
   cases hq:askI N l m.ID with
   | true =>
     rw [dA]
     refine ⟨_,_,rfl,by rw [dA],g1,g2,⟨m,hmN,rfl⟩,?_⟩
     unfold aAo; rw [hq,hpath]; rfl
   | false =>
     rw [bX,bX]
     have hmu:=muR_lt hT hmN
     rw [hmP.1] at hmu
     exact aD3 h hT room keep hI k f _ m.ID g1 g2 ⟨fun _=>⟨m,hmN,rfl⟩,act_kid hT hmP.2 (by rw [aGk]; exact hq),fun _=>⟨hq,hpath⟩⟩ (by omega) (by omega)
def aAO (N:List Nd) (l:List Gr):List Gr:=l.filter fun g=>!(!decide (g.aa=0) && !(N.any fun n=>decide (n.ID=g.aa)))
def aFN (N:List Nd) (l:List Int) (st:List Gr):Af (List Gr×Int) :=
 bif !decide (sI st=0) || !(N.any (askN l)) then some (st,0) else aC4 N l 25 (aAO N st) 0
theorem aEK {N:List Nd} {st:List Gr} (h:mV st):mV (aAO N st)∧PIn N (aAO N st):=by
 have hm:∀ g∈aAO N st,g∈st:=fun g hg=>(Bq.1 hg).1
 refine ⟨⟨?_,fun g hg=>h.ml g (hm g hg),fun g hg=>h.pa g (hm g hg),fun g hg=>h.mr g (hm g hg),fun g hg=>h.mo g (hm g hg),h.so.filter _⟩,fun g hg=>?_⟩
 · have:=Dl (fun g=>!(!decide (g.aa=0) && !(N.any fun n=>decide (n.ID=g.aa)))) st
   have:=h.ln
   unfold aAO; omega
 · have:=(Bq.1 hg).2
   simp only [Bool.not_and,Bool.not_not,BC,decide_eq_true_eq,Bu] at this
   rcases this with e | ⟨n,hn,e⟩
   · exact .inr e
   · exact .inl ⟨n,hn,e⟩
theorem Pick_ts {A:AS} {ns:List Nk} {first:Int} {cl:List Int} {R K:Int} {N:List Nd} {E:List Int} (h:TS A ns first cl R K N E) (room keep:Int) {l:List Int} (hl:l.length≤1000) {st:List Gr} (hst:fitG st) :
 ∃ out id,lU st l room keep A.Cells A.Free A.Used ns first cl=some (out,id)∧aFN N l st=some (out,id) ∧
   ((mV st∧(∃ n∈N,askN l n=true)∧mV out∧PIn N out∧hasN N id∧aAo N l id=true)∨(out=st∧id=0∧(¬mV st∨∀ n∈N,askN l n=false))):=by
 obtain ⟨w33,w34,w35,hI,hL⟩:=aBm h room keep hl st st N [] fuel [] [] [] rfl (fB (by have:N.length≤24:=h.fv.ln; omega)) (lookI0 N l)
 rw [show ((([]:List Nd).length:Nat):Int)=0 from rfl] at hL
 obtain ⟨r,hT⟩:∃ r,Tr N r:=h.fv.tr
 unfold lU
 rw [aFj hst,bnoS,aCr h room keep,bnoS,hL]
 unfold pickT aFN
 rw [aBP hst,bnoS,bndD,bndD,bndD]
 have hc:decide ((w34.length:Int)=0) = !(N.any (askN l)):=by
  cases hq:N.any (askN l) with
  | true =>
    obtain ⟨n,hn,hk⟩:=Bu.1 hq
    refine Aj fun h0=>?_
    have:=hI.c0.1 (by omega) n hn
    rw [hk] at this; cases this
  | false =>
    refine Ai ?_
    rw [CJ] at hq
    have:=hI.c0.2 fun n hn=>by simpa using hq n hn
    omega
 rw [hc]
 by_cases hg:sI st=0
 · have hgood:=nT.1 hg
   cases hq:N.any (askN l) with
   | false =>
     rw [Ai hg]
     refine ⟨st,0,rfl,rfl,.inr ⟨rfl,rfl,.inr fun n hn=>?_⟩⟩
     rw [CJ] at hq
     simpa using hq n hn
   | true =>
     rw [Ai hg]
     simp only [AO,Cl,bX]
     rw [del20 (by have:=hst.1; omega),bnoS]
     have hex:∃ n∈N,askN l n=true:=Bu.1 hq
     have hk:(st.filter fun g=>!(!decide (g.aa=0) && !(mget w33 g.aa).isSome))=aAO N st:=by
      unfold aAO
      congr 1
      funext g
      congr 3
      cases hm:(N.any fun n=>decide (n.ID=g.aa)) with
      | true =>
        obtain ⟨n,hn,e⟩:=Bu.1 hm
        rw [decide_eq_true_eq] at e
        rw [←e,hI.nd n hn]; rfl
      | false =>
        rw [CJ] at hm
        rw [hI.no g.aa fun n hn=>by simpa using hm n hn]; rfl
     rw [hk]
     obtain ⟨k1,k2⟩:=aEK (N:=N) hgood
     have hln:N.length≤24:=h.fv.ln
     have hmu:=muR_le N r 0
     obtain ⟨out,id,p1,p2,p3,p4,p5,p6⟩:=aD3 h hT room keep hI 25 fuel (aAO N st) 0 k1 k2 ⟨fun h0=>AJ rfl h0,aGQ hT hex,fun h0=>AJ rfl h0⟩ (by omega) (Nat.le_of_lt (fB (by omega)))
     exact ⟨out,id,p1,p2,.inl ⟨hgood,hex,p3,p4,p5,p6⟩⟩
 · rw [Aj hg]
   exact ⟨st,0,rfl,rfl,.inr ⟨rfl,rfl,.inl fun hgood=>hg (nT.2 hgood)⟩⟩
end Go.Fn
open Go Go.IL
namespace Go.Fn
theorem aF7 {l:List Mb} (hl:l.length≤1000) (id:Int):(bD l id=some (-1)∧∀ y∈l,y.ID≠id)∨∃ a x t,l=a++x::t∧(∀ y∈a,y.ID≠id)∧x.ID=id∧bD l id=some (a.length:Int):=by
 unfold bD
 rcases vT (L:=bH l id) (q:=fun y=>decide (y.ID=id)) (l:=l) (fun p x r f h=>by
  rw [bH]; simp only [lP,bndD,pB h,dA,kH h,bnoS,w_at h (show l.length≤1000000 by omega)]) (fun f=>by
  rw [bH]; simp only [bndD,rE,bX]) l [] fuel rfl (fB (by omega)) (fun _ h=>(Bx h).elim) with ⟨h1,h2⟩ | ⟨a,x,t,h1,h2,h3,h4⟩
 · exact .inl ⟨h1,fun y hy=>of_decide_eq_false (h2 y hy)⟩
 · exact .inr ⟨a,x,t,h1,fun y hy=>of_decide_eq_false (h2 y hy),of_decide_eq_true h3,h4⟩
def addM (l:List Mb) (id b:Int):List Mb:=l.map fun m=>if m.ID=id then ⟨m.ID,m.ae,m.af+b⟩ else m
def yF (l:List Mb) (id b:Int):List Mb:=match l.find? fun m=>decide (m.ID=id) with | none=>l | some m=>addM (if 1099511627776-b<m.af then jJ l else l) id b
theorem aBl {l:List Mb} (h:l.Pairwise (fun a b=>a.ID<b.ID)) {x y:Mb} (hx:x∈l) (hy:y∈l) (e:x.ID=y.ID):x=y:=by
 induction l with
 | nil=>cases hx
 | cons z l ih =>
   obtain ⟨h1,h2⟩:=AQ.1 h
   rcases Av.1 hx with e1 | k1 <;> rcases Av.1 hy with e2 | k2
   · rw [e1,e2]
   · have:=h1 y k2; rw [←e1] at this; omega
   · have:=h1 x k1; rw [←e2] at this; omega
   · exact ih h2 k1 k2
theorem rR {α:Type} {f:α→α} {l:List α} (h:∀ y∈l,f y=y):l.map f=l:=by
 induction l with
 | nil=>rfl
 | cons x l ih=>rw [Am,h x (by simp),ih fun y hy=>h y (by simp [hy])]
theorem aDZ {a t:List Mb} {x:Mb} (ha:∀ y∈a,y.ID≠x.ID) (ht:∀ y∈t,y.ID≠x.ID) (b:Int):addM (a++x::t) x.ID b=a++⟨x.ID,x.ae,x.af+b⟩::t:=by
 unfold addM
 rw [BR,Am,Az rfl,rR (fun y hy=>An (ha y hy)),rR (fun y hy=>An (ht y hy))]
theorem aB8 (a t:List Mb) (x:Mb):jJ (a++x::t)=jJ a++⟨x.ID,x.ae,0⟩::jJ t:=by unfold jJ; rw [BR,Am]
theorem aCm {a:List Mb} {id:Int} (h:∀ y∈a,y.ID≠id):∀ y∈jJ a,y.ID≠id:=fun y hy=>by
 obtain ⟨z,hz,rfl⟩:=Al.1 hy
 exact h z hz
theorem aCT {a t:List Mb} {x:Mb} {b:Int} (ha:∀ y∈a,y.ID≠x.ID) (ht:∀ y∈t,y.ID≠x.ID) (h1:0≤x.af+b) (h2:x.af+b≤1099511627776) {k:Nat} (hk:k=a.length):fD (a++x::t) (k:Int) b=some (addM (a++x::t) x.ID b):=by
 subst hk
 unfold fD
 rw [kH rfl,bnoS,bndD,w64 (by omega) (by omega),aDZ ha ht,zT]
theorem aFr {l:List Mb} (h:qA l) (p id:Int) {b:Int} (hb:0≤b∧b≤1048576):gM ⟨p,l⟩ id b=some (yF l id b):=by
 have hln:=h.ln
 unfold gM yF
 show bno (bD l id) _=_
 rcases aF7 (l:=l) (by omega) id with ⟨h1,h2⟩ | ⟨a,x,t,h1,h2,h3,h4⟩
 · rw [h1,bnoS,bndD,show decide ((-1:Int)<0)=true from rfl,dA,CB.2 (fun y hy=>by simp [h2 y hy])]
 · have hx:x∈l:=by rw [h1]; simp
   have hok:=h.ok x hx
   have hso:=h.so
   rw [h1,BD] at hso
   have ht:∀ y∈t,y.ID≠x.ID:=fun y hy=>by have:=(AQ.1 hso.2.1).1 y hy; omega
   have ha:∀ y∈a,y.ID≠x.ID:=by rw [h3]; exact h2
   have hf:l.find? (fun m=>decide (m.ID=id))=some x:=by
    rw [h1,DN,CB.2 (fun y hy=>by simpa using h2 y hy)]; simp [h3]
   rw [h4,bnoS,bndD,Aj (by omega),bX,hf]
   show bno (gix l (a.length:Int)) _=some (addM (if 1099511627776-b<x.af then jJ l else l) id b)
   obtain ⟨_,_,hs1,hs2⟩:=hok
   rw [kH h1,bnoS,bndD,bndD,w64 (by omega) (by omega),←h3]
   by_cases hc:1099511627776-b<x.af
   · rw [Ai hc,dA,aFF (by show l.length≤_; omega),bnoS,Az hc]
     show fD (jJ l) _ b=_
     rw [h1,aB8]
     exact aCT (x:=⟨x.ID,x.ae,0⟩) (aCm ha) (aCm ht) (by show 0≤0+b; omega) (by show 0+b≤_; omega) (by simp [jJ])
   · rw [Aj hc,bX,An hc]
     show fD l _ b=_
     rw [h1]
     exact aCT ha ht (by omega) (by omega) rfl
theorem yA {l:List Mb} (h:qA l) {id b:Int} (hb:0≤b) (hs:∀ m∈l,m.ID=id→m.af+b≤1099511627776):qA (addM l id b):=by
 refine ⟨by unfold addM; rw [Aw]; exact h.ln,fun y hy=>?_,?_⟩
 · obtain ⟨m,hm,rfl⟩:=Al.1 hy
   obtain ⟨o1,o2,o3⟩:=h.ok m hm
   by_cases e:m.ID=id
   · simp only [Az e]; exact ⟨o1,o2,(by show 0≤m.af+b; omega),hs m hm e⟩
   · simp only [An e]; exact ⟨o1,o2,o3⟩
 · unfold addM
   rw [Bo]
   refine h.so.imp fun {x y} hxy=>?_
   split <;> split <;> exact hxy
theorem aDX {l:List Mb} (h:qA l):qA (jJ l):=by
 refine ⟨by unfold jJ; rw [Aw]; exact h.ln,fun y hy=>?_,?_⟩
 · obtain ⟨m,hm,rfl⟩:=Al.1 hy
   obtain ⟨o1,o2,o3⟩:=h.ok m hm
   exact ⟨o1,o2,(by show (0:Int)≤0; omega),(by show (0:Int)≤_; omega)⟩
 · unfold jJ
   rw [Bo]
   exact h.so
theorem aC7 {l:List Mb} (h:qA l) (id:Int) {b:Int} (hb:0≤b∧b≤1048576):qA (yF l id b):=by
 unfold yF
 cases hf:l.find? (fun m=>decide (m.ID=id)) with
 | none=>exact h
 | some x =>
   have hx:=CS hf
   have hi:x.ID=id:=by have:=ER hf; simpa using this
   show qA (addM (if 1099511627776-b<x.af then jJ l else l) id b)
   by_cases hc:1099511627776-b<x.af
   · rw [Az hc]
     refine yA (aDX h) hb.1 fun m hm _=>?_
     obtain ⟨z,_,rfl⟩:=Al.1 hm
     show 0+b≤_; omega
   · rw [An hc]
     refine yA h hb.1 fun m hm e=>?_
     have:=aBl h.so hm hx (by rw [e,hi])
     rw [this]; omega
theorem mV.mem {l:List Gr} (h:mV l) {g:Gr} (hg:g∈l):qA g.ab:=⟨h.ml g hg,h.mr g hg,h.mo g hg⟩
def yG (l:List Gr) (p id b:Int):List Gr:=l.map fun g=>if g.aa=p then ⟨g.aa,yF g.ab id b⟩ else g
theorem yW {l:List Gr} (h:mV l) (p id:Int) {b:Int} (hb:0≤b∧b≤1048576):mV (yG l p id b):=by
 have key:∀ g∈yG l p id b,∃ z∈l,g.aa=z.aa∧qA g.ab:=fun g hg=>by
  obtain ⟨z,hz,rfl⟩:=Al.1 hg
  refine ⟨z,hz,?_⟩
  by_cases e:z.aa=p
  · simp only [Az e]; exact ⟨trivial,aC7 (h.mem hz) id hb⟩
  · simp only [An e]; exact ⟨trivial,h.mem hz⟩
 refine ⟨by unfold yG; rw [Aw]; exact h.ln,fun g hg=>?_,fun g hg=>?_,fun g hg=>?_,fun g hg=>?_,?_⟩
 · obtain ⟨z,hz,e,k⟩:=key g hg; exact k.ln
 · obtain ⟨z,hz,e,k⟩:=key g hg; rw [e]; exact h.pa z hz
 · obtain ⟨z,hz,e,k⟩:=key g hg; exact k.ok
 · obtain ⟨z,hz,e,k⟩:=key g hg; exact k.so
 · unfold yG
   rw [Bo]
   refine h.so.imp fun {x y} hxy=>?_
   split <;> split <;> exact hxy
def xX (b:Int):List Gr→Int→List Int→List Gr
 | st,_,[]=>st
 | st,id,p::r=>xX b (yG st p id b) p r
theorem vD {b:Int} (hb:0≤b∧b≤1048576):∀ (r:List Int) (st:List Gr) (id:Int),mV st→mV (xX b st id r)
 | [],_,_,h=>h
 | p::r,st,id,h=>vD hb r _ p (yW h p id hb)
theorem aCl {b:Int} (hb:0≤b∧b≤1048576) {P:List Int} (hP:P.length≤1000000) (hpr:∀ p∈P,0≤p∧p≤1048576) :
 ∀ (r q:List Int) (f:Nat) (gs:List Gr) (id:Int),P=q++r→r.length<f→mV gs→fA P b f gs (q.length:Int) id=some (xX b gs id r)
 | _,_,0,_,_,_,hf,_=>AJ hf (by omega)
 | [],q,f+1,gs,id,h,hf,hg=>by rw [fA,bndD,rF h,bX]; rfl
 | x :: r,q,f+1,gs,id,h,hf,hg=>by
   have hm:=yW hg x id hb
   have hrec:=aCl hb hP hpr r (q++[x]) f (yG gs x id b) x (jX h) (by simp at hf ⊢; omega) hm
   rw [fA,bndD,pB h,dA,kH h,bnoS,aAb h,bnoS]
   obtain ⟨a,c,h1,h2,h3,h4⟩:=aEu hg (hpr x (by rw [h]; simp))
   rcases h4 with ⟨y,c',e1,e2,e3⟩ | ⟨e1,e3⟩
   · have hl:gs=a++y::c':=by rw [h1,e1]
     have hy:y∈gs:=by rw [hl]; simp
     have hs:gs.set ((a.length:Nat):Int).toNat (⟨y.aa,yF y.ab id b⟩:aG)=yG gs x id b:=by
      have hso:=hg.so
      rw [hl,BD] at hso
      rw [hl,zT]
      unfold yG
      rw [BR,Am,Az e2,rR (fun z hz=>An (by have:=hso.2.2 z hz y (by simp); omega)),rR (fun z hz=>An (by have:=(AQ.1 hso.2.1).1 z hz; omega))]
     rw [e3,bnoS]
     show bno (gix gs (a.length:Int)) _=_
     rw [kH hl,bnoS,show y=⟨y.aa,y.ab⟩ from rfl,aFr (hg.mem hy) _ _ hb,bnoS,bndD,bndD,w_at h hP]
     show fA P b f (gs.set ((a.length:Nat):Int).toNat (⟨y.aa,yF y.ab id b⟩:aG)) _ x=_
     rw [hs,hrec]; rfl
   · rw [e3,bnoS]
     show (bnd (Ag .i64 ((q.length:Int)+1)) fun x37=>fA P b f gs x37 x)=_
     rw [bndD,w_at h hP]
     have hs:yG gs x id b=gs:=rR fun z hz=>An (e1 z hz)
     show _=some (xX b (yG gs x id b) x r)
     rw [←hrec,hs]
def qS (N:List Nd) (st:List Gr) (id b:Int):List Gr :=
 bif decide (sI st=0)&&inB b 0 1048576&&N.any (fun n=>decide (n.ID=id)) then xX b st id (gU N N.length id++[0]) else st
theorem aCN (a1 a2:Int) (a3:List AC) (a4 a5:Int) (a6:List Nk) (a7:Int) (a8:List Int):∀ (f:Nat) (v:List Int) (w:Int),fH a1 a2 a3 a4 a5 a6 a7 a8 f v w=eO a1 a2 a3 a4 a5 a6 a7 a8 f v w
 | 0,_,_=>rfl
 | f+1,v,w=>by
   rw [fH,eO]
   simp only [aCN a1 a2 a3 a4 a5 a6 a7 a8 f]
theorem aDb {A:AS} {ns:List Nk} {first:Int} {cl:List Int} {R K:Int} {N:List Nd} {E:List Int} (h:TS A ns first cl R K N E) (id:Int) (room keep:Int):jC id room keep A.Cells A.Free A.Used ns first cl=some (if hasN N id then gU N N.length id else []):=by
 rw [←aFO h id room keep]
 unfold jC jN
 simp only [aCN]
theorem aB4 {N:List Nd} (hN:N.length≤1000000) (id:Int):cQ N id=some (N.any fun n=>decide (n.ID=id)):=by
 unfold cQ dX
 exact oG (P:=fun n=>nW n id) (q:=fun n=>decide (n.ID=id)) (fun g=>rfl) (I:=cE N id) (fun f v=>rfl) hN
theorem aFI (N:List Nd) (id:Int):N.any (fun n=>decide (n.ID=id))=true↔hasN N id:=by
 rw [Bu]
 exact ⟨fun ⟨n,h1,h2⟩=>⟨n,h1,of_decide_eq_true h2⟩,fun ⟨n,h1,h2⟩=>⟨n,h1,Ai h2⟩⟩
theorem aBS {N:List Nd} {st:List Gr} (h:mV st) (id b:Int):mV (qS N st id b):=by
 unfold qS
 cases hc:(decide (sI st=0)&&inB b 0 1048576&&N.any (fun n=>decide (n.ID=id))) with
 | false=>exact h
 | true =>
   rw [AA,AA] at hc
   exact vD (qO.1 hc.1.2) _ _ _ h
theorem aFQ {A:AS} {ns:List Nk} {first:Int} {cl:List Int} {R K:Int} {N:List Nd} {E:List Int} (h:TS A ns first cl R K N E) (room keep:Int) {st:List Gr} (hst:fitG st) (id b:Int):lM st id b room keep A.Cells A.Free A.Used ns first cl=some (qS N st id b):=by
 have hln:N.length≤24:=h.fv.ln
 unfold lM qS
 rw [aGb hst,bnoS,aBP hst,bnoS,bndD]
 by_cases hg:sI st=0
 · have hgood:=nT.1 hg
   rw [Ai hg,show ((!true) == false)=true from rfl,gdtt,qC,bnoS,bndD]
   cases hb:inB b 0 1048576 with
   | false=>rfl
   | true =>
     have hbr:=qO.1 hb
     simp only [AO,Cl,bX,CF]
     rw [aDb h,bnoS,aCr h,bnoS,aB4 (by omega),bnoS]
     cases ha:N.any (fun n=>decide (n.ID=id)) with
     | false=>rfl
     | true =>
       have hh:=(aFI N id).1 ha
       obtain ⟨rk,htr⟩:∃ rk,Tr N rk:=h.fv.tr
       obtain ⟨p1,p2⟩:=oT htr.so htr.rk htr.pa N.length id hh
       have p3:=rP p1 p2
       rw [AV,Aw] at p3
       rw [Az hh,dA]
       simp only [AO,bX]
       rw [nL (by simp; omega) (by simp; omega),bnoS]
       exact aCl hbr (by simp; omega) (fun p hp=>by
        rcases AT.1 hp with hp | hp
        · obtain ⟨m,hm,e⟩:=Al.1 (p2 p (Bi _ hp))
          have:=(h.fv.ra m hm).1; omega
        · rw [Cm.1 hp]; omega) (gU N N.length id++[0]) [] fuel st id rfl (fB (by simp; omega)) hgood
 · rw [Aj hg]
   show bno (gd false _ default) _=_
   rw [gdff,bnoS]; rfl
def aGR (N:List Nd) (l:List Int) (b:Int) (st:List Gr):Af (List Gr×Int) :=
 bno (aFN N l st) fun x=>bif decide (x.2=0) then some (x.1,0) else some (qS N x.1 x.2 b,x.2)
theorem Next_ts {A:AS} {ns:List Nk} {first:Int} {cl:List Int} {R K:Int} {N:List Nd} {E:List Int} (h:TS A ns first cl R K N E) (room keep:Int) {l:List Int} (hl:l.length≤1000) {st:List Gr} (hst:fitG st) (b:Int) :
 ∃ out id,mS st l b room keep A.Cells A.Free A.Used ns first cl=some (out,id)∧aGR N l b st=some (out,id) ∧
   ((mV st∧(∃ n∈N,askN l n=true)∧mV out∧hasN N id∧id≠0∧aAo N l id=true)∨(out=st∧id=0∧(¬mV st∨∀ n∈N,askN l n=false))):=by
 obtain ⟨out,id,h1,h2,h3⟩:=Pick_ts h room keep hl hst
 unfold mS aGR
 rw [h1,bnoS,bndD,h2,bnoS]
 rcases h3 with ⟨k1,k2,k3,k4,k5,k6⟩ | ⟨k1,k2,k3⟩
 · have h0:id≠0:=by
    obtain ⟨m,hm,e⟩:=k5
    have:=(h.fv.ra m hm).1; omega
   rw [Aj h0]
   refine ⟨qS N out id b,id,?_,rfl,.inl ⟨k1,k2,aBS k3 id b,k5,h0,k6⟩⟩
   show bno (lM out id b room keep A.Cells A.Free A.Used ns first cl) _=_
   rw [aFQ h room keep k3.fit,bnoS]
 · rw [k1,k2]
   exact ⟨st,0,rfl,rfl,.inr ⟨rfl,rfl,k3⟩⟩
end Go.Fn
open Go Go.IL
namespace Go.Fn
theorem aBG:mV []:=⟨by simp,fun _ h=>(by cases h),fun _ h=>(by cases h),fun _ h=>(by cases h),fun _ h=>(by cases h),List.Pairwise.nil⟩
end Go.Fn
open Int renaming mul_assoc → DG,mul_comm → FN,mul_le_mul_of_nonneg_right → Cy
open Nat renaming zero_add → Bh
open _root_ renaming UInt8 → Ct
open Go Go.IL
namespace Go.Fn
def sibN:List Ct→Nat→List Nd
 | [],_=>[]
 | w::l,i=>⟨1+2*(i:Int),0,1+(w.toNat:Int),false⟩::sibN l (i+1)
theorem aBa:∀ (p:List Ct) (w:Ct) (i:Nat),sibN (p++[w]) i=sibN p i++[⟨1+2*((i+p.length:Nat):Int),0,1+(w.toNat:Int),false⟩]
 | [],w,i=>rfl
 | x::p,w,i=>by
   show _::sibN (p++[w]) (i+1)=_
   rw [aBa p w (i+1)]
   show _=(_::sibN p (i+1))++_
   rw [BQ,show i+1+p.length=i+(x::p).length by simp; omega]
theorem uB:∀ (p:List Ct) (i:Nat),(sibN p i).length=p.length
 | [],_=>rfl
 | x::p,i=>by show (sibN p (i+1)).length+1=_; rw [uB p]; rfl
theorem wE:∀ {p:List Ct} {i:Nat} {n:Nd},n∈sibN p i→(1+2*(i:Int)≤n.ID∧n.ID<1+2*((i+p.length:Nat):Int))∧n.aa=0∧(1≤n.ae∧n.ae≤256)∧n.ag=false
 | [],_,_,h=>by cases h
 | x :: p,i,n,h=>by
   rcases Av.1 h with rfl | h
   · have hx:=x.toNat_lt
     refine ⟨⟨?_,?_⟩,rfl,⟨?_,?_⟩,rfl⟩
     · show 1+2*(i:Int)≤1+2*(i:Int); omega
     · show 1+2*(i:Int)<_; simp; omega
     · show 1≤1+(x.toNat:Int); omega
     · show 1+(x.toNat:Int)≤256; omega
   · obtain ⟨⟨h1,h2⟩,h3,h4,h5⟩:=wE h
     refine ⟨⟨by push_cast at h1; omega,?_⟩,h3,h4,h5⟩
     have:i+(x::p).length=i+1+p.length:=by simp; omega
     rw [this]; exact h2
def sibI (p:List Ct):List Int:=(sibN p 0).map (·.ID)
theorem sib_ids {p:List Ct} {w:Ct}:sibI (p++[w])=sibI p++[1+2*(p.length:Int)]:=by
 unfold sibI
 rw [aBa,BR,Bh]; rfl
theorem aEk {N:List Nd} {id w:Int} (hs:N.Pairwise (fun a b=>a.ID<b.ID)) (hn:∀ n∈N,n.ID<id):pE (newS N id) id ⟨0,w,false⟩=N++[⟨id,0,w,false⟩]:=by
 have e1:newS N id=N++[⟨id,0,16,false⟩]:=by
  unfold newS lowN aEh
  rw [BJ.2 (fun n h=>Ai (hn n h)),CK.2 (fun n h=>by have:=hn n h; simp; omega)]
 unfold pE
 rw [show vZ (newS N id) ⟨0,w,false⟩=⟨0,w,false⟩ from An (fun h=>h.1 rfl)]
 show (upN (newS N id) id 0).map (nQ id 0 w false)=_
 rw [show upN (newS N id) id 0=newS N id from An (fun h=>h.1 rfl),e1,BR,rR (fun n h=>by
  have:=hn n h
  unfold nQ
  rw [An (by omega),An (by simp)])]
 show N++[nQ id 0 w false ⟨id,0,16,false⟩]=_
 unfold nQ
 rw [Az rfl]
theorem aC0 {A:AS} {ns:List Nk} {first:Int} {cl:List Int} {K:Int} {E:List Int} {p:List Ct} (h:TS A ns first cl 24 K (sibN p 0) E) (hp:p.length≤10) (w:Ct) :
 ∃ A' ns' first' cl',fI (1+2*(p.length:Int)) 0 (1+(w.toNat:Int)) false 24 K A.Cells A.Free A.Used ns first cl=some (0,24,K,A'.Cells,A'.Free,A'.Used,ns',first',cl')∧TS A' ns' first' cl' 24 K (sibN (p++[w]) 0) E:=by
 have hw:=w.toNat_lt
 have hlt:∀ n∈sibN p 0,n.ID<1+2*(p.length:Int):=fun n hn=>by have:=(wE hn).1.2; rw [Bh] at this; exact this
 obtain ⟨A',ns',first',cl',h1,h2⟩:=aFP h (1+2*(p.length:Int)) 0 (1+(w.toNat:Int)) false
 have e:uS 24 (sibN p 0) E (1+2*(p.length:Int)) ⟨0,1+(w.toNat:Int),false⟩=(0,sibN (p++[w]) 0,E):=by
  have hwc:zK (1+2*(p.length:Int)) ⟨0,1+(w.toNat:Int),false⟩=0:=by
   unfold zK
   rw [Az (show fitW _ _ from ⟨by omega,⟨by show (0:Int)≤0; omega,by show (0:Int)≤_; omega⟩,by show 1≤1+(w.toNat:Int); omega,by show 1+(w.toNat:Int)≤_; omega⟩)]
   exact An (show ¬1+2*(p.length:Int)=0 by omega)
  unfold uS
  rw [Az hwc,An (fun ⟨n,hn,e⟩=>by have:=hlt n hn; omega)]
  unfold insS
  rw [Az (by rw [uB]; omega),aEk h.fv.so hlt,aBa,Bh]
 rw [e] at h1 h2
 exact ⟨A',ns',first',cl',h1,h2⟩
theorem aBZ {p:List Ct} {n:Nd} (hn:n∈sibN p 0):askN (sibI p) n=true:=by
 unfold askN
 rw [(wE hn).2.2.2,Ai (show n.ID∈sibI p from Al.2 ⟨n,hn,rfl⟩)]; rfl
theorem aDo (p:List Ct):grpM (sibN p 0) (sibI p) 0=(sibN p 0).map mkM:=by
 unfold grpM
 rw [BJ.2 fun n hn=>?_]
 rw [(wE hn).2.1,Ai rfl,CF]
 exact Bu.2 ⟨n,hn,by rw [aBZ hn,Ai rfl]; rfl⟩
theorem aAf:∀ (l:List Mb) (b:Mb),1≤b.ae→(∀ m∈l,1≤m.ae)→(qR b l).af*b.ae≤b.af*(qR b l).ae∧(∀ y∈l,(qR b l).af*y.ae≤y.af*(qR b l).ae)∧1≤(qR b l).ae
 | [],b,hb,_=>⟨Dj _,fun _ h=>(by cases h),hb⟩
 | m :: l,b,hb,hl=>by
   have hm:=hl m (by simp)
   have tr:∀ {r x z:Mb},1≤r.ae→1≤x.ae→1≤z.ae→r.af*x.ae≤x.af*r.ae→x.af*z.ae≤z.af*x.ae→r.af*z.ae≤z.af*r.ae:=by
    intro r x z hr hx hz h1 h2
    have k1:=Cy h1 (show 0≤z.ae by omega)
    have k2:=Cy h2 (show 0≤r.ae by omega)
    have e1:r.af*x.ae*z.ae=(r.af*z.ae)*x.ae:=by rw [DG,FN x.ae,←DG]
    have e2:x.af*r.ae*z.ae=x.af*z.ae*r.ae:=by rw [DG,FN r.ae,←DG]
    have e3:z.af*x.ae*r.ae=(z.af*r.ae)*x.ae:=by rw [DG,FN x.ae,←DG]
    rw [e1,e2] at k1
    rw [e3] at k2
    exact Int.le_of_mul_le_mul_right (Int.le_trans k1 k2) (by omega)
   unfold qR
   by_cases hc:m.af*b.ae<b.af*m.ae
   · rw [Az hc]
     obtain ⟨h1,h2,h3⟩:=aAf l m hm fun y hy=>hl y (by simp [hy])
     refine ⟨tr h3 hm hb h1 (by omega),fun y hy=>?_,h3⟩
     rcases Av.1 hy with e | hy
     · rw [e]; exact h1
     · exact h2 y hy
   · rw [An hc]
     obtain ⟨h1,h2,h3⟩:=aAf l b hb fun y hy=>hl y (by simp [hy])
     refine ⟨h1,fun y hy=>?_,h3⟩
     rcases Av.1 hy with e | hy
     · rw [e]; exact tr h3 hb hm h1 (by omega)
     · exact h2 y hy
theorem top_min {l:List Mb} (hne:l≠[]) (hw:∀ m∈l,1≤m.ae):∃ m∈l,topM l=m.ID∧∀ y∈l,m.af*y.ae≤y.af*m.ae:=by
 cases l with
 | nil=>exact AJ rfl hne
 | cons b l =>
   obtain ⟨h1,h2,h3⟩:=aAf l b (hw b (by simp)) fun y hy=>hw y (by simp [hy])
   refine ⟨qR b l,?_,rfl,fun y hy=>?_⟩
   · rcases vW l b with e | e
     · rw [e]; simp
     · exact Bi _ e
   · rcases Av.1 hy with e | hy
     · rw [e]; exact h1
     · exact h2 y hy
def aCA (l:List Mb) (most:Int):Prop:=∀ x∈l,∀ y∈l,x.af*y.ae-y.af*x.ae≤most*y.ae
theorem aEz {l:List Mb} {a b:Int} (h:aCA l a) (hab:a≤b) (hw:∀ m∈l,1≤m.ae):aCA l b:=fun x hx y hy=>by
 have h1:=h x hx y hy
 have h2:=Cy hab (show 0≤y.ae by have:=hw y hy; omega)
 omega
theorem aE0 {l:List Mb} {most b:Int} (h:aCA l most) (hw:∀ m∈l,1≤m.ae) (hu:l.Pairwise (fun a b=>a.ID<b.ID)) (hb:0≤b) {m:Mb} (hm:m∈l) (hmin:∀ y∈l,m.af*y.ae≤y.af*m.ae):aCA (addM l m.ID b) (max most b):=by
 have hup:=aEz h (show most≤max most b by omega) hw
 intro x' hx' y' hy'
 obtain ⟨x,hx,rfl⟩:=Al.1 hx'
 obtain ⟨y,hy,rfl⟩:=Al.1 hy'
 have h0:=hup x hx y hy
 have hwx:=hw x hx
 have hwy:=hw y hy
 have hwm:=hw m hm
 have hbw:0≤b*x.ae:=Dr hb (by omega)
 have hbm:=Cy (show b≤max most b by omega) (show 0≤y.ae by omega)
 by_cases e1:x.ID=m.ID
 · have ex:=aBl hu hx hm e1
   by_cases e2:y.ID=m.ID
   · have ey:=aBl hu hy hm e2
     simp only [Az e1,Az e2]
     rw [ex,ey]
     have:=Dr (show 0≤max most b by omega) (show 0≤m.ae by omega)
     show (m.af+b)*m.ae-(m.af+b)*m.ae≤_
     omega
   · simp only [Az e1,An e2]
     have hmy:=hmin y hy
     rw [←ex] at hmy
     show (x.af+b)*y.ae-y.af*x.ae≤_
     rw [Int.add_mul]; omega
 · by_cases e2:y.ID=m.ID
   · simp only [An e1,Az e2]
     show x.af*y.ae-(y.af+b)*x.ae≤_
     rw [Int.add_mul]; omega
   · simp only [An e1,An e2]
     exact h0
theorem aAy {m n:Mb} (hm:okM m) (hn:okM n) {c d most:Int} (hmo:0≤most∧most≤1099511627776) (hc:0≤c∧c≤m.af) (hd:0≤d∧d≤n.af)
 (h1:m.af*n.ae-n.af*m.ae≤most*n.ae) (h2:n.af*m.ae-m.af*n.ae≤most*m.ae) (h3:c*n.ae-d*m.ae≤most*n.ae) (h4:d*m.ae-c*n.ae≤most*m.ae) :
 kL m n ⟨c,d⟩ most=some true:=by
 obtain ⟨_,m1,m2⟩:=hm
 obtain ⟨_,n1,n2⟩:=hn
 rw [zR]
 have e1:aAK m n c d most=true:=by
  simp only [aAK,AA,qO]
  exact ⟨⟨⟨⟨⟨⟨m1,n1⟩,m2⟩,n2⟩,hmo⟩,hc⟩,hd⟩
 have e2:aFo m n c d most=true:=by
  unfold aFo
  rw [decide_eq_true_eq,Int.sub_mul,Int.sub_mul,Int.mul_add]
  omega
 show some (aAK m n c d most&&aFo m n c d most)=_
 rw [e1,e2]; rfl
end Go.Fn
open Int renaming zero_mul → EU
open List renaming getElem?_map → CI,length → Ej,length_eq_zero_iff → Bf,pairwise_singleton → EA
open Go Go.IL
namespace Go.Fn
theorem xT {ms:List Mb} (h:qA ms):mV [⟨0,ms⟩]:=by
 refine ⟨by simp,fun g hg=>?_,fun g hg=>?_,fun g hg=>?_,fun g hg=>?_,EA _ _⟩ <;> (rw [Cm.1 hg])
 · exact h.ln
 · exact ⟨by show (0:Int)≤0; omega,by show (0:Int)≤_; omega⟩
 · exact h.ok
 · exact h.so
theorem aFf {p:List Ct} (hp:p≠[]) {ms:List Mb} {st:List Gr} (hb:jJ ms=(sibN p 0).map mkM) (hg:qA ms) (hst:st=[⟨0,ms⟩]∨(st=[]∧ms=(sibN p 0).map mkM)) :
 ∃ m∈ms,(∀ y∈ms,m.af*y.ae≤y.af*m.ae)∧(∃ n∈sibN p 0,n.ID=m.ID)∧aFN (sibN p 0) (sibI p) st=some ([⟨0,ms⟩],m.ID):=by
 have hl:ms.length=p.length:=by have:=AH Ej hb; rw [jJ,Aw,Aw,uB] at this; exact this
 have hne:ms≠[]:=fun e=>by rw [e] at hl; exact hp (Bf.1 hl.symm)
 obtain ⟨m,hm,ht,hmin⟩:=top_min hne fun m hm=>(hg.ok m hm).2.1.1
 obtain ⟨n,hn,en⟩:∃ n∈sibN p 0,n.ID=m.ID:=by
  have:(⟨m.ID,m.ae,0⟩:Mb)∈(sibN p 0).map mkM:=by rw [←hb]; exact Al.2 ⟨m,hm,rfl⟩
  obtain ⟨n,hn,e⟩:=Al.1 this
  exact ⟨n,hn,AH aM.ID e⟩
 refine ⟨m,hm,hmin,⟨n,hn,en⟩,?_⟩
 have hck:sI st=0:=by
  rcases hst with e | ⟨e,_⟩
  · rw [e]; exact nT.2 (xT hg)
  · rw [e]; exact nT.2 aBG
 have hk:aAO (sibN p 0) st=st:=by
  rcases hst with e | ⟨e,_⟩ <;> (rw [e]; rfl)
 have hmd:pA st ⟨0,(sibN p 0).map mkM⟩=[⟨0,ms⟩]:=by
  rcases hst with e | ⟨e,e2⟩
  · rw [e]
    show ([]:List Gr)++(if (0:Int)=0 then (if jJ ms=(sibN p 0).map mkM then [⟨0,ms⟩] else [⟨0,(sibN p 0).map mkM⟩]) else _)=_
    rw [Az rfl,Az hb]; rfl
  · rw [e,←e2]; rfl
 have hany:(sibN p 0).any (askN (sibI p))=true:=Bu.2 ⟨n,hn,aBZ hn⟩
 have hid:(sibN p 0).any (fun n=>decide (n.ID=m.ID)&&askN (sibI p) n)=true:=Bu.2 ⟨n,hn,by rw [aBZ hn,Ai en]; rfl⟩
 unfold aFN
 rw [Ai hck,hany,hk]
 show aC4 (sibN p 0) (sibI p) (24+1) st 0=_
 unfold aC4
 rw [aDo,hmd]
 show (bif (sibN p 0).any (fun n=>decide (n.ID=topM ms)&&askN (sibI p) n) then some ([(⟨0,ms⟩:Gr)],topM ms) else _)=_
 rw [ht,hid,dA]
theorem aFn {A:AS} {ns:List Nk} {first:Int} {cl:List Int} {K:Int} {E:List Int} {p:List Ct} (h:TS A ns first cl 24 K (sibN p 0) E) (hp:p≠[]) {ms:List Mb} {st:List Gr} (hb:jJ ms=(sibN p 0).map mkM) (hg:qA ms) (hst:st=[⟨0,ms⟩]∨(st=[]∧ms=(sibN p 0).map mkM)) {b:Int} (hbb:0≤b∧b≤65535) (hs:∀ m∈ms,m.af≤10000000) :
 ∃ m∈ms,(∀ y∈ms,m.af*y.ae≤y.af*m.ae)∧m.ID≠0∧aGR (sibN p 0) (sibI p) b st=some ([⟨0,addM ms m.ID b⟩],m.ID):=by
 obtain ⟨m,hm,hmin,⟨n,hn,en⟩,h1⟩:=aFf hp hb hg hst
 have h0:m.ID≠0:=by have:=(hg.ok m hm).1; omega
 refine ⟨m,hm,hmin,h0,?_⟩
 obtain ⟨rk,htr⟩:∃ rk,Tr (sibN p 0) rk:=h.fv.tr
 have hpath:gU (sibN p 0) (sibN p 0).length m.ID=[]:=by rw [←en,wP htr hn,Az (wE hn).2.1]
 have hmore:yF ms m.ID b=addM ms m.ID b:=by
  unfold yF
  cases hf:ms.find? (fun x=>decide (x.ID=m.ID)) with
  | none=>have:=CB.1 hf m hm; simp at this
  | some x =>
    have hx:=hs x (CS hf)
    show addM (if 1099511627776-b<x.af then jJ ms else ms) m.ID b=_
    rw [An (by omega)]
 have hc:qS (sibN p 0) [⟨0,ms⟩] m.ID b=[⟨0,addM ms m.ID b⟩]:=by
  unfold qS
  rw [Ai (nT.2 (xT hg)),qO.2 ⟨hbb.1,by omega⟩,(aFI _ _).2 ⟨n,hn,en⟩,hpath]
  show [(⟨0,yF ms m.ID b⟩:Gr)]=_
  rw [hmore]
 unfold aGR
 rw [h1,bnoS]
 show (bif decide (m.ID=0) then _ else some (qS (sibN p 0) [⟨0,ms⟩] m.ID b,m.ID))=_
 rw [Aj h0,bX,hc]
structure aAh (n:Nat) (ms ms0:List Mb) (most:Int):Prop where
 g:qA ms
 g0:qA ms0
 l:ms.length=n
 l0:ms0.length=n
 w:∀ (i:Nat) (x y:Mb),ms0[i]? = some x→ms[i]? = some y→x.ae=y.ae∧x.af≤y.af
 f:aCA ms most
 f0:aCA ms0 most
 mo:0≤most∧most≤65535
theorem aAh.near {k:Nat} {ms ms0:List Mb} {most:Int} (h:aAh k ms ms0 most) {a b:Nat} {m n m0 n0:Mb} (ha:ms[a]? = some m) (hb:ms[b]? = some n) (ha0:ms0[a]? = some m0) (hb0:ms0[b]? = some n0) :
 kL m n ⟨m0.af,n0.af⟩ most=some true∧kL m n ⟨0,0⟩ most=some true:=by
 have m1:=Cn ha
 have m2:=Cn hb
 have m3:=Cn ha0
 have m4:=Cn hb0
 obtain ⟨w1,w2⟩:=h.w a m0 m ha0 ha
 obtain ⟨w3,w4⟩:=h.w b n0 n hb0 hb
 have o1:=h.g.ok m m1
 have o2:=h.g.ok n m2
 have o3:=h.g0.ok m0 m3
 have o4:=h.g0.ok n0 m4
 have f1:=h.f m m1 n m2
 have f2:=h.f n m2 m m1
 have f3:=h.f0 m0 m3 n0 m4
 have f4:=h.f0 n0 m4 m0 m3
 rw [w1,w3] at f3 f4
 have hmo:=h.mo
 have p1:=Dr hmo.1 (show 0≤n.ae by have:=o2.2.1; omega)
 have p2:=Dr hmo.1 (show 0≤m.ae by have:=o1.2.1; omega)
 exact ⟨aAy o1 o2 (by omega) ⟨o3.2.2.1,w2⟩ ⟨o4.2.2.1,w4⟩ f1 f2 f3 f4,aAy o1 o2 (by omega) ⟨by omega,o1.2.2.1⟩ ⟨by omega,o2.2.2.1⟩ f1 f2 (by rw [EU,EU]; omega) (by rw [EU,EU]; omega)⟩
theorem aCh {α:Type} {l:List α} {i:Nat} (h:i<l.length):∃ x,l[i]? = some x:=⟨l[i],AY h⟩
theorem aE2 {n:Nat} (hn:n≤100) {ms ms0:List Mb} {most:Int} (h:aAh n ms ms0 most) (kk:Int→Af Bool) (id:Int) {a:Nat} (ha:a<n):∀ (k b f:Nat),b+k=a→k<f→eL kk ([⟨0,ms⟩],id) most [⟨0,ms0⟩] (a:Int) f (b:Int)=kk ((a+1:Nat):Int)
 | _,_,0,_,hf=>AJ hf (by omega)
 | 0,b,f+1,hb,hf=>by
   rw [eL,bndD,Aj (by omega),bX,bndD,w64 (by omega) (by omega)]; rfl
 | k+1,b,f+1,hb,hf=>by
   obtain ⟨m,hm⟩:=aCh (l:=ms) (i:=a) (by rw [h.l]; omega)
   obtain ⟨x,hx⟩:=aCh (l:=ms) (i:=b) (by rw [h.l]; omega)
   obtain ⟨m0,hm0⟩:=aCh (l:=ms0) (i:=a) (by rw [h.l0]; omega)
   obtain ⟨x0,hx0⟩:=aCh (l:=ms0) (i:=b) (by rw [h.l0]; omega)
   obtain ⟨t1,t2⟩:=h.near hm hx hm0 hx0
   have e1:gix [(⟨0,ms⟩:Gr)] 0=some ⟨0,ms⟩:=rfl
   have e2:gix [(⟨0,ms0⟩:Gr)] 0=some ⟨0,ms0⟩:=rfl
   have ih:=aE2 hn h kk id ha k (b+1) f (by omega) (by omega)
   rw [eL,bndD,Ai (by omega),dA]
   show bno (gix [(⟨0,ms⟩:Gr)] 0) _=_
   rw [e1,bnoS]
   show bno (gix ms (a:Int)) _=_
   rw [eE,hm,bnoS,bnoS]
   show bno (gix ms (b:Int)) _=_
   rw [eE,hx,bnoS,e2,bnoS]
   show bno (gix ms0 (a:Int)) _=_
   rw [eE,hm0,bnoS,bnoS]
   show bno (gix ms0 (b:Int)) _=_
   rw [eE,hx0,bnoS,t1,bnoS]
   show bno (gd true (kL m x ⟨0,0⟩ most) default) _=_
   rw [gdtt,t2,bnoS,bndD,bndD,w64 (by omega) (by omega)]
   exact ih
theorem aE3 {p:List Ct} {n:Nat} (hp:(sibI p).length=n) (hn:n≤100) {ms ms0:List Mb} {most:Int} (h:aAh n ms ms0 most) (i:Int) (kk:List Gr→List Gr→Int→Int→Af Bool) (id:Int):∀ (k a f:Nat),a+k=n→k<f→dM (sibI p) i kk ([⟨0,ms⟩],id) most [⟨0,ms0⟩] f (a:Int)=kk [⟨0,ms⟩] [⟨0,ms0⟩] most (Ag .i64 (i+1))
 | _,_,0,_,hf=>AJ hf (by omega)
 | 0,a,f+1,ha,hf=>by
   rw [dM,bndD,Aj (by omega),bX,bndD]
 | k+1,a,f+1,ha,hf=>by
   rw [dM,bndD,Ai (by omega),dA]
   have:=aE2 hn h (dM (sibI p) i kk ([⟨0,ms⟩],id) most [⟨0,ms0⟩] f) id (a:=a) (by omega) a 0 fuel (by omega) (fB (by omega))
   exact this.trans (aE3 hp hn h i kk id k (a+1) f (by omega) (by omega))
structure FairW (p:List Ct) (i:Nat) (ms:List Mb) (st was:List Gr) (most:Int):Prop where
 b:jJ ms=(sibN p 0).map mkM
 g:qA ms
 st:st=[⟨0,ms⟩]∨(st=[]∧ms=(sibN p 0).map mkM)
 s:∀ m∈ms,m.af≤65535*(i:Int)
 mo:0≤most∧most≤65535
 f:aCA ms most
 was:i=0∨∃ ms0,was=[⟨0,ms0⟩]∧aAh p.length ms ms0 most
theorem aFL (ms:List Mb) (id b:Int):jJ (addM ms id b)=jJ ms:=by
 unfold jJ addM
 rw [BG]
 refine AU fun m _=>?_
 show (fun m:Mb=>(⟨m.ID,m.ae,0⟩:Mb)) (if m.ID=id then (⟨m.ID,m.ae,m.af+b⟩:Mb) else m)=_
 by_cases c:m.ID=id
 · rw [Az c]
 · rw [An c]
theorem aE1 {p:List Ct} (hp:p.length≤8) {i:Nat} (hi:i≤80) {ms:List Mb} {st was:List Gr} {most b:Int} (h:FairW p i ms st was most) (hb:0≤b∧b≤65535) {m:Mb} (hm:m∈ms) (hmin:∀ y∈ms,m.af*y.ae≤y.af*m.ae) :
 aAh p.length (addM ms m.ID b) (addM ms m.ID b) (max most b)∧∀ ms0,aAh p.length ms ms0 most→aAh p.length (addM ms m.ID b) ms0 (max most b):=by
 have hl:ms.length=p.length:=by have:=AH Ej h.b; rw [jJ,Aw,Aw,uB] at this; exact this
 have hw:∀ m∈ms,1≤m.ae:=fun m hm=>(h.g.ok m hm).2.1.1
 have hmo:=h.mo
 have hg:qA (addM ms m.ID b):=yA h.g hb.1 fun x hx _=>by have:=h.s x hx; omega
 have hf:=aE0 h.f hw h.g.so hb.1 hm hmin
 have hl2:(addM ms m.ID b).length=p.length:=by unfold addM; rw [Aw]; exact hl
 have hmx:0≤max most b∧max most b≤65535:=by omega
 refine ⟨⟨hg,hg,hl2,hl2,fun j x y h1 h2=>?_,hf,hf,hmx⟩,fun ms0 h0=>⟨hg,h0.g0,hl2,h0.l0,fun j x y h1 h2=>?_,hf,aEz h0.f0 (by omega) fun m hm=>(h0.g0.ok m hm).2.1.1,hmx⟩⟩
 · rw [h1] at h2; cases h2; exact ⟨rfl,Dj _⟩
 · unfold addM at h2
   rw [CI] at h2
   cases hz:ms[j]? with
   | none=>rw [hz] at h2; cases h2
   | some z =>
     rw [hz] at h2
     have e:(if z.ID=m.ID then (⟨z.ID,z.ae,z.af+b⟩:Mb) else z)=y:=Option.some.inj h2
     obtain ⟨w1,w2⟩:=h0.w j x z h1 hz
     rw [←e]
     by_cases c:z.ID=m.ID
     · rw [Az c]; exact ⟨w1,by show x.af≤z.af+b; omega⟩
     · rw [An c]; exact ⟨w1,w2⟩
theorem aE4 {A:AS} {ns:List Nk} {first:Int} {cl:List Int} {K:Int} {E:List Int} {p:List Ct} (h:TS A ns first cl 24 K (sibN p 0) E) (hp:p≠[]) (hp8:p.length≤8) {sz:List Int} (hz:sz.length≤80) (hzr:∀ x∈sz,0≤x∧x≤65535) (since:Int) :
 ∀ (r q:List Int) (f:Nat) (ms:List Mb) (st was:List Gr) (most:Int),sz=q++r→r.length<f→FairW p q.length ms st was most →
 cH sz since (sibI p) 24 K A.Cells A.Free A.Used ns first cl f st was most (q.length:Int)=some true
 | _,_,0,_,_,_,_,_,hf,_=>AJ hf (by omega)
 | [],q,f+1,ms,st,was,most,hq,hf,hw=>by
   rw [cH,bndD,rF hq,bX,aFH]; rfl
 | b :: r,q,f+1,ms,st,was,most,hq,hf,hw=>by
   have hb:=hzr b (by rw [hq]; simp)
   have hql:q.length+1≤80:=by rw [hq] at hz; simp at hz; omega
   have hil:(sibI p).length=p.length:=by unfold sibI; rw [Aw,uB]
   have hst:fitG st:=by
    rcases hw.st with e | ⟨e,_⟩
    · rw [e]; exact (xT hw.g).fit
    · rw [e]; exact aBG.fit
   obtain ⟨m,hm,hmin,h0,hN⟩:=aFn h hp hw.b hw.g hw.st hb fun m hm=>by have:=hw.s m hm; omega
   obtain ⟨out,id,n1,n2,_⟩:=Next_ts h 24 K (l:=sibI p) (by omega) hst b
   rw [hN] at n2
   cases n2
   obtain ⟨f1,f2⟩:=aE1 hp8 (show q.length≤80 by omega) hw hb hm hmin
   have hml:((addM ms m.ID b).length:Int)=((sibI p).length:Int):=by rw [f1.l,hil]
   have hsum:∀ x∈addM ms m.ID b,x.af≤65535*((q++[b]).length:Int):=fun x hx=>by
    obtain ⟨z,hzm,rfl⟩:=Al.1 hx
    have h1:=hw.s z hzm
    have h2:((q++[b]).length:Int)=(q.length:Int)+1:=by simp
    rw [h2]
    by_cases c:z.ID=m.ID
    · rw [Az c]; show z.af+b≤_; omega
    · rw [An c]; omega
   have hrec:∀ ms0,aAh p.length (addM ms m.ID b) ms0 (max most b)→fR (sibI p) (q.length:Int) (cH sz since (sibI p) 24 K A.Cells A.Free A.Used ns first cl f) ([⟨0,addM ms m.ID b⟩],m.ID) (max most b) [⟨0,ms0⟩]=some true:=fun ms0 h3=>by
    unfold fR
    have hpl:1≤p.length:=by
     rcases p with _ | ⟨x,p⟩
     · exact AJ rfl hp
     · simp
    have:=aE3 hil (by omega) h3 (q.length:Int) (cH sz since (sibI p) 24 K A.Cells A.Free A.Used ns first cl f) m.ID (p.length-1) 1 fuel (by omega) (fB (by omega))
    refine this.trans ?_
    rw [w_at hq (by omega)]
    exact aE4 h hp hp8 hz hzr since r (q++[b]) f (addM ms m.ID b) _ _ _ (jX hq) (by simp at hf ⊢; omega) ⟨by rw [aFL]; exact hw.b,h3.g,.inl rfl,hsum,h3.mo,h3.f,.inr ⟨ms0,rfl,h3⟩⟩
   have hwb:Ag .i64 b=b:=w64 (by omega) (by omega)
   rw [cH,bndD,pB hq,dA,kH hq,bnoS,hwb,bndD,n1,bnoS,bnoS,bndD,bndD]
   show bnd (decide (m.ID=0)) _=_
   rw [bndD,Aj h0,bndD,bndD]
   show bno (gd true (gix [(⟨0,addM ms m.ID b⟩:Gr)] 0) default) _=_
   rw [gdtt,show gix [(⟨0,addM ms m.ID b⟩:Gr)] 0=some ⟨0,addM ms m.ID b⟩ from rfl,bnoS,bndD,bndD]
   show (bif (!decide (((addM ms m.ID b).length:Int)=((sibI p).length:Int))) then _ else _)=_
   rw [Ai hml,AO,bX,bndD,bndD,bndD]
   cases hc:(decide ((q.length:Int)=0)||decide ((q.length:Int)=Ag .i64 since)) with
   | true=>rw [bndD,dA,hwb]; exact hrec _ f1
   | false =>
     rw [DX,decide_eq_false_iff_not] at hc
     rcases hw.was with e | ⟨ms0,e,h3⟩
     · exact AJ (by rw [e]; rfl) hc.1
     · rw [bndD,bX,hwb,e]; exact hrec ms0 (f2 ms0 h3)
theorem aE5 {sz:List Int} (hz:sz.length≤80) (hzr:∀ x∈sz,0≤x∧x≤65535) (since:Int) {ws:List Ct} (h2:2≤ws.length) (h8:ws.length≤8) {K:Int} {E:List Int} :
 ∀ (r p:List Ct) (f:Nat) {A:AS} {ns:List Nk} {first:Int} {cl:List Int},TS A ns first cl 24 K (sibN p 0) E→ws=p++r→r.length<f →
 eN ws sz since f (sibI p) (p.length:Int) 24 K A.Cells A.Free A.Used ns first cl=some true
 | _,_,0,_,_,_,_,_,_,hf=>AJ hf (by omega)
 | [],p,f+1,A,ns,first,cl,h,hw,hf=>by
   rw [eN,bndD,rF hw,bX]
   rw [AR] at hw
   subst hw
   refine aE4 h (fun e=>by rw [e] at h2; simp at h2) h8 hz hzr since sz [] fuel ((sibN ws 0).map mkM) [] [] 0 rfl (fB (by omega)) ⟨?_,?_,.inr ⟨rfl,rfl⟩,fun m hm=>?_,⟨by omega,by omega⟩,fun x hx y hy=>?_,.inl rfl⟩
   · unfold jJ; rw [BG]; rfl
   · rw [←aDo]; exact (aBF h.fv _ _).1
   · obtain ⟨n,_,rfl⟩:=Al.1 hm
     show (0:Int)≤_; simp
   · obtain ⟨n,_,rfl⟩:=Al.1 hx
     obtain ⟨n',_,rfl⟩:=Al.1 hy
     show (0:Int)*_-0*_≤0*_
     simp
 | w::r,p,f+1,A,ns,first,cl,h,hw,hf=>by
   have hpl:p.length+1≤8:=by rw [hw] at h8; simp at h8; omega
   have hwl:=w.toNat_lt
   have hil:(sibI p).length=p.length:=by unfold sibI; rw [Aw,uB]
   obtain ⟨A',ns',first',cl',g1,g2⟩:=aC0 h (by omega) w
   have hx1:Ag .i64 (2*(p.length:Int))=2*(p.length:Int):=w64 (by omega) (by omega)
   have hx2:Ag .i64 (1+2*(p.length:Int))=1+2*(p.length:Int):=w64 (by omega) (by omega)
   have hx3:Ag .i64 (w.toNat:Int)=(w.toNat:Int):=w64 (by omega) (by omega)
   have hx4:Ag .i64 (1+(w.toNat:Int))=1+(w.toNat:Int):=w64 (by omega) (by omega)
   have hrec:=aE5 hz hzr since h2 h8 r (p++[w]) f g2 (jX hw) (by simp at hf ⊢; omega)
   rw [eN,bndD,pB hw,dA,hx1,bndD,hx2,bndD,kH hw,bnoS,hx3,bndD,hx4,bndD,g1,bnoS,bndD]
   show (bif !decide ((0:Int)=0) then _ else _)=_
   rw [Ai rfl,AO,bX,bndD,hx2,bndD,nL (by simp; omega) (by simp; omega),bnoS,bndD,w_at hw (by omega),←sib_ids (w:=w)]
   exact hrec
theorem aDq {ws:List Ct} {sz:List Int} {since:Int} (hzr:∀ x∈sz,0≤x∧x≤65535):iQ ws sz since=some true:=by
 unfold iQ
 rw [bndD,bndD,bndD,bndD,bndD]
 by_cases h:2≤ws.length∧ws.length≤8∧sz.length≤80
 · have hL:=aE5 h.2.2 hzr since h.1 h.2.1 ws [] fuel (new_ts (R:=24) (K:=3) (by decide) (by decide)) rfl (fB (by omega))
   rw [Aj (by omega),Aj (by omega),Aj (by omega),Cl,Cl,bX,aEc,aEc,bnoS,Ai (by decide),show ((!true) == false)=true from rfl,gdtt,bnoS,Ai (by decide),bndD,show ((!true) || !true)=false from rfl,bX]
   exact hL
 · have:((decide ((ws.length:Int)<2)||decide (8<(ws.length:Int)))||decide (80<(sz.length:Int)))=true:=by
    rw [BC,BC,decide_eq_true_eq,decide_eq_true_eq,decide_eq_true_eq]; omega
   rw [this,dA,aFH]; rfl
end Go.Fn
open Go renaming Program → Bc,TypeId → Au,Value → AF
open Go.IL.D renaming flat → Ad
open Go.IntKind renaming bits → FL,signed → EZ
open Nat renaming add_assoc → Ea,mod_eq_of_lt → EF,zero_mul → CO
open Option renaming bind_eq_some_iff → ED
open UInt8 renaming toNat_ofNat' → Fq
open Go.RowKit Go.WideShapes Go.ChangeShapes
namespace Go.IL

def vX (v:AF):Prop:=∀ a n c,v = .slice (some a) n c→a.spot=none
theorem aAl {P:Bc} {w:World} {r:Reach} {b:Nat} {t:Au} {v:AF} (h:Cell.okWide P w r b t v):vX v:=by
 intro a n c e
 subst e
 have h2:Cell.ok P w r b t (.slice (some a) n c):=by
  unfold Cell.okWide at h
  split at h <;> first | exact h | (rename_i h3 _; cases h3) | (rename_i h3; cases h3) | skip
  all_goals first | exact h | simp_all
 unfold Cell.ok at h2
 split at h2 <;> simp_all [World.has]
theorem aFY {P:Bc} {w:World} {r:Reach} {b:Nat} {t:Au} {v:AF} (h:Value.okWide P w r b t v):∀ u∈v.cells.toList,vX u:=by
 have agg:∀ cs:Array AF,Row.okWide P w r b t cs→∀ u∈cs.toList,vX u:=by
  intro cs ⟨ts,_,_,h3⟩ u hu
  obtain ⟨i,hi⟩:=List.getElem?_of_mem hu
  obtain ⟨q,_,hq⟩:=h3 i u (by simpa using hi)
  exact aAl hq
 unfold Value.okWide at h
 split at h
 · obtain ⟨cs,rfl,_,h⟩:=h; simpa [Value.cells] using agg cs h
 · obtain ⟨cs,rfl,_,h⟩:=h; simpa [Value.cells] using agg cs h
 · have h2:=aAl h
   intro u hu
   cases v with
   | agg cs =>
     exfalso
     unfold Cell.okWide at h
     split at h <;> simp_all [Cell.ok]
   | _=>simp [Value.cells] at hu; subst hu; exact h2

def Env.none (w:World):Env:=⟨w,fun _ _=>False⟩
def OpD (P:Bc) (sp:Bool) (t:Au) (Q:List D→Prop):Prop :=
 ∀ {H:Type} {enc:Au×AF→H} {w:World} {base:Nat} {spare:Nat→Bool} {held:Bool} {fuel:Nat} {cs:List AF} {x:DataW H×List MemPlace},
   DataW.trod enc P w base spare held fuel t cs=some x→(sp=true→∀ v∈cs,vX v)→∃ ds,RdL (Env.none w) β0 cs ds∧Q ds
def qInt (k:IntKind) (ds:List D):Prop:=∃ n:Int,ds=[.int k n]∧(k.min≤n∧n≤k.max)
def qByte (ds:List D):Prop:=∃ c:Ct,ds=[aBQ c]
def qSlice {α:Type} (f:Enc α) (wf:α→Prop) (ds:List D):Prop:=∃ l:List α,ds=[.slice false (l.map f.d)]∧l.length≤9223372036854775807∧∀ x∈l,wf x
section
variable {P:Bc} {sp:Bool} {t:Au}
theorem aD6 {k:IntKind} (hu:P.underlying t=some (.int k)):OpD P sp t (qInt k):=by
 intro H enc w base spare held fuel cs x h _
 obtain ⟨n,rfl,rfl,hw⟩:=DataW.trod_int hu h
 exact ⟨[.int k n],.cons (.int _ _ _) (.nil _),n,rfl,by simpa [Lit.wf] using hw⟩
theorem aFl (hu:P.underlying t=some (.int .u8)):OpD P sp t qByte:=by
 intro H enc w base spare held fuel cs x h _
 obtain ⟨n,rfl,rfl,hw⟩:=DataW.trod_int hu h
 have hr:0≤n∧n≤255:=by simpa [Lit.wf,IntKind.min,IntKind.max,EZ,FL] using hw
 have e:((UInt8.ofNat n.toNat).toNat:Int)=n:=by
  simp only [Fq]; rw [EF (by omega)]; omega
 refine ⟨[aBQ (UInt8.ofNat n.toNat)],?_,_,rfl⟩
 unfold aBQ; rw [e]; exact .cons (.int _ _ _) (.nil _)
theorem aAw {α:Type} {f:Enc α} {e:Au} {wf:α→Prop} (hu:P.underlying t=some (.slice e)) (hc:P.cellsOf e=f.sz) (he:OpD P false e (fun ds=>∃ a,ds=(f.d a).cells∧wf a)):OpD P sp t (qSlice f wf):=by
 intro H enc w base spare held fuel cs x h hs
 rcases DataW.trod_slice hu h with ⟨rfl,_⟩ | ⟨a,len,cap,elems,rest,n,_,rfl,rfl,hb,hl,hm,hlen,hel,_,_⟩
 · exact ⟨[.slice false []],.cons (.nslice _ _) (.nil _),[],rfl,by simp,by simp⟩
 · by_cases hl0:len=0
   · subst hl0; exact ⟨[.slice false []],.cons (.eslice _ a cap false (fun h=>by cases h)) (.nil _),[],rfl,by simp,by simp⟩
   have hsp0:a.spot=none:=by
    have h1:=hel 0 (by omega)
    have h2:elems[0]? = some (elems[0]'(by omega)):=AY _
    rw [h2,ED] at h1
    obtain ⟨vs,h3,_⟩:=h1
    have h7:=World.cells?_some h3
    have hp:=f.pos
    have h8:=h7.2.2 0 (by rw [hc]; exact hp)
    rw [CO] at h8
    have e0:((a.add 0).add 0)=a:=rfl
    rw [e0] at h8
    cases hsp:a.spot with
    | none=>rfl
    | some q =>
      exfalso
      unfold World.cell? at h8
      rw [hsp] at h8
      split at h8
      · simp at h8; have:=h7.1; simp_all
      · have:=h7.1; simp_all
   have ha:a=⟨a.block,a.off,none⟩:=by cases a; simp_all
   have each:∀ i,i<len→∃ (vs:List AF) (y:α),(∀ k v,vs[k]? = some v→w.cell? ⟨a.block,a.off+(i*f.sz+k),none⟩=some v)∧RdL (Env.none w) β0 vs (f.d y).cells∧wf y:=by
    intro i hi
    have h1:=hel i hi
    have h2:elems[i]? = some (elems[i]'(by omega)):=AY _
    rw [h2,ED] at h1
    obtain ⟨vs,h3,h4⟩:=h1
    obtain ⟨ds,h5,y,rfl,h6⟩:=he h4 (by simp)
    refine ⟨vs,y,fun k v hk=>?_,h5,h6⟩
    have h7:=World.cells?_some h3
    have hk':=(Ah.1 hk).1
    have h8:=h7.2.2 k (by omega)
    rw [hk,ha,hc] at h8
    rw [←h8]
    congr 1
    by_cases h9:i*f.sz=0
    · by_cases h10:k=0
      · simp [Addr.add,h9,h10]
      · simp [Addr.add,h9,h10]
    · by_cases h10:k=0
      · simp [Addr.add,h9,h10]
      · simp [Addr.add,h9,h10,Ea]
   have all:∀ m,m≤len→∃ (vs:List AF) (l:List α),l.length=m∧(∀ k v,vs[k]? = some v→w.cell? ⟨a.block,a.off+k,none⟩=some v)∧RdL (Env.none w) β0 vs (Ad (l.map f.d))∧∀ y∈l,wf y:=by
    intro m
    induction m with
    | zero=>intro _; exact ⟨[],[],rfl,by simp,.nil _,by simp⟩
    | succ m ih =>
      intro hm'
      obtain ⟨vs,l,h1,h2,h3,h4⟩:=ih (by omega)
      obtain ⟨us,y,h5,h6,h7⟩:=each m (by omega)
      have hvl:vs.length=m*f.sz:=by rw [h3.length,f.flat_len,h1]
      refine ⟨vs++us,l++[y],by simp [h1],fun k v hk=>?_,?_,?_⟩
      · by_cases hk':k<vs.length
        · exact h2 k v (by rwa [AK hk'] at hk)
        · rw [Bs (by omega)] at hk
          have:=h5 _ _ hk
          rwa [hvl,show m*f.sz+(k-m*f.sz)=k by omega] at this
      · rw [BR]
        have e2:Ad (l.map f.d++[y].map f.d)=Ad (l.map f.d)++(f.d y).cells:=by simp [Ad]
        rw [e2]; exact h3.append h6
      · intro z hz
        rcases AT.1 hz with h | h
        · exact h4 z h
        · simp at h; subst h; exact h7
   obtain ⟨vs,l,h1,h2,h3,h4⟩:=all len (AL _)
   refine ⟨[.slice false (l.map f.d)],.cons ?_ (.nil _),l,rfl,by unfold maxLen at hm; omega,h4⟩
   rw [ha]
   exact .slice _ _ _ len cap f.sz false vs _ (by rw [Aw,h1]) hl (by simp) (f.len l) f.pos (fun k v hk=>⟨h2 k v hk,fun h=>h⟩) h3

inductive OpFs (P:Bc) (sp:Bool):List Field→List (List D→Prop)→Prop
 | nil:OpFs P sp [] []
 | cons {f fs Q Qs} (h:OpD P sp f.type Q) (t:OpFs P sp fs Qs):OpFs P sp (f::fs) (Q::Qs)
theorem OpD.to {Q R:List D→Prop} (h:OpD P sp t Q) (k:∀ ds,Q ds→R ds):OpD P sp t R:=by
 intro H enc w base spare held fuel cs x hx hs
 obtain ⟨ds,h1,h2⟩:=h hx hs
 exact ⟨ds,h1,k ds h2⟩
theorem aBg {Q:List D→Prop} (h:OpD P true t Q) {H:Type} {enc:Au×AF→H} {w:World} {base b0:Nat} {spare:Nat→Bool} {held:Bool} {v:AF} {d:DataW H} {ps:List MemPlace} {r:Reach}
 (hv:Value.okWide P w r b0 t v) (hd:DataW.Trod enc P w base spare held t v d ps):∃ ds,RdL (Env.none w) β0 v.cells.toList ds∧Q ds:=by
 obtain ⟨fuel,hf⟩:=hd
 exact h hf (fun _=>aFY hv)
theorem aDx {E:Env} {v:AF} {d:D} (h:RdL E β0 v.cells.toList [d]) (hn:∀ cs,v ≠ .agg cs):Rd E β0 v d:=by
 cases v with
 | agg cs=>exact AJ rfl (hn cs)
 | _=>simp [Value.cells] at h; cases h with | cons h _=>exact h
section
variable {H:Type} {enc:Au×AF→H}
theorem sY (hl:laidOutB P=true) {W W':World} (hb:Below W.heap.size W W') {sp:Nat→Bool}:∀ {ts:List Au} {vs:List AF} {ds:List (DataW H)} {ps:List MemPlace},
 (∀ t∈ts,P.readableRec t=true∧t<P.types.size)→DataW.TrodAll enc P W 0 (fun _=>true) true ts vs ds ps→(∀ x∈ps,x.block<W.heap.size)→(∀ x∈ps,sp x.block=true) →
 DataW.TrodAll enc P W' 0 sp true ts vs ds ps
 | [],vs,ds,ps,_,h,_,_=>by
   obtain ⟨rfl,rfl,rfl⟩:=trodAll_nil h; exact rfl
 | t::ts,vs,ds,ps,hr,h,hlt,hsp=>by
   obtain ⟨v,vs',d,ds',p,q,rfl,rfl,rfl,h1,h2⟩:=trodAll_cons h
   refine ⟨p,q,?_,sY hl hb (fun t ht=>hr t (by simp [ht])) h2 (fun x hx=>hlt x (by simp [hx])) (fun x hx=>hsp x (by simp [hx])),rfl⟩
   have hx:∀ x∈p,x∈p++q:=fun x hx=>by simp [hx]
   exact WideElems.Trod_stays hl (hr t (by simp)).1 (hr t (by simp)).2 h1 (fun x hxp=>hb.same (hlt x (hx x hxp))) (fun x hxp=>hsp x (hx x hxp))
theorem aAC {f:Func} {s:ChangeSpec} {apart fresh handsOn again:Bool} {W W':World} {args:Array AF} {v:AF} {ds gs:List (DataW H)} {before pa pv:List MemPlace}
 (hW:DataW.Whole enc P f.params.toList s.vars apart W args.toList ds gs before)
 (hres:∀ (b:Nat) (sp:Nat→Bool) (hd:Bool),DataW.TrodAll enc P W' b sp hd f.resultTypes.toList (v.resultList f.resultTypes.size) (s.fn H (ds++gs)).results [])
 (hargs:∀ sp:Nat→Bool,(∀ p∈before,sp p.block=true)→DataW.TrodAll enc P W' 0 sp true f.params.toList args.toList (s.fn H (ds++gs)).args pa)
 (hvars:∀ sp:Nat→Bool,(∀ p∈before,sp p.block=true)→DataW.TrodVars enc P W' sp s.vars (s.fn H (ds++gs)).vars pv)
 (hps:before=pa++pv) (hb:Below W.heap.size W W')
 (hok:∀ (j:Nat) (t:Au) (r:AF),f.resultTypes[j]? = some t→(v.resultList f.resultTypes.size)[j]? = some r→Value.okWide P W' .any 0 t r) :
 s.post enc P f apart fresh handsOn again W args v W':=by
 have hlt:∀ p∈before,p.block<W.heap.size:=fun p hp=>hW.lt p hp
 have hold:∀ p∈before,(fun b=>decide (b<W.heap.size)) p.block=true:=fun p hp=>by simpa using hlt p hp
 refine ⟨ds,gs,before,[],pa,pv,hW,hres _ _ _,hargs _ hold,hvars _ hold,World.keptBut_mono (fun p hp=>⟨hp,?_⟩) (hb.frame (· ∈ before)),fun _=>?_⟩
 · rw [hps,AT] at hp
   exact Or.inr hp
 · obtain ⟨_,_,_,_,_,hz,hn⟩:=hW
   refine ⟨hok,_,_,([]++pa)++pv,⟨[]++pa,pv,trodAll_append (hargs _ (fun _ _=>rfl)) (hres _ _ _),hvars _ (fun _ _=>rfl),rfl,?_,?_⟩,?_⟩
   · intro b off hp
     have hin:MemPlace.cell b off∈before:=by rw [hps]; simpa using hp
     rw [hb.frozen (hlt _ hin)]
     exact hz b off hin
   · intro ha
     have:=hn ha
     rw [hps] at this
     simpa using this
   · intro p hp _
     rw [hps]
     simpa using hp
theorem aFw {f:Func} {s:ChangeSpec} {apart fresh handsOn again:Bool} {W W':World} {args:Array AF} {ds gs:List (DataW H)} {before:List MemPlace} {tb:Au}
 (hl:laidOutB P=true) (hr:∀ t∈f.params.toList,P.readableRec t=true∧t<P.types.size) (hv:s.vars=[]) (hres:f.resultTypes = #[tb]) (hbool:P.underlying tb=some .bool)
 (hfn:s.fn H (ds++gs) = { results:=[.lit (.bool true)],args:=ds })
 (hW:DataW.Whole enc P f.params.toList s.vars apart W args.toList ds gs before) (hb:Below W.heap.size W W'):s.post enc P f apart fresh handsOn again W args (.bool true) W':=by
 have hW':=hW
 obtain ⟨p,q,hA,hV,hbef,hfz,hnd⟩:=hW
 rw [hv] at hV
 obtain ⟨rfl,rfl⟩:=trodVars_none hV
 have hlt:∀ x∈before,x.block<W.heap.size:=fun x hx=>hW'.lt x hx
 have hsub:∀ x∈p,x∈before:=fun x hx=>by rw [hbef]; simp [hx]
 refine aAC (pa:=p) (pv:=[]) hW' ?_ ?_ ?_ ?_ hb ?_
 · intro b sp hd
   rw [hfn,hres]
   exact trodAll_mk1 (shut_bool hbool true)
 · intro sp hsp
   rw [hfn]
   exact sY hl hb hr hA (fun x hx=>hlt x (hsub x hx)) (fun x hx=>hsp x (hsub x hx))
 · intro sp hsp
   rw [hfn,hv]; exact rfl
 · exact hbef
 · exact ok_one hres rfl (okWide_bool_mk hbool true)
end
end
end Go.IL
namespace Go.IL
theorem uD {P:Bc} {w W:World} {r:Reach} {b:Nat} {t:Au} {v:AF} {d:D} (hv:Value.okWide P W r b t v) (hg:iT P t=false) (h:RdL (Env.none w) β0 v.cells.toList [d]):Rd (Env.none w) β0 v d:=by
 refine aDx h fun cs e=>?_
 subst e
 unfold iT at hg
 unfold Value.okWide at hv
 split at hv
 · rename_i h1; rw [h1] at hg; cases hg
 · rename_i h1; rw [h1] at hg; cases hg
 · unfold Cell.okWide at hv
   split at hv <;> simp_all [Cell.ok]
end Go.IL
open Go.RowKit Go.WideShapes Go.ChangeShapes
namespace Go.IL
end Go.IL
