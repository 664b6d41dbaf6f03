/-
  A part of the proof: rules and plain facts. No condition.
-/
import Derived.Test.YtknpfbfkaccgmaaGreatIlPn
import Derived.KernelRfl
import Derived.Test.YtknpfbfkaccgmaaGreatIlA34tD
set_option linter.all false
open Go Go.IL
namespace Go.Fn
theorem fS {α:Type} {l p r:List α} {x:α} (h:l=p ++ x :: r):gix l (p.length:Int)=some x:=by
 subst h; rw [eT,List.getElem?_append_right (Nat.le_refl _)]; simp
theorem nJ {α:Type} {l p r:List α} {x:α} (h:l=p ++ x :: r):decide ((p.length:Int) < (l.length:Int))=true:=by
 subst h; simp; omega
theorem lY {α:Type} {l:List α}:decide ((l.length:Int) < (l.length:Int))=false:=by simp
theorem w_at {α:Type} {l p r:List α} {x:α} (h:l=p ++ x :: r) (hl:l.length ≤ 1000000):IntKind.wrap .i64 ((p.length:Int) + 1)=((p ++ [x]).length:Int):=by
 subst h; simp only [List.length_append,List.length_cons,List.length_nil] at hl ⊢; rw [w64 (by omega) (by omega)]; omega
theorem kE {α:Type} {l p r:List α} {x:α} (h:l=p ++ x :: r):l=(p ++ [x]) ++ r:=by rw [h]; simp
theorem tf:(true == false)=false:=rfl
theorem ft:(false == true)=false:=rfl
theorem aC6 {α:Type} {l p r:List α} (h:l=p ++ r):cut l 0 (p.length:Int)=some p:=by
 subst h; unfold cut; rw [if_pos (by simp; omega)]; simp
theorem aDp {α:Type} {l p r:List α} (h:l=p ++ r):cut l (p.length:Int) (l.length:Int)=some r:=by
 subst h; unfold cut; rw [if_pos (by simp; omega),Int.toNat_natCast,Int.toNat_natCast,List.take_length,List.drop_left]
theorem yV {α:Type} {L:Nat → Int → Option Int} {l:List α} {q:α → Bool}
 (h1:∀ p x r f,l=p ++ x :: r → L (f + 1) (p.length:Int)=bif q x then some (p.length:Int) else L f ((p ++ [x]).length:Int)) (h0:∀ f,L (f + 1) (l.length:Int)=some (-1)) :
 ∀ (r p:List α) (f:Nat),l=p ++ r → r.length < f → (∀ y ∈ p,q y=false) →
   (L f (p.length:Int)=some (-1) ∧ ∀ y ∈ l,q y=false) ∨ ∃ a x t,l=a ++ x :: t ∧ (∀ y ∈ a,q y=false) ∧ q x=true ∧ L f (p.length:Int)=some (a.length:Int)
 | [],p,f + 1,h,_,ha=>by
   left
   rw [List.append_nil] at h
   subst h
   exact ⟨h0 f,ha⟩
 | y :: r,p,f + 1,h,hf,ha=>by
   rw [h1 p y r f h]
   rcases Bool.eq_false_or_eq_true (q y) with hb | hb
   · right; exact ⟨p,y,r,h,ha,hb,by rw [hb]; rfl⟩
   · rw [hb,bD]
     exact yV h1 h0 r (p ++ [y]) f (kE h) (by simpa using hf) (fun z hz=>by
      rcases List.mem_append.1 hz with hz | hz
      · exact ha z hz
      · rw [List.mem_singleton.1 hz]; exact hb)
theorem aDi {α:Type} {L:Nat → Int → Option Int} {l:List α} {q:α → Bool} (hl:l.length ≤ 1000000)
 (h1:∀ p x r f,l=p ++ x :: r → L (f + 1) (p.length:Int)=bif q x then some (p.length:Int) else L f ((p ++ [x]).length:Int)) (h0:∀ f,L (f + 1) (l.length:Int)=some (-1)) :
 ∃ k:Int,L fuel 0=some k ∧ decide (0 ≤ k)=l.any q:=by
 rcases yV h1 h0 l [] fuel rfl (eU (by omega)) (fun _ h=>(List.not_mem_nil h).elim) with ⟨h2,h3⟩ | ⟨a,x,t,h2,h3,h4,h5⟩
 · refine ⟨-1,h2,?_⟩
   symm
   have:l.any q=false:=by rw [List.any_eq_false]; intro y hy; rw [h3 y hy]; decide
   rw [this]; rfl
 · refine ⟨a.length,h5,?_⟩
   have:l.any q=true:=List.any_eq_true.2 ⟨x,by rw [h2]; simp,h4⟩
   rw [this]; exact decide_eq_true (by omega)
theorem zC {α:Type} {L:Nat → List α → Int → Int → Option (List α)} {q:α → Bool}
 (h1:∀ (f:Nat) (l:List α) (i j:Nat) (x:α),l.length ≤ 100000 → i ≤ j → j < l.length → l[j]? = some x → L (f + 1) l (i:Int) (j:Int)=bif !q x then L f (l.set i x) ((i + 1:Nat):Int) ((j + 1:Nat):Int) else L f l (i:Int) ((j + 1:Nat):Int))
 (h0:∀ (f:Nat) (l:List α) (i:Nat),i ≤ l.length → L (f + 1) l (i:Int) (l.length:Int)=some (l.take i)) :
 ∀ (r k m:List α) (f:Nat),k.length + m.length + r.length ≤ 100000 → r.length < f →
   L f (k ++ m ++ r) (k.length:Int) ((k.length + m.length:Nat):Int)=some (k ++ r.filter fun y=>!q y)
 | [],k,m,f + 1,hl,_=>by
   have:=h0 f (k ++ m) k.length (by simp)
   rw [List.append_nil,show ((k.length + m.length:Nat):Int)=((k ++ m).length:Int) by simp,this]; simp
 | y :: r,k,m,f + 1,hl,hf=>by
   simp only [List.length_cons] at hl hf
   have hy:(k ++ m ++ y :: r)[k.length + m.length]? = some y:=by
    rw [List.getElem?_append_right (by simp)]; simp
   have hlen:(k ++ m ++ y :: r).length=k.length + m.length + (r.length + 1):=by simp; omega
   rw [h1 f (k ++ m ++ y :: r) k.length (k.length + m.length) y (by omega) (by omega) (by omega) hy]
   rcases Bool.eq_false_or_eq_true (q y) with hb | hb
   · rw [hb,Bool.not_true,bD,List.filter_cons_of_neg (by simp [hb])]
     have:=zC h1 h0 r k (m ++ [y]) f (by simp; omega) (by omega)
     rw [show k ++ m ++ y :: r=k ++ (m ++ [y]) ++ r by simp,← this]; congr 1; simp; omega
   · rw [hb,Bool.not_false,bM,List.filter_cons_of_pos (by simp [hb])]
     obtain ⟨m2,h3,h2⟩:∃ m2:List α,m2.length=m.length ∧ (k ++ m ++ y :: r).set k.length y=k ++ [y] ++ m2 ++ r:=by
      rw [List.append_assoc k m,List.set_append_right _ _ (Nat.le_refl _),Nat.sub_self]
      cases m with
      | nil=>exact ⟨[],rfl,by simp⟩
      | cons a m=>exact ⟨m ++ [y],by simp,by simp⟩
     rw [h2]
     have:=zC h1 h0 r (k ++ [y]) m2 f (by simp; omega) (by omega)
     rw [show k ++ y :: List.filter (fun y=>!q y) r=k ++ [y] ++ List.filter (fun y=>!q y) r by simp,← this]
     congr 1 <;> simp <;> omega
theorem aDo {α:Type} {I:Nat → Int → Option Int} {L:Nat → List α → Int → Int → Option (List α)} {l:List α} {q:α → Bool} (hl:l.length ≤ 100000)
 (i1:∀ p x r f,l=p ++ x :: r → I (f + 1) (p.length:Int)=bif q x then some (p.length:Int) else I f ((p ++ [x]).length:Int)) (i0:∀ f,I (f + 1) (l.length:Int)=some (-1))
 (h1:∀ (f:Nat) (l:List α) (i j:Nat) (x:α),l.length ≤ 100000 → i ≤ j → j < l.length → l[j]? = some x → L (f + 1) l (i:Int) (j:Int)=bif !q x then L f (l.set i x) ((i + 1:Nat):Int) ((j + 1:Nat):Int) else L f l (i:Int) ((j + 1:Nat):Int))
 (h0:∀ (f:Nat) (l:List α) (i:Nat),i ≤ l.length → L (f + 1) l (i:Int) (l.length:Int)=some (l.take i)) :
 (bno (I fuel 0) fun x1=>bnd (decide (x1=(-1))) fun x2=>bif x2 then some l else bnd (IntKind.wrap .i64 (x1 + 1)) fun x4=>L fuel l x1 x4)=some (l.filter fun y=>!q y):=by
 rcases yV i1 i0 l [] fuel rfl (eU (by omega)) (fun _ h=>(List.not_mem_nil h).elim) with ⟨e1,e2⟩ | ⟨a,x,t,e1,e2,e3,e4⟩
 · have e1:I fuel 0=some (-1):=e1
   rw [e1,bnoS]
   simp only [bndD,decide_true,bM]
   rw [List.filter_eq_self.2 (fun y hy=>by rw [e2 y hy]; rfl)]
 · have e4:I fuel 0=some (a.length:Int):=e4
   have hql:a.length + (t.length + 1) ≤ 100000:=by rw [e1] at hl; simpa using hl
   rw [e4,bnoS]
   simp only [bndD,decide_eq_false (show ¬ (a.length:Int) = -1 by omega),bD]
   rw [w64 (by omega) (by omega)]
   have:=zC h1 h0 t a [x] fuel (by simp; omega) (eU (by omega))
   rw [e1,List.filter_append,List.filter_cons_of_neg (by simp [e3]),List.filter_eq_self.2 (fun y hy=>by rw [e2 y hy]; rfl),← this]
   congr 1; simp
theorem aAQ {α:Type} [DecidableEq α] {L:Nat → Int → Option Bool} {l m:List α} (hm:l.length=m.length)
 (h1:∀ p x r s y t f,l=p ++ x :: r → m=s ++ y :: t → p.length=s.length → L (f + 1) (p.length:Int)=bif !decide (x=y) then some false else L f ((p ++ [x]).length:Int)) {z:Bool} (h0:∀ f,L (f + 1) (l.length:Int)=some z) :
 ∀ (r t p s:List α) (f:Nat),l=p ++ r → m=s ++ t → p.length=s.length → r.length < f → L f (p.length:Int)=some (decide (r=t) && z)
 | [],[],p,s,f + 1,h,k,e,_=>by
   rw [List.append_nil] at h
   subst h
   rw [h0]; simp
 | [],y :: t,p,s,f + 1,h,k,e,_=>by rw [h,k] at hm; simp at hm; omega
 | x :: r,[],p,s,f + 1,h,k,e,_=>by rw [h,k] at hm; simp at hm; omega
 | x :: r,y :: t,p,s,f + 1,h,k,e,hf=>by
   rw [h1 p x r s y t f h k e]
   by_cases hx:x=y
   · subst hx
     rw [decide_eq_true rfl,Bool.not_true,bD]
     have:=aAQ hm h1 h0 r t (p ++ [x]) (s ++ [x]) f (kE h) (kE k) (by simp [e]) (by simpa using hf)
     rw [this]; simp
   · rw [decide_eq_false hx,Bool.not_false,bM]; simp [hx]
theorem aAR {α:Type} [DecidableEq α] {L:Nat → Int → Option Bool} {l m:List α} (hl:l.length ≤ 1000000)
 (h1:∀ p x r s y t f,l=p ++ x :: r → m=s ++ y :: t → p.length=s.length → L (f + 1) (p.length:Int)=bif !decide (x=y) then some false else L f ((p ++ [x]).length:Int)) {z:Bool} (h0:l.length=m.length → ∀ f,L (f + 1) (l.length:Int)=some z) :
 (bnd (!decide ((l.length:Int)=(m.length:Int))) fun x1=>bif x1 then some false else L fuel 0)=some (decide (l=m) && z):=by
 by_cases hm:l.length=m.length
 · simp only [bndD,decide_eq_true (show (l.length:Int)=(m.length:Int) by omega),Bool.not_true,bD]
   exact aAQ hm h1 (h0 hm) l m [] [] fuel rfl rfl rfl (eU (by omega))
 · simp only [bndD,decide_eq_false (show ¬ (l.length:Int)=(m.length:Int) by omega),Bool.not_false,bM]
   rw [decide_eq_false (fun h=>hm (by rw [h]))]; rfl
theorem bsf_gen {α:Type} {L:Nat → Int → Int → Option (Int × Bool)} {l:List α} {key:α → Int} {x:Int} (hl:l.length ≤ 1000000)
 (h1:∀ (f lo hi m:Nat) (y:α),lo < hi → hi ≤ l.length → m=(lo + hi) / 2 → l[m]? = some y → L (f + 1) (lo:Int) (hi:Int)=bif decide (key y < x) then L f ((m + 1:Nat):Int) (hi:Int) else L f (lo:Int) (m:Int))
 (h0:∀ (f lo:Nat),lo ≤ l.length → L (f + 1) (lo:Int) (lo:Int)=some ((lo:Int),decide ((l[lo]?).map key=some x))) :
 ∀ (f lo hi:Nat),hi - lo < f → lo ≤ hi → hi ≤ l.length → ∃ p:Nat,p ≤ l.length ∧ L f lo hi=some ((p:Int),decide ((l[p]?).map key=some x)) ∧
 (l.Pairwise (fun a b=>key a < key b) → (∀ y ∈ l.take lo,key y < x) → (∀ y ∈ l.drop hi,x ≤ key y) → (∀ y ∈ l.take p,key y < x) ∧ (∀ y ∈ l.drop p,x ≤ key y)):=by
 intro f
 induction f with
 | zero=>intro lo hi h; omega
 | succ f ih =>
   intro lo hi hf h2 h3
   by_cases hc:lo < hi
   · have hm:(lo + hi) / 2 < l.length:=by omega
     rw [h1 f lo hi _ l[(lo + hi) / 2] hc h3 rfl (List.getElem?_eq_getElem hm)]
     generalize hmm:(lo + hi) / 2=m at hm ⊢
     have hml:lo ≤ m:=by omega
     have hmh:m < hi:=by omega
     by_cases hx:key l[m] < x
     · rw [decide_eq_true hx,bM]
       obtain ⟨p,i1,i2,i3⟩:=ih (m + 1) hi (by omega) (by omega) h3
       refine ⟨p,i1,i2,fun hp ha hb=>i3 hp (fun y hy=>?_) hb⟩
       obtain ⟨j,hj,rfl⟩:=List.mem_iff_getElem.1 hy
       rw [List.length_take] at hj
       rw [List.getElem_take]
       rcases Nat.lt_or_ge j m with hjm | hjm
       · exact Int.lt_trans (List.pairwise_iff_getElem.1 hp j m (by omega) (by omega) hjm) hx
       · have:j=m:=by omega
         subst this; exact hx
     · rw [decide_eq_false hx,bD]
       obtain ⟨p,i1,i2,i3⟩:=ih lo m (by omega) (by omega) (by omega)
       refine ⟨p,i1,i2,fun hp ha hb=>i3 hp ha (fun y hy=>?_)⟩
       obtain ⟨j,hj,rfl⟩:=List.mem_iff_getElem.1 hy
       rw [List.length_drop] at hj
       rw [List.getElem_drop]
       rcases Nat.eq_zero_or_pos j with rfl | hj0
       · simp only [Nat.add_zero]; omega
       · have:=List.pairwise_iff_getElem.1 hp m (m + j) (by omega) (by omega) (by omega)
         omega
   · have:lo=hi:=by omega
     subst this
     exact ⟨lo,h3,h0 f lo h3,fun _ ha hb=>⟨ha,hb⟩⟩
theorem aBz {α:Type} {l a b:List α} {key:α → Int} {x:Int} (h:l=a ++ b) (ha:∀ y ∈ a,key y < x) (hb:∀ y ∈ b,x ≤ key y):a=l.filter (fun y=>decide (key y < x)) ∧ b=l.filter (fun y=>decide (x ≤ key y)):=by
 subst h
 rw [List.filter_append,List.filter_append,List.filter_eq_self.2 (fun y hy=>decide_eq_true (ha y hy)),List.filter_eq_nil_iff.2 (fun y hy=>by have:=hb y hy; simp; omega),List.filter_eq_nil_iff.2 (fun y hy=>by have:=ha y hy; simp; omega),List.filter_eq_self.2 (fun y hy=>decide_eq_true (hb y hy))]
 simp
theorem bsf_all {α:Type} {L:Nat → Int → Int → Option (Int × Bool)} {l:List α} {key:α → Int} {x:Int} (hl:l.length ≤ 1000000)
 (h1:∀ (f lo hi m:Nat) (y:α),lo < hi → hi ≤ l.length → m=(lo + hi) / 2 → l[m]? = some y → L (f + 1) (lo:Int) (hi:Int)=bif decide (key y < x) then L f ((m + 1:Nat):Int) (hi:Int) else L f (lo:Int) (m:Int))
 (h0:∀ (f lo:Nat),lo ≤ l.length → L (f + 1) (lo:Int) (lo:Int)=some ((lo:Int),decide ((l[lo]?).map key=some x))) (hp:l.Pairwise (fun a b=>key a < key b)) :
 ∃ a b:List α,l=a ++ b ∧ a=l.filter (fun y=>decide (key y < x)) ∧ b=l.filter (fun y=>decide (x ≤ key y)) ∧
   ((∃ y c,b=y :: c ∧ key y=x ∧ L fuel 0 (l.length:Int)=some ((a.length:Int),true)) ∨ ((∀ y ∈ l,key y ≠ x) ∧ L fuel 0 (l.length:Int)=some ((a.length:Int),false))):=by
 obtain ⟨p,e1,e2,e3⟩:=bsf_gen hl h1 h0 fuel 0 l.length (eU (by omega)) (Nat.zero_le _) (Nat.le_refl _)
 obtain ⟨e4,e5⟩:=e3 hp (by simp) (by simp)
 obtain ⟨e6,e7⟩:=aBz (List.take_append_drop p l).symm e4 e5
 have hpl:(l.take p).length=p:=by rw [List.length_take]; omega
 have e2:L fuel 0 (l.length:Int)=_:=e2
 refine ⟨l.take p,l.drop p,(List.take_append_drop p l).symm,e6,e7,?_⟩
 rw [hpl,e2]
 by_cases hx:(l[p]?).map key=some x
 · left
   obtain ⟨y,hy,hk⟩:=Option.map_eq_some_iff.1 hx
   have hlt:p < l.length:=(List.getElem?_eq_some_iff.1 hy).1
   have hye:l[p]=y:=(List.getElem?_eq_some_iff.1 hy).2
   exact ⟨y,l.drop (p + 1),by rw [← hye]; exact List.drop_eq_getElem_cons hlt,hk,by rw [decide_eq_true hx]⟩
 · right
   refine ⟨fun y hy hk=>?_,by rw [decide_eq_false hx]⟩
   rw [← List.take_append_drop p l] at hy
   rcases List.mem_append.1 hy with hy | hy
   · have:=e4 y hy; omega
   · obtain ⟨j,hj,hjx⟩:=List.mem_iff_getElem.1 hy
     rw [List.length_drop] at hj
     rw [List.getElem_drop] at hjx
     rcases Nat.eq_zero_or_pos j with rfl | hj0
     · apply hx; rw [List.getElem?_eq_getElem (by omega)]; simp only [Nat.add_zero] at hjx; rw [Option.map_some,hjx,hk]
     · have h8:=List.pairwise_iff_getElem.1 hp p (p + j) (by omega) (by omega) (by omega)
       have h9:=e5 l[p] (List.mem_iff_getElem.2 ⟨0,by rw [List.length_drop]; omega,by rw [List.getElem_drop]; simp⟩)
       rw [hjx,hk] at h8; omega
theorem rT {α:Type} {P:α → Option Bool} {q:α → Bool} (hP:∀ x,P x=some (q x)) {I:Nat → Int → Option Int} {L:Nat → List α → Int → Int → Option (List α)} {l:List α}
 (hI:∀ f v,I (f + 1) v=bnd (decide (v < (l.length:Int))) fun x14=>bif x14 then (bno (gix l v) fun x16=>bno (P x16) fun x17=>bif x17 then some v else (bnd (IntKind.wrap .i64 (v + 1)) fun x19=>I f x19)) else some (-1))
 (hL:∀ f a b c,L (f + 1) a b c=bnd (decide (c < (a.length:Int))) fun x32=>bif x32 then (bno (gix a c) fun x34=>bno (a[(c:Int).toNat]?) fun x35=>bno (P x35) fun x36=>bif (!x36) then (bno (gix a b) fun x38=>bno (a[(b:Int).toNat]?) fun x39 =>
   bnd (a.set ((b:Int).toNat) x35) fun x40=>bnd (IntKind.wrap .i64 (b + 1)) fun x41=>bnd (IntKind.wrap .i64 (c + 1)) fun x42=>L f x40 x41 x42) else (bnd (IntKind.wrap .i64 (c + 1)) fun x43=>L f a b x43)) else (bno (cut a 0 b) fun x44=>bno (cut x44 0 b) fun x45=>some x45))
 (hl:l.length ≤ 100000):(bno (I fuel 0) fun x1=>bnd (decide (x1=(-1))) fun x2=>bif x2 then some l else bnd (IntKind.wrap .i64 (x1 + 1)) fun x4=>L fuel l x1 x4)=some (l.filter fun y=>!q y):=by
 refine aDo hl (fun p x r f h=>by
  rw [hI]; simp only [bndD,nJ h,bM,fS h,bnoS,hP,w_at h (show l.length ≤ 1000000 by omega)]) (fun f=>by rw [hI]; simp only [bndD,lY,bD]) (fun f a i j x ha hij hj hx=>?_) (fun f a i hi=>?_)
 · rw [hL]
   have hi:i < a.length:=by omega
   simp only [bndD,decide_eq_true (show (j:Int) < (a.length:Int) by omega),bM,eT,hx,bnoS,Int.toNat_natCast,hP,List.getElem?_eq_getElem hi,w64 (show -9223372036854775808 ≤ (j:Int) + 1 by omega) (by omega),w64 (show -9223372036854775808 ≤ (i:Int) + 1 by omega) (by omega)]
   rfl
 · rw [hL]
   have e:(a.take i).length=i:=by rw [List.length_take]; omega
   simp only [bndD,lY,bD]
   have h1:=aC6 (l:=a) (List.take_append_drop i a).symm
   have h2:=aC6 (l:=a.take i) (p:=a.take i) (r:=[]) (by simp)
   rw [e] at h1 h2
   rw [h1,bnoS,h2,bnoS]
theorem wW {α:Type} {dflt:α} {C:α → Option Int} {c:α → Int} {key:α → Int} {x:Int} {L:Nat → Int → Int → Option (Int × Bool)} {l:List α} (hC:∀ y ∈ l,C y=some (c y)) (hc:∀ y ∈ l,(c y < 0 ↔ key y < x) ∧ (c y=0 ↔ key y=x))
 (hL:∀ f a b,L (f + 1) a b=bnd (decide (a < b)) fun x25=>bif x25 then (bnd (IntKind.wrap .i64 (a + b)) fun x27=>bnd (IntKind.wrap .u64 x27) fun x28=>bno (shrI .u64 x28 1) fun x29=>bnd (IntKind.wrap .i64 x29) fun x30=>bno (gix l x30) fun x31=>bno (C x31) fun x32 =>
   bnd (decide (x32 < 0)) fun x33=>bif x33 then (bnd (IntKind.wrap .i64 (x30 + 1)) fun x35=>L f x35 b) else (L f a x30)) else (bnd (decide (a < (l.length:Int))) fun x36=>bno (gd (x36 == true) (gix l a) (dflt:α)) fun x37=>bno (gd (x36 == true) (C x37) (default:Int)) fun x38 =>
   bnd (decide (x38=0)) fun x39=>bnd (x36 && x39) fun x40=>some (a,x40)))
 (hl:l.length ≤ 1000000) (hp:l.Pairwise (fun a b=>key a < key b)) :
 ∃ a b:List α,l=a ++ b ∧ a=l.filter (fun y=>decide (key y < x)) ∧ b=l.filter (fun y=>decide (x ≤ key y)) ∧
   ((∃ y c,b=y :: c ∧ key y=x ∧ L fuel 0 (l.length:Int)=some ((a.length:Int),true)) ∨ ((∀ y ∈ l,key y ≠ x) ∧ L fuel 0 (l.length:Int)=some ((a.length:Int),false))):=by
 refine bsf_all hl (fun f lo hi m y h1 h2 h3 h4=>?_) (fun f lo h1=>?_) hp
 · rw [hL]
   have hy:y ∈ l:=List.mem_of_getElem? h4
   have e1:shrI .u64 ((lo:Int) + (hi:Int)) 1=some ((m:Nat):Int):=by
    rw [aD0 (k:=.u64) (b:=1) 1 rfl (by decide),h3]; congr 1
   simp only [bndD,decide_eq_true (show (lo:Int) < (hi:Int) by omega),bM,w64 (show -9223372036854775808 ≤ (lo:Int) + (hi:Int) by omega) (by omega),wU64 (show 0 ≤ (lo:Int) + (hi:Int) by omega) (by omega),e1,bnoS,
    w64 (show -9223372036854775808 ≤ ((m:Nat):Int) by omega) (by omega),eT,h4,hC y hy,w64 (show -9223372036854775808 ≤ (m:Int) + 1 by omega) (by omega)]
   by_cases hx:key y < x
   · rw [decide_eq_true hx,decide_eq_true ((hc y hy).1.2 hx)]; rfl
   · rw [decide_eq_false hx,decide_eq_false (fun h=>hx ((hc y hy).1.1 h))]; rfl
 · rw [hL]
   simp only [bndD,decide_eq_false (show ¬ (lo:Int) < (lo:Int) by omega),bD]
   by_cases hl':lo < l.length
   · have hy:l[lo] ∈ l:=List.getElem_mem hl'
     simp only [decide_eq_true (show (lo:Int) < (l.length:Int) by omega),beq_self_eq_true,gdtt,eT,List.getElem?_eq_getElem hl',bnoS,hC _ hy,Bool.true_and,Option.map_some,Option.some.injEq]
     by_cases hx:key l[lo]=x
     · rw [decide_eq_true hx,decide_eq_true ((hc _ hy).2.2 hx)]
     · rw [decide_eq_false hx,decide_eq_false (fun h=>hx ((hc _ hy).2.1 h))]
   · rw [List.getElem?_eq_none (by omega)]
     simp only [decide_eq_false (show ¬ (lo:Int) < (l.length:Int) by omega),ft,gdff,bnoS,Bool.false_and,Option.map_none]
     rfl
end Go.Fn
open Go Go.IL
namespace Go.Fn
abbrev Nd:=aH
abbrev Fs:=aV
abbrev Fo:=dD
def I64 (n:Int):Prop:=-9223372036854775808 ≤ n ∧ n ≤ 9223372036854775807
theorem wrap_ne {a id:Int} (ha:1 ≤ a ∧ a ≤ 1048576) (h:I64 id) (hn:a ≠ id):IntKind.wrap .i64 (a - id) ≠ 0:=by
 obtain ⟨h1,h2⟩:=h
 rw [IntKind.wrap_i64]
 omega
theorem aC9 {N:List Nd} (hl:N.length ≤ 1000) (hr:∀ n ∈ N,1 ≤ n.ID ∧ n.ID ≤ 1048576) (id:Int) (hn:∀ n ∈ N,n.ID ≠ id) (h64:I64 id):∀ (f lo hi:Nat),hi - lo < f → lo ≤ hi → hi ≤ N.length →
 ∃ p:Nat,p ≤ N.length ∧ bF N id f (lo:Int) (hi:Int)=some ((p:Int),false)
 | 0,lo,hi,h,_,_=>absurd h (by omega)
 | f + 1,lo,hi,h,h1,h2=>by
   rw [bF,bndD]
   by_cases hlt:lo < hi
   · have hm:(lo + hi) / 2 < N.length:=by omega
     have e1:shrI .u64 ((lo:Int) + (hi:Int)) 1=some (((lo + hi) / 2:Nat):Int):=by
      rw [aD0 (k:=.u64) (b:=1) 1 rfl (by decide)]; congr 1
     have hg:N[(lo + hi) / 2]? = some N[(lo + hi) / 2]:=List.getElem?_eq_getElem hm
     have hc:hD N[(lo + hi) / 2] id=some (IntKind.wrap .i64 (N[(lo + hi) / 2].ID - id)):=rfl
     simp only [bndD,decide_eq_true (show (lo:Int) < (hi:Int) by omega),bM,w64 (show -9223372036854775808 ≤ (lo:Int) + (hi:Int) by omega) (by omega),wU64 (show 0 ≤ (lo:Int) + (hi:Int) by omega) (by omega),e1,bnoS,
      w64 (show -9223372036854775808 ≤ (((lo + hi) / 2:Nat):Int) by omega) (by omega),eT,hg,hc]
     by_cases hx:IntKind.wrap .i64 (N[(lo + hi) / 2].ID - id) < 0
     · rw [decide_eq_true hx,bM,w64 (by omega) (by omega)]
       have:=aC9 hl hr id hn h64 f ((lo + hi) / 2 + 1) hi (by omega) (by omega) h2
       exact this
     · rw [decide_eq_false hx,bD]
       exact aC9 hl hr id hn h64 f lo ((lo + hi) / 2) (by omega) (by omega) (by omega)
   · refine ⟨lo,by omega,?_⟩
     simp only [bndD,decide_eq_false (show ¬ (lo:Int) < (hi:Int) by omega),bD]
     by_cases hl':lo < N.length
     · have hg:N[lo]? = some N[lo]:=List.getElem?_eq_getElem hl'
       have hc:hD N[lo] id=some (IntKind.wrap .i64 (N[lo].ID - id)):=rfl
       have hmem:=List.getElem_mem hl'
       have hz:=wrap_ne (hr _ hmem) h64 (hn _ hmem)
       simp only [decide_eq_true (show (lo:Int) < (N.length:Int) by omega),beq_self_eq_true,gdtt,eT,hg,bnoS,hc,decide_eq_false hz,Bool.and_false]
     · simp only [decide_eq_false (show ¬ (lo:Int) < (N.length:Int) by omega),ft,gdff,bnoS,Bool.false_and]
inductive Fd (N:List Nd) (id:Int):Int × Bool → Prop
 | yes (A:List Nd) (y:Nd) (C:List Nd) (h:N=A ++ y :: C) (e:y.ID=id) (ha:∀ a ∈ A,a.ID < id) (hc:∀ c ∈ C,id < c.ID):Fd N id ((A.length:Int),true)
 | no (p:Nat) (hp:p ≤ N.length) (h:∀ n ∈ N,n.ID ≠ id) (h2:0 ≤ id → id ≤ 1048576 → (∀ a ∈ N.take p,a.ID < id) ∧ ∀ c ∈ N.drop p,id < c.ID):Fd N id ((p:Int),false)
theorem find_st (st:Fs) (id:Int) {r:Int × Bool} (h:cD st.Nodes id=some r):dA st id=some r:=by
 unfold dA
 rw [h,bnoS]
theorem bs_ok {N:List Nd} (hl:N.length ≤ 1000) (hr:∀ n ∈ N,1 ≤ n.ID ∧ n.ID ≤ 1048576) (hs:N.Pairwise (fun a b=>a.ID < b.ID)) {id:Int} (h64:I64 id):∃ r,cD N id=some r ∧ Fd N id r:=by
 by_cases hin:0 ≤ id ∧ id ≤ 1048576
 · obtain ⟨a,b,h1,h2,h3,h4⟩:=wW (dflt:=(default:Nd)) (C:=fun y=>hD y id) (c:=fun y=>y.ID - id) (key:=fun y=>y.ID) (x:=id) (L:=bF N id) (l:=N)
    (fun y hy=>by
      have:=hr y hy
      unfold hD
      rw [bndD,w64 (by omega) (by omega)])
    (fun y hy=>⟨by omega,by omega⟩) (fun f a b=>rfl) (by omega) hs
   have hlt:∀ y ∈ a,y.ID < id:=fun y hy=>by
    rw [h2] at hy; have:=(List.mem_filter.1 hy).2; simpa using this
   have hge:∀ y ∈ b,id ≤ y.ID:=fun y hy=>by
    rw [h3] at hy; have:=(List.mem_filter.1 hy).2; simpa using this
   rcases h4 with ⟨y,c,e1,e2,e3⟩ | ⟨e1,e2⟩
   · subst e1
     have hpw:=hs
     rw [h1] at hpw
     have hpw:=(List.pairwise_cons.1 (List.pairwise_append.1 hpw).2.1).1
     exact ⟨_,e3,.yes a y c h1 e2 hlt (fun z hz=>by have:=hpw z hz; omega)⟩
   · refine ⟨_,e2,.no a.length (by rw [h1,List.length_append]; omega) e1 (fun _ _=>?_)⟩
     rw [h1,List.take_left,List.drop_left]
     exact ⟨hlt,fun z hz=>by have:=hge z hz; have:=e1 z (by rw [h1]; simp [hz]); omega⟩
 · have hn:∀ n ∈ N,n.ID ≠ id:=fun n hn=>by have:=hr n hn; omega
   obtain ⟨p,h1,h2⟩:=aC9 hl hr id hn h64 fuel 0 N.length (eU (by omega)) (Nat.zero_le _) (Nat.le_refl _)
   exact ⟨_,h2,.no p h1 hn (fun h3 h4=>absurd ⟨h3,h4⟩ hin)⟩
def oI (N:List Nd) (id:Int):Option Int:=(N.find? fun n=>decide (n.ID=id)).map (·.Parent)
theorem aAe {N A C:List Nd} {y:Nd} {id:Int} (h:N=A ++ y :: C) (e:y.ID=id) (ha:∀ a ∈ A,a.ID < id):oI N id=some y.Parent:=by
 unfold oI
 rw [h,List.find?_append]
 have h1:A.find? (fun n=>decide (n.ID=id))=none:=List.find?_eq_none.2 (fun a hm=>by have:=ha a hm; simp; omega)
 rw [h1]
 simp [e]
theorem xH {N:List Nd} {id:Int} (h:∀ n ∈ N,n.ID ≠ id):oI N id=none:=by
 unfold oI
 have h1:N.find? (fun n=>decide (n.ID=id))=none:=List.find?_eq_none.2 (fun a hm=>by have:=h a hm; simpa using this)
 rw [h1]; rfl
def fO (N:List Nd):Nat → Int → List Int
 | 0,_=>[]
 | k + 1,id=>match oI N id with
   | some p=>if p=0 then [] else p :: fO N k p
   | none=>[]
structure Ok34 (N:List Nd):Prop where
 ln:N.length ≤ 1000
 ra:∀ n ∈ N,1 ≤ n.ID ∧ n.ID ≤ 1048576
 so:N.Pairwise (fun a b=>a.ID < b.ID)
 pa:∀ n ∈ N,I64 n.Parent
theorem aBI {st:Fs} (h:Ok34 st.Nodes) {id:Int} (h64:I64 id):∃ r,dA st id=some r ∧ Fd st.Nodes id r:=by
 obtain ⟨r,h1,h2⟩:=bs_ok h.ln h.ra h.so h64
 exact ⟨r,find_st st id h1,h2⟩
theorem aD5 {st:Fs} (h:Ok34 st.Nodes):∀ (k f i:Nat) (id:Int) (acc:List Int),I64 id → i + k=st.Nodes.length → k < f → acc.length=i → fT st f id acc (i:Int)=some (acc ++ fO st.Nodes k id)
 | k,0,_,_,_,_,_,hf,_=>absurd hf (by omega)
 | 0,f + 1,i,id,acc,h64,hi,hf,ha=>by
   rw [fT,bndD,decide_eq_false (by omega),bD]
   unfold fO; rw [List.append_nil]
 | k + 1,f + 1,i,id,acc,h64,hi,hf,ha=>by
   have hln:=h.ln
   obtain ⟨r,h1,h2⟩:=aBI h h64
   rw [fT,bndD,decide_eq_true (by omega),bM,h1,bnoS]
   unfold fO
   cases h2 with
   | yes A y C hN he hA hC =>
     have hg:gix st.Nodes (A.length:Int)=some y:=fS hN
     have hy:y ∈ st.Nodes:=by rw [hN]; simp
     rw [aAe hN he hA]
     simp only [Bool.not_true,beq_self_eq_true,gdtt,hg,bnoS,bndD,Bool.false_or]
     by_cases hp:y.Parent=0
     · rw [decide_eq_true hp,bM]
       simp only [hp,if_true,List.append_nil]
     · rw [decide_eq_false hp,bD]
       simp only [if_neg hp]
       rw [kX (by simp; omega) (by simp; omega),bnoS,w64 (by omega) (by omega)]
       have:=aD5 h k f (i + 1) y.Parent (acc ++ [y.Parent]) (h.pa y hy) (by omega) (by omega) (by rw [List.length_append,List.length_singleton]; omega)
       rw [show ((i:Int) + 1)=((i + 1:Nat):Int) by omega,this,List.append_assoc]
       rfl
   | no p hp hn _ =>
     rw [xH hn]
     simp only [Bool.not_false,tf,gdff,bnoS,bndD,Bool.true_or,bM,List.append_nil]
theorem path34 {st:Fs} (h:Ok34 st.Nodes) {id:Int} (h64:I64 id):iS st id=some (fO st.Nodes st.Nodes.length id):=by
 have hln:=h.ln
 have:=aD5 h st.Nodes.length fuel 0 id [] h64 (by omega) (eU (by omega)) rfl
 rw [List.nil_append] at this
 exact this
end Go.Fn
open Go Go.IL
namespace Go.Fn
theorem cmem {α:Type} {P:α → Option Bool} {q:α → Bool} {I:Nat → Int → Option Int} {l:List α} (hP:∀ x ∈ l,P x=some (q x))
 (hI:∀ f v,I (f + 1) v=bnd (decide (v < (l.length:Int))) fun x14=>bif x14 then (bno (gix l v) fun x16=>bno (P x16) fun x17=>bif x17 then some v else (bnd (IntKind.wrap .i64 (v + 1)) fun x19=>I f x19)) else some (-1))
 (hl:l.length ≤ 1000000):(bno (I fuel 0) fun x1=>bnd (decide (0 ≤ x1)) fun x2=>some x2)=some (l.any q):=by
 obtain ⟨k,h1,h2⟩:=aDi (L:=I) (q:=q) hl (fun p x r f h=>by
  rw [hI]; simp only [bndD,nJ h,bM,fS h,bnoS,hP x (by rw [h]; simp),w_at h hl]) (fun f=>by rw [hI]; simp only [bndD,lY,bD])
 rw [h1,bnoS,bndD,h2]
theorem cint {l:List Int} {x:Int} (hl:l.length ≤ 1000000):cX l x=some (decide (x ∈ l)):=by
 unfold cX jG
 have:=cmem (P:=fun y=>some (decide (x=y))) (q:=fun y=>decide (x=y)) (I:=dL l x) (l:=l) (fun _ _=>rfl) (fun f v=>rfl) hl
 rw [this]
 congr 1
 rw [Bool.eq_iff_iff,List.any_eq_true]
 simp
theorem uT:∀ {l m:List Int},l.Nodup → (∀ x ∈ l,x ∈ m) → l.length ≤ m.length
 | [],m,_,_=>Nat.zero_le _
 | x :: l,m,hn,hs=>by
   obtain ⟨h1,h2⟩:=List.nodup_cons.1 hn
   have hx:=hs x (by simp)
   have:=uT (l:=l) (m:=m.erase x) h2 (fun y hy=>by
    have hne:y ≠ x:=fun e=>h1 (e ▸ hy)
    exact (List.mem_erase_of_ne hne).2 (hs y (by simp [hy])))
   rw [List.length_erase_of_mem hx] at this
   have hp:0 < m.length:=List.length_pos_of_mem hx
   simp only [List.length_cons]; omega
theorem tA {N:List Nd} (h:N.Pairwise (fun a b=>a.ID < b.ID)):(N.map (·.ID)).Nodup:=by
 unfold List.Nodup
 rw [List.pairwise_map]
 exact h.imp (fun h=>by omega)
structure FV (K:Int) (st:Fs):Prop where
 rm:st.Room=24
 kp:st.Keep=K ∧ 0 ≤ K ∧ K ≤ 24
 ln:st.Nodes.length ≤ 24
 el:(st.Ended.length:Int) ≤ K
 so:st.Nodes.Pairwise (fun a b=>a.ID < b.ID)
 ra:∀ n ∈ st.Nodes,(1 ≤ n.ID ∧ n.ID ≤ 1048576) ∧ 1 ≤ n.Weight ∧ n.Weight ≤ 256
 pa:∀ n ∈ st.Nodes,n.Parent=0 ∨ ∃ m ∈ st.Nodes,m.ID=n.Parent
 rk:∃ r:Int → Nat,∀ n ∈ st.Nodes,n.Parent ≠ 0 → r n.Parent < r n.ID
 en:∀ n ∈ st.Nodes,(n.Closed=true ↔ n.ID ∈ st.Ended)
 nd:st.Ended.Nodup
 es:∀ e ∈ st.Ended,∃ n ∈ st.Nodes,n.ID=e
theorem FV.ok {K:Int} {st:Fs} (h:FV K st):Ok34 st.Nodes :=
 ⟨by have:=h.ln; omega,fun n hn=>(h.ra n hn).1,h.so,fun n hn=>by
  rcases h.pa n hn with e | ⟨m,hm,e⟩
  · rw [e]; exact ⟨by decide,by decide⟩
  · have:=(h.ra m hm).1; exact ⟨by omega,by omega⟩⟩
theorem nZ {N:List Nd} (h:N.Pairwise (fun a b=>a.ID < b.ID)) {a b:Nd} (ha:a ∈ N) (hb:b ∈ N) (e:a.ID=b.ID):a=b:=by
 obtain ⟨A,C,rfl⟩:=List.append_of_mem ha
 have hp:=List.pairwise_append.1 h
 have hp2:=List.pairwise_cons.1 hp.2.1
 rcases List.mem_append.1 hb with hb | hb
 · have:=hp.2.2 b hb a (by simp); omega
 · rcases List.mem_cons.1 hb with hb | hb
   · exact hb.symm
   · have:=hp2.1 b hb; omega
theorem yI {N:List Nd} {id p:Int} (h:oI N id=some p):∃ n ∈ N,n.ID=id ∧ n.Parent=p:=by
 unfold oI at h
 cases hf:N.find? (fun n=>decide (n.ID=id)) with
 | none=>rw [hf] at h; cases h
 | some n =>
   rw [hf] at h
   have h1:=List.find?_some hf
   exact ⟨n,List.mem_of_find?_eq_some hf,by simpa using h1,by simpa using h⟩
theorem vO {N:List Nd} (h:N.Pairwise (fun a b=>a.ID < b.ID)) {n:Nd} (hn:n ∈ N):oI N n.ID=some n.Parent:=by
 obtain ⟨A,C,rfl⟩:=List.append_of_mem hn
 have hp:=List.pairwise_append.1 h
 exact aAe rfl rfl (fun a ha=>hp.2.2 a ha n (by simp))
theorem sK {N:List Nd} {r:Int → Nat} (h:∀ n ∈ N,n.Parent ≠ 0 → r n.Parent < r n.ID):∀ (k:Nat) (id x:Int),x ∈ fO N k id → r x < r id
 | 0,_,_,hx=>(List.not_mem_nil hx).elim
 | k + 1,id,x,hx=>by
   unfold fO at hx
   cases hp:oI N id with
   | none=>rw [hp] at hx; exact (List.not_mem_nil hx).elim
   | some p =>
     rw [hp] at hx
     obtain ⟨n,hn,e1,e2⟩:=yI hp
     by_cases hz:p=0
     · simp only [hz,if_true] at hx; exact (List.not_mem_nil hx).elim
     · simp only [if_neg hz] at hx
       have h1:=h n hn (by rw [e2]; exact hz)
       rw [e1,e2] at h1
       rcases List.mem_cons.1 hx with rfl | hx
       · exact h1
       · have:=sK h k p x hx; omega
theorem uS (N:List Nd):∀ (k:Nat) (id:Int),(fO N k id).length ≤ k
 | 0,_=>Nat.le_refl _
 | k + 1,id=>by
   unfold fO
   cases oI N id with
   | none=>exact Nat.zero_le _
   | some p =>
     have:=uS N k p
     simp only
     split
     · exact Nat.zero_le _
     · rw [List.length_cons]; omega
theorem xS {K:Int} {st:Fs} (h:FV K st):(st.Nodes.filter (·.Closed)).length=st.Ended.length:=by
 have h1:((st.Nodes.filter (·.Closed)).map (·.ID)).Nodup:=tA (List.Pairwise.sublist List.filter_sublist h.so)
 have h2:=uT h1 (m:=st.Ended) (fun x hx=>by
  obtain ⟨n,hn,rfl⟩:=List.mem_map.1 hx
  obtain ⟨hn,hc⟩:=List.mem_filter.1 hn
  exact (h.en n hn).1 hc)
 have h3:=uT h.nd (m:=(st.Nodes.filter (·.Closed)).map (·.ID)) (fun x hx=>by
  obtain ⟨n,hn,e⟩:=h.es x hx
  exact List.mem_map.2 ⟨n,List.mem_filter.2 ⟨hn,(h.en n hn).2 (by rw [e]; exact hx)⟩,e⟩)
 rw [List.length_map] at h2 h3
 omega
end Go.Fn
open Go Go.IL
namespace Go.Fn
theorem qK {α:Type} {l p r:List α} {x:α} (h:l=p ++ x :: r):l[((p.length:Nat):Int).toNat]? = some x:=by
 rw [Int.toNat_natCast,h,List.getElem?_append_right (Nat.le_refl _)]; simp
theorem tL {α:Type} {p r:List α} {x y:α}:(p ++ x :: r).set ((p.length:Nat):Int).toNat y=p ++ y :: r:=by
 rw [Int.toNat_natCast,List.set_append_right _ _ (Nat.le_refl _)]; simp
def sumS:List Nd → Int → Int
 | [],_=>0
 | n :: r,id=>(if n.Parent=id then n.Weight else 0) + sumS r id
theorem tK:∀ (a b:List Nd) (id:Int),sumS (a ++ b) id=sumS a id + sumS b id
 | [],b,id=>by show sumS b id=0 + sumS b id; omega
 | n :: a,b,id=>by
   have:=tK a b id
   show _ + sumS (a ++ b) id=_ + sumS a id + sumS b id
   omega
theorem aBv:∀ {N:List Nd},(∀ n ∈ N,1 ≤ n.Weight ∧ n.Weight ≤ 256) → ∀ id,0 ≤ sumS N id ∧ sumS N id ≤ 256 * N.length
 | [],_,_=>⟨Int.le_refl _,Int.le_refl _⟩
 | n :: r,h,id=>by
   have h1:=aBv (N:=r) (fun x hx=>h x (by simp [hx])) id
   have h2:=h n (by simp)
   have e:sumS (n :: r) id=(if n.Parent=id then n.Weight else 0) + sumS r id:=rfl
   rw [e,List.length_cons]
   split <;> omega
theorem xA:∀ {N:List Nd} {n:Nd},(∀ x ∈ N,1 ≤ x.Weight ∧ x.Weight ≤ 256) → n ∈ N → n.Weight ≤ sumS N n.Parent
 | m :: r,n,h,hn=>by
   have h1:=aBv (N:=r) (fun x hx=>h x (by simp [hx])) n.Parent
   have e:sumS (m :: r) n.Parent=(if m.Parent=n.Parent then m.Weight else 0) + sumS r n.Parent:=rfl
   rw [e]
   rcases List.mem_cons.1 hn with rfl | hn
   · rw [if_pos rfl]; omega
   · have h2:=xA (N:=r) (fun x hx=>h x (by simp [hx])) hn
     have h3:=h m (by simp)
     split <;> omega
theorem sum_L {st:Fs} (hl:st.Nodes.length ≤ 1000) (hw:∀ n ∈ st.Nodes,1 ≤ n.Weight ∧ n.Weight ≤ 256) (id:Int):∀ (r p:List Nd) (f:Nat),st.Nodes=p ++ r → r.length < f → gJ st id f (sumS p id) (p.length:Int)=some (sumS st.Nodes id)
 | [],p,f + 1,hN,_=>by
   rw [List.append_nil] at hN
   rw [gJ]
   simp only [bndD,hN,lY,bD]
 | n :: r,p,f + 1,hN,hf=>by
   have hp:=aBv (N:=p) (fun x hx=>hw x (by rw [hN]; simp [hx])) id
   have hpl:p.length ≤ 1000:=by rw [hN] at hl; simp at hl; omega
   have hn:=hw n (by rw [hN]; simp)
   have hrec:=sum_L hl hw id r (p ++ [n]) f (kE hN) (by simpa using hf)
   have e1:sumS [n] id=(if n.Parent=id then n.Weight else 0) + 0:=rfl
   rw [tK,e1] at hrec
   rw [gJ]
   simp only [bndD,nJ hN,bM,fS hN,bnoS,w_at hN (show st.Nodes.length ≤ 1000000 by omega)]
   by_cases hq:n.Parent=id
   · rw [if_pos hq,Int.add_zero] at hrec
     rw [decide_eq_true hq,bM,w64 (by omega) (by omega)]
     exact hrec
   · rw [if_neg hq,Int.add_zero,Int.add_zero] at hrec
     rw [decide_eq_false hq,bD]
     exact hrec
theorem sum34 {st:Fs} (hl:st.Nodes.length ≤ 1000) (hw:∀ n ∈ st.Nodes,1 ≤ n.Weight ∧ n.Weight ≤ 256) (id:Int):mW st id=some (sumS st.Nodes id) :=
 sum_L hl hw id st.Nodes [] fuel rfl (eU (by omega))
def offN (y:Nd) (S:Int) (n:Nd):Nd:=if n.Parent=y.ID then ⟨n.ID,y.Parent,max (y.Weight * n.Weight / S) 1,n.Closed⟩ else n
theorem qF (y:Nd) (S:Int) (n:Nd):(offN y S n).ID=n.ID:=by unfold offN; split <;> rfl
theorem aAh (y:Nd) (S:Int) (n:Nd):(offN y S n).Closed=n.Closed:=by unfold offN; split <;> rfl
theorem off_L {a0 a1:Int} {E:List Int} {y:Nd} {M:List Nd} {E':List Int} (hl:M.length ≤ 1000) (hw:∀ n ∈ M,1 ≤ n.Weight ∧ n.Weight ≤ 256) (hy:1 ≤ y.Weight ∧ y.Weight ≤ 256) (hE:eO E y.ID=some E'):∀ (r p:List Nd) (f:Nat),M=p ++ r → r.length < f →
 fL a0 a1 y.ID E y M (sumS M y.ID) f (p.length:Int) (p.map (offN y (sumS M y.ID)) ++ r)=some (a0,a1,M.map (offN y (sumS M y.ID)),E')
 | [],p,f + 1,hM,_=>by
   rw [List.append_nil] at hM
   rw [fL]
   simp only [bndD,hM,lY,bD,hE,bnoS,List.append_nil]
 | n :: r,p,f + 1,hM,hf=>by
   have hn:n ∈ M:=by rw [hM]; simp
   have hwn:=hw n hn
   have hrec:=off_L (a0:=a0) (a1:=a1) hl hw hy hE r (p ++ [n]) f (kE hM) (by simpa using hf)
   have hlen:(p.map (offN y (sumS M y.ID))).length=p.length:=List.length_map ..
   generalize hq:p.map (offN y (sumS M y.ID))=P at *
   have hg:gix (P ++ n :: r) (p.length:Int)=some n:=by rw [← hlen]; exact fS rfl
   have hg2:∀ z:Nd,(P ++ z :: r)[((p.length:Nat):Int).toNat]? = some z:=fun z=>by rw [← hlen]; exact qK rfl
   have hset:∀ z w:Nd,(P ++ z :: r).set ((p.length:Nat):Int).toNat w=P ++ w :: r:=fun z w=>by rw [← hlen]; exact tL
   rw [fL]
   simp only [bndD,nJ hM,bM,hg,hg2,bnoS,w_at hM (show M.length ≤ 1000000 by omega)]
   rw [List.map_append,hq,List.append_assoc] at hrec
   have eo:[n].map (offN y (sumS M y.ID)) ++ r=offN y (sumS M y.ID) n :: r:=rfl
   rw [eo] at hrec
   by_cases hp:n.Parent=y.ID
   · have hge:=xA hw hn
     rw [hp] at hge
     have h1:1 ≤ y.Weight * n.Weight:=by
      have:=Int.mul_le_mul hy.1 hwn.1 (by decide) (by omega)
      simpa using this
     have h2:y.Weight * n.Weight ≤ 65536:=by
      have:=Int.mul_le_mul hy.2 hwn.2 (by omega) (by decide)
      simpa using this
     have hd0:0 ≤ y.Weight * n.Weight / sumS M y.ID:=Int.ediv_nonneg (by omega) (by omega)
     have hd1:y.Weight * n.Weight / sumS M y.ID ≤ y.Weight * n.Weight:=Int.ediv_le_self _ (by omega)
     have hquo:quoI .i64 (y.Weight * n.Weight) (sumS M y.ID)=some (y.Weight * n.Weight / sumS M y.ID):=by
      unfold quoI
      rw [if_neg (by omega),Int.tdiv_eq_ediv_of_nonneg (by omega),w64 (by omega) (by omega)]
     have eo2:offN y (sumS M y.ID) n=⟨n.ID,y.Parent,max (y.Weight * n.Weight / sumS M y.ID) 1,n.Closed⟩:=by unfold offN; rw [if_pos hp]
     rw [eo2] at hrec
     simp only [decide_eq_true hp,bM,w64 (show -9223372036854775808 ≤ y.Weight * n.Weight by omega) (by omega),hquo,bnoS,hset,hg2]
     exact hrec
   · have eo2:offN y (sumS M y.ID) n=n:=by unfold offN; rw [if_neg hp]
     rw [eo2] at hrec
     simp only [decide_eq_false hp,bD]
     exact hrec
theorem del34 {E:List Int} {id:Int} (hl:E.length ≤ 100000):eO E id=some (E.filter fun y=>!decide (y=id)) :=
 rT (P:=fun x=>lV x id) (q:=fun y=>decide (y=id)) (I:=dP E id) (L:=cR id) (fun _=>rfl) (fun _ _=>rfl) (fun _ _ _ _=>rfl) hl
def offS (A:List Nd) (y:Nd) (C:List Nd):List Nd:=(A ++ C).map (offN y (sumS (A ++ C) y.ID))
theorem aCy {K:Int} {st:Fs} (h:FV K st) {A C:List Nd} {y:Nd} (hN:st.Nodes=A ++ y :: C):FV K ⟨st.Room,st.Keep,offS A y C,st.Ended.filter fun e=>!decide (e=y.ID)⟩:=by
 obtain ⟨r,hr⟩:=h.rk
 have hso:=h.so
 rw [hN] at hso
 have hp:=List.pairwise_append.1 hso
 have hp2:=List.pairwise_cons.1 hp.2.1
 have hmem:∀ n,n ∈ A ++ C → n ∈ st.Nodes ∧ n.ID ≠ y.ID:=fun n hn=>by
  rcases List.mem_append.1 hn with hn | hn
  · exact ⟨by rw [hN]; simp [hn],by have:=hp.2.2 n hn y (by simp); omega⟩
  · exact ⟨by rw [hN]; simp [hn],by have:=hp2.1 n hn; omega⟩
 have hback:∀ n ∈ st.Nodes,n.ID ≠ y.ID → n ∈ A ++ C:=fun n hn hne=>by
  rw [hN] at hn
  rcases List.mem_append.1 hn with hn | hn
  · exact List.mem_append.2 (.inl hn)
  · rcases List.mem_cons.1 hn with rfl | hn
    · exact absurd rfl hne
    · exact List.mem_append.2 (.inr hn)
 have hy:y ∈ st.Nodes:=by rw [hN]; simp
 have hw:∀ n ∈ A ++ C,1 ≤ n.Weight ∧ n.Weight ≤ 256:=fun n hn=>(h.ra n (hmem n hn).1).2
 have hln:=h.ln
 have himg:∀ m ∈ offS A y C,∃ n ∈ A ++ C,m=offN y (sumS (A ++ C) y.ID) n:=fun m hm=>by
  obtain ⟨n,hn,e⟩:=List.mem_map.1 hm
  exact ⟨n,hn,e.symm⟩
 have hin:∀ n ∈ A ++ C,∃ m ∈ offS A y C,m.ID=n.ID:=fun n hn=>⟨_,List.mem_map.2 ⟨n,hn,rfl⟩,qF _ _ _⟩
 have hyp:y.Parent ≠ y.ID:=fun e=>by
  have hyr:=(h.ra y hy).1
  have:=hr y hy (by omega)
  rw [e] at this; omega
 refine ⟨h.rm,h.kp,?_,?_,?_,fun m hm=>?_,fun m hm=>?_,⟨r,fun m hm hz=>?_⟩,fun m hm=>?_,?_,fun e he=>?_⟩
 · show (offS A y C).length ≤ 24
   unfold offS; rw [List.length_map,List.length_append]
   rw [hN] at hln; simp at hln; omega
 · show ((st.Ended.filter _).length:Int) ≤ K
   have:=List.length_filter_le (fun e=>!decide (e=y.ID)) st.Ended
   have:=h.el; omega
 · show (offS A y C).Pairwise _
   unfold offS
   rw [List.pairwise_map]
   have:(A ++ C).Pairwise (fun a b=>a.ID < b.ID):=List.pairwise_append.2 ⟨hp.1,hp2.2,fun a ha b hb=>hp.2.2 a ha b (by simp [hb])⟩
   exact this.imp (fun hab=>by rw [qF,qF]; exact hab)
 · obtain ⟨n,hn,rfl⟩:=himg m hm
   have hnr:=h.ra n (hmem n hn).1
   unfold offN
   split
   · rename_i hpar
     refine ⟨hnr.1,?_⟩
     have hge:=xA hw hn
     rw [hpar] at hge
     have hyw:=(h.ra y hy).2
     have hd:y.Weight * n.Weight / sumS (A ++ C) y.ID ≤ y.Weight:=by
      apply Int.ediv_le_of_le_mul (by omega)
      exact Int.mul_le_mul_of_nonneg_left hge (by omega)
     show 1 ≤ max (y.Weight * n.Weight / sumS (A ++ C) y.ID) 1 ∧ max (y.Weight * n.Weight / sumS (A ++ C) y.ID) 1 ≤ 256
     omega
   · exact hnr
 · obtain ⟨n,hn,rfl⟩:=himg m hm
   obtain ⟨hn1,hn2⟩:=hmem n hn
   have key:∀ p:Int,p ≠ y.ID → (p=0 ∨ ∃ m ∈ st.Nodes,m.ID=p) → (p=0 ∨ ∃ m ∈ offS A y C,m.ID=p):=fun p hpy hh=>by
    rcases hh with hh | ⟨q,hq,e⟩
    · exact .inl hh
    · obtain ⟨z,hz,ez⟩:=hin q (hback q hq (by rw [e]; exact hpy))
      exact .inr ⟨z,hz,ez.trans e⟩
   unfold offN
   split
   · exact key y.Parent hyp (h.pa y hy)
   · rename_i hpar
     exact key n.Parent hpar (h.pa n hn1)
 · obtain ⟨n,hn,rfl⟩:=himg m hm
   obtain ⟨hn1,hn2⟩:=hmem n hn
   rw [qF]
   unfold offN at hz ⊢
   split
   · rename_i hpar
     rw [if_pos hpar] at hz
     have hz:y.Parent ≠ 0:=hz
     have h1:=hr y hy hz
     have hyr:=(h.ra y hy).1
     have h2:=hr n hn1 (by rw [hpar]; omega)
     rw [hpar] at h2
     show r y.Parent < r n.ID
     omega
   · rename_i hpar
     rw [if_neg hpar] at hz
     exact hr n hn1 hz
 · obtain ⟨n,hn,rfl⟩:=himg m hm
   obtain ⟨hn1,hn2⟩:=hmem n hn
   rw [aAh,qF]
   have:=h.en n hn1
   show _ ↔ n.ID ∈ st.Ended.filter _
   rw [List.mem_filter,this]
   simp [hn2]
 · exact h.nd.filter _
 · obtain ⟨he1,he2⟩:=List.mem_filter.1 he
   have he2:e ≠ y.ID:=by simpa using he2
   obtain ⟨n,hn,en⟩:=h.es e he1
   obtain ⟨z,hz,ez⟩:=hin n (hback n hn (by rw [en]; exact he2))
   exact ⟨z,hz,ez.trans en⟩
end Go.Fn
open Go Go.IL
namespace Go.Fn
inductive Anc (N:List Nd) (x:Int):Int → Prop
 | here:Anc N x x
 | up (n:Nd) (hn:n ∈ N) (hx:n.ID ≠ x) (hp:n.Parent ≠ 0) (h:Anc N x n.Parent):Anc N x n.ID
inductive Blw (N:List Nd) (x d:Int):Int → Prop
 | child (n:Nd) (hn:n ∈ N) (hx:n.ID ≠ x) (hp:n.Parent=d):Blw N x d n.ID
 | up (n:Nd) (hn:n ∈ N) (hx:n.ID ≠ x) (hp:n.Parent ≠ 0) (h:Blw N x d n.Parent):Blw N x d n.ID
def Rk (N:List Nd) (x:Int) (r:Int → Nat):Prop:=∀ n ∈ N,n.ID ≠ x → n.Parent ≠ 0 → r n.Parent < r n.ID
theorem aBN {N:List Nd} {x:Int} {r:Int → Nat} (h:Rk N x r) {z:Int} (ha:Anc N x z):z=x ∨ r x < r z:=by
 induction ha with
 | here=>exact .inl rfl
 | up n hn hx hp _ ih =>
   have:=h n hn hx hp
   rcases ih with e | e
   · rw [e] at this; exact .inr this
   · exact .inr (by omega)
theorem aBO {N:List Nd} {x z:Int} (ha:Anc N x z):z=x ∨ ∃ n ∈ N,n.ID=z:=by
 cases ha with
 | here=>exact .inl rfl
 | up n hn _ _ _=>exact .inr ⟨n,hn,rfl⟩
theorem aDt {N:List Nd} {x d:Int} {r:Int → Nat} (h:Rk N x r) (hd:d ≠ 0) {z:Int} (ha:Blw N x d z):r d < r z:=by
 induction ha with
 | child n hn hx hp=>have:=h n hn hx (by rw [hp]; exact hd); rw [hp] at this; exact this
 | up n hn hx hp _ ih=>have:=h n hn hx hp; omega
theorem aAx {N:List Nd} (hs:N.Pairwise (fun a b=>a.ID < b.ID)) {x:Int} {n:Nd} (hn:n ∈ N) (hx:n.ID ≠ x) (ha:Anc N x n.ID):Anc N x n.Parent:=by
 generalize hz:n.ID=z at ha
 cases ha with
 | here=>exact absurd hz hx
 | up m hm hmx hmp h =>
   have:m=n:=nZ hs hm hn hz.symm
   subst this; exact h
theorem blw_par {N:List Nd} (hs:N.Pairwise (fun a b=>a.ID < b.ID)) {x d:Int} {n:Nd} (hn:n ∈ N) (ha:Blw N x d n.ID):n.Parent=d ∨ Blw N x d n.Parent:=by
 generalize hz:n.ID=z at ha
 cases ha with
 | child m hm hmx hmp =>
   have:m=n:=nZ hs hm hn hz.symm
   subst this; exact .inl hmp
 | up m hm hmx hmp h =>
   have:m=n:=nZ hs hm hn hz.symm
   subst this; exact .inr h
def iJ (x d w:Int) (only:Bool) (n:Nd):Nd:=if n.ID=x then ⟨n.ID,d,w,n.Closed⟩ else if only=true ∧ n.Parent=d then ⟨n.ID,x,n.Weight,n.Closed⟩ else n
theorem aBD (x d w:Int) (o:Bool) (n:Nd):(iJ x d w o n).ID=n.ID:=by unfold iJ; split; rfl; split <;> rfl
theorem aAM (x d w:Int) (o:Bool) (n:Nd):(iJ x d w o n).Closed=n.Closed:=by unfold iJ; split; rfl; split <;> rfl
theorem aCu {N:List Nd} (hs:N.Pairwise (fun a b=>a.ID < b.ID)) {x d w:Int} {o:Bool} {r:Int → Nat} (h:Rk N x r) (hx0:x ≠ 0) (hz:∀ n ∈ N,n.ID ≠ 0) (hd:d ≠ 0 → ¬ Anc N x d):∃ r':Int → Nat,∀ m ∈ N.map (iJ x d w o),m.Parent ≠ 0 → r' m.Parent < r' m.ID:=by
 classical
 refine ⟨fun z=>if Anc N x z then r z + (r x + r d + 1) else if Blw N x d z then r z + 2 * (r x + r d + 1) else r z,fun m hm hp=>?_⟩
 obtain ⟨n,hn,rfl⟩:=List.mem_map.1 hm
 rw [aBD]
 have hxa:Anc N x x:=.here
 have hnb:d ≠ 0 → ¬ Blw N x d d:=fun h0 hb=>by have:=aDt h h0 hb; omega
 by_cases hx:n.ID=x
 · -- the node itself
   have e:(iJ x d w o n).Parent=d:=by unfold iJ; rw [if_pos hx]
   rw [e] at hp ⊢
   rw [hx]
   simp only [if_neg (hd hp),if_neg (hnb hp),if_pos hxa]
   omega
 · by_cases ho:o=true ∧ n.Parent=d
   · have e:(iJ x d w o n).Parent=x:=by unfold iJ; rw [if_neg hx,if_pos ho]
     rw [e]
     have hb:Blw N x d n.ID:=.child n hn hx ho.2
     have hna:¬ Anc N x n.ID:=fun ha=>by
      have h1:=aAx hs hn hx ha
      rw [ho.2] at h1
      by_cases h0:d=0
      · rw [h0] at h1
        rcases aBO h1 with e | ⟨q,hq,e⟩
        · exact hx0 e.symm
        · exact hz q hq e
      · exact hd h0 h1
     simp only [if_pos hxa,if_neg hna,if_pos hb]
     omega
   · have e:iJ x d w o n=n:=by unfold iJ; rw [if_neg hx,if_neg ho]
     rw [e] at hp ⊢
     have hr:=h n hn hx hp
     by_cases ha:Anc N x n.ID
     · have h1:=aAx hs hn hx ha
       simp only [if_pos ha,if_pos h1]
       omega
     · have h1:¬ Anc N x n.Parent:=fun h1=>ha (.up n hn hx hp h1)
       by_cases hb:Blw N x d n.ID
       · rcases blw_par hs hn hb with h2 | h2
         · have hd0:d ≠ 0:=by rw [← h2]; exact hp
           have h3:¬ Blw N x d n.Parent:=by rw [h2]; exact hnb hd0
           simp only [if_neg ha,if_neg h1,if_pos hb,if_neg h3]
           omega
         · simp only [if_neg ha,if_neg h1,if_pos hb,if_pos h2]
           omega
       · have h2:¬ Blw N x d n.Parent:=fun h2=>hb (.up n hn hx hp h2)
         simp only [if_neg ha,if_neg h1,if_neg hb,if_neg h2]
         omega
theorem aA5 {N:List Nd} (hs:N.Pairwise (fun a b=>a.ID < b.ID)) {x:Int}:∀ (k:Nat) (z:Int),z ≠ x → x ∈ fO N k z → x ≠ 0 → Anc N x z
 | 0,_,_,hx,_=>(List.not_mem_nil hx).elim
 | k + 1,z,hzx,hx,h0=>by
   unfold fO at hx
   cases hp:oI N z with
   | none=>rw [hp] at hx; exact (List.not_mem_nil hx).elim
   | some p =>
     rw [hp] at hx
     obtain ⟨n,hn,e1,e2⟩:=yI hp
     by_cases hq:p=0
     · simp only [hq,if_true] at hx; exact (List.not_mem_nil hx).elim
     · simp only [if_neg hq] at hx
       subst e1 e2
       by_cases hpx:n.Parent=x
       · exact .up n hn hzx hq (by rw [hpx]; exact .here)
       · rcases List.mem_cons.1 hx with e | hx
         · exact absurd e.symm hpx
         · exact .up n hn hzx hq (aA5 hs k n.Parent hpx hx h0)
theorem zS {N:List Nd}:∀ (k:Nat) (z x:Int),x ∈ fO N k z → x ∈ fO N (k + 1) z
 | 0,_,_,hx=>(List.not_mem_nil hx).elim
 | k + 1,z,x,hx=>by
   unfold fO at hx ⊢
   cases hp:oI N z with
   | none=>rw [hp] at hx; exact (List.not_mem_nil hx).elim
   | some p =>
     rw [hp] at hx
     by_cases hq:p=0
     · simp only [hq,if_true] at hx; exact (List.not_mem_nil hx).elim
     · simp only [if_neg hq] at hx ⊢
       rcases List.mem_cons.1 hx with e | hx
       · rw [e]; exact List.mem_cons_self
       · exact List.mem_cons_of_mem _ (zS k p x hx)
theorem zR {N:List Nd}:∀ (k:Nat) (z:Int),(fO N k z).length < k → fO N (k + 1) z=fO N k z
 | 0,_,h=>absurd h (by omega)
 | k + 1,z,h=>by
   rw [fO] at h
   rw [fO,fO]
   cases hp:oI N z with
   | none=>rfl
   | some p =>
     rw [hp] at h
     by_cases hq:p=0
     · simp only [hq,if_true]
     · simp only [if_neg hq,List.length_cons] at h ⊢
       rw [zR k p (by omega)]
theorem aDu {N:List Nd} (hs:N.Pairwise (fun a b=>a.ID < b.ID)) {x z:Int} (h:Anc N x z):z=x ∨ ∃ k,x ∈ fO N k z:=by
 induction h with
 | here=>exact .inl rfl
 | up n hn hx hp _ ih =>
   right
   rcases ih with e | ⟨k,hk⟩
   · refine ⟨1,?_⟩
     rw [fO,vO hs hn]
     simp only [if_neg hp]
     rw [e]; exact List.mem_cons_self
   · refine ⟨k + 1,?_⟩
     rw [fO,vO hs hn]
     simp only [if_neg hp]
     exact List.mem_cons_of_mem _ hk
theorem rF {N:List Nd} (hs:N.Pairwise (fun a b=>a.ID < b.ID)) {r:Int → Nat} (hr:∀ n ∈ N,n.Parent ≠ 0 → r n.Parent < r n.ID) (hpa:∀ n ∈ N,n.Parent=0 ∨ ∃ m ∈ N,m.ID=n.Parent):∀ (k:Nat) (z:Int),(∃ n ∈ N,n.ID=z) → (z :: fO N k z).Nodup ∧ ∀ y ∈ z :: fO N k z,y ∈ N.map (·.ID)
 | 0,z,⟨n,hn,e⟩=>⟨by simp [fO],fun y hy=>by
   rcases List.mem_cons.1 hy with rfl | hy
   · exact List.mem_map.2 ⟨n,hn,e⟩
   · exact (List.not_mem_nil hy).elim⟩
 | k + 1,z,⟨n,hn,e⟩=>by
   subst e
   have hz:n.ID ∈ N.map (·.ID):=List.mem_map.2 ⟨n,hn,rfl⟩
   have hnot:¬ n.ID ∈ fO N (k + 1) n.ID:=fun hm=>by have:=sK hr (k + 1) _ _ hm; omega
   refine ⟨List.nodup_cons.2 ⟨hnot,?_⟩,fun y hy=>?_⟩
   · rw [fO,vO hs hn]
     by_cases hq:n.Parent=0
     · simp only [if_pos hq]; exact List.nodup_nil
     · simp only [if_neg hq]
       rcases hpa n hn with e | ⟨m,hm,e⟩
       · exact absurd e hq
       · exact (rF hs hr hpa k n.Parent ⟨m,hm,e⟩).1
   · rcases List.mem_cons.1 hy with rfl | hy
     · exact hz
     · rw [fO,vO hs hn] at hy
       by_cases hq:n.Parent=0
       · simp only [if_pos hq] at hy; exact (List.not_mem_nil hy).elim
       · simp only [if_neg hq] at hy
         rcases hpa n hn with e | ⟨m,hm,e⟩
         · exact absurd e hq
         · exact (rF hs hr hpa k n.Parent ⟨m,hm,e⟩).2 y hy
theorem sL {N:List Nd} (hs:N.Pairwise (fun a b=>a.ID < b.ID)) {r:Int → Nat} (hr:∀ n ∈ N,n.Parent ≠ 0 → r n.Parent < r n.ID) (hpa:∀ n ∈ N,n.Parent=0 ∨ ∃ m ∈ N,m.ID=n.Parent) {z:Int} (hz:∃ n ∈ N,n.ID=z):∀ (j:Nat),fO N (N.length + j) z=fO N N.length z
 | 0=>rfl
 | j + 1=>by
   have h1:=sL hs hr hpa hz j
   obtain ⟨h2,h3⟩:=rF hs hr hpa N.length z hz
   have h4:=uT h2 h3
   rw [List.length_cons,List.length_map] at h4
   have:=zR (N:=N) (N.length + j) z (by rw [h1]; omega)
   rw [show N.length + (j + 1)=N.length + j + 1 by omega,this,h1]
theorem zT {N:List Nd} (k:Nat) (z x:Int) (h:x ∈ fO N k z):∀ j,x ∈ fO N (k + j) z
 | 0=>h
 | j + 1=>zS _ _ _ (zT k z x h j)
theorem not_anc {N:List Nd} (hs:N.Pairwise (fun a b=>a.ID < b.ID)) {r:Int → Nat} (hr:∀ n ∈ N,n.Parent ≠ 0 → r n.Parent < r n.ID) (hpa:∀ n ∈ N,n.Parent=0 ∨ ∃ m ∈ N,m.ID=n.Parent) {x z:Int} (hz:∃ n ∈ N,n.ID=z) (hzx:z ≠ x) (h:¬ x ∈ fO N N.length z):¬ Anc N x z:=fun ha=>by
 rcases aDu hs ha with e | ⟨k,hk⟩
 · exact hzx e
 · have h1:=zT k z x hk N.length
   rw [show k + N.length=N.length + k by omega,sL hs hr hpa hz k] at h1
   exact h h1
end Go.Fn
open Go Go.IL
namespace Go.Fn
theorem aCM {a0 a1:Int} {N:List Nd} {E:List Int} (h:Ok34 N):∀ (k f i:Nat) (id:Int) (acc:List Int),I64 id → i + k=N.length → k < f → acc.length=i → eS a0 a1 N E f id acc (i:Int)=some (acc ++ fO N k id)
 | k,0,_,_,_,_,_,hf,_=>absurd hf (by omega)
 | 0,f + 1,i,id,acc,h64,hi,hf,ha=>by
   rw [eS,bndD,decide_eq_false (by omega),bD]
   unfold fO; rw [List.append_nil]
 | k + 1,f + 1,i,id,acc,h64,hi,hf,ha=>by
   have hln:=h.ln
   obtain ⟨r,h1,h2⟩:=aBI (st:=⟨a0,a1,N,E⟩) h h64
   have h2:Fd N id r:=h2
   rw [eS,bndD,decide_eq_true (by omega),bM,h1,bnoS]
   unfold fO
   cases h2 with
   | yes A y C hN he hA hC =>
     have hg:gix N (A.length:Int)=some y:=fS hN
     have hg2:N[((A.length:Nat):Int).toNat]? = some y:=qK hN
     have hy:y ∈ N:=by rw [hN]; simp
     rw [aAe hN he hA]
     simp only [Bool.not_true,beq_self_eq_true,gdtt,hg,hg2,bnoS,bndD,Bool.false_or]
     by_cases hp:y.Parent=0
     · rw [decide_eq_true hp,bM]
       simp only [hp,if_true,List.append_nil]
     · rw [decide_eq_false hp,bD]
       simp only [if_neg hp]
       rw [kX (by simp; omega) (by simp; omega),bnoS,w64 (by omega) (by omega)]
       have:=aCM (a0:=a0) (a1:=a1) (E:=E) h k f (i + 1) y.Parent (acc ++ [y.Parent]) (h.pa y hy) (by omega) (by omega) (by rw [List.length_append,List.length_singleton]; omega)
       rw [show ((i:Int) + 1)=((i + 1:Nat):Int) by omega,this,List.append_assoc]
       rfl
   | no p hp hn _ =>
     rw [xH hn]
     simp only [Bool.not_false,tf,gdff,bnoS,bndD,Bool.true_or,bM,List.append_nil]
theorem path34b {a0 a1:Int} {N:List Nd} {E:List Int} (h:Ok34 N) {id:Int} (h64:I64 id):lI a0 a1 id N E=some (fO N N.length id):=by
 have hln:=h.ln
 have:=aCM (a0:=a0) (a1:=a1) (E:=E) h N.length fuel 0 id [] h64 (by omega) (eU (by omega)) rfl
 rw [List.nil_append] at this
 exact this
def rA (x d:Int) (o:Bool) (n:Nd):Nd:=if (o && decide (n.Parent=d) && !decide (n.ID=x))=true then ⟨n.ID,x,n.Weight,n.Closed⟩ else n
theorem qL {A C:List Nd} {y:Nd} (hs:(A ++ y :: C).Pairwise (fun a b=>a.ID < b.ID)):(∀ a ∈ A,a.ID ≠ y.ID) ∧ ∀ c ∈ C,c.ID ≠ y.ID:=by
 have hp:=List.pairwise_append.1 hs
 have hp2:=List.pairwise_cons.1 hp.2.1
 exact ⟨fun a ha=>by have:=hp.2.2 a ha y (by simp); omega,fun c hc=>by have:=hp2.1 c hc; omega⟩
theorem zW {x d w:Int} {o:Bool} {l:List Nd} (h:∀ n ∈ l,n.ID ≠ x):l.map (rA x d o)=l.map (iJ x d w o):=by
 apply List.map_congr_left
 intro n hn
 have:=h n hn
 unfold rA iJ
 rw [if_neg this,decide_eq_false this]
 cases o <;> simp
theorem aEB {a0 a1:Int} {op:Fo} {E:List Int} {v6 v7:Int} {v8:Bool} {M A C:List Nd} {y:Nd} (hM:M=A ++ y :: C) (hs:M.Pairwise (fun a b=>a.ID < b.ID)) (hl:M.length ≤ 1000) (hy:y.ID=op.ID):∀ (r p:List Nd) (f:Nat),M=p ++ r → r.length < f →
 fA a0 a1 op E v6 v7 v8 ((A.length:Int),true) M f (p.length:Int) (p.map (rA op.ID v6 v8) ++ r)=some (a0,a1,M.map (iJ op.ID v6 v7 v8),E)
 | [],p,f + 1,hp,_=>by
   rw [List.append_nil] at hp
   subst hp
   have hs2:=hs
   rw [hM] at hs2
   obtain ⟨hA,hC⟩:=qL hs2
   rw [hy] at hA hC
   have e1:M.map (rA op.ID v6 v8) ++ []=A.map (iJ op.ID v6 v7 v8) ++ y :: C.map (iJ op.ID v6 v7 v8):=by
    rw [List.append_nil,hM,List.map_append,List.map_cons,zW (w:=v7) hA,zW (w:=v7) hC]
    congr 2
    unfold rA
    rw [hy]; simp
   have e2:M.map (iJ op.ID v6 v7 v8)=A.map (iJ op.ID v6 v7 v8) ++ (⟨y.ID,v6,v7,y.Closed⟩:Nd) :: C.map (iJ op.ID v6 v7 v8):=by
    rw [hM,List.map_append,List.map_cons]
    congr 2
    unfold iJ
    rw [if_pos hy]
   have hlen:(A.map (iJ op.ID v6 v7 v8)).length=A.length:=List.length_map ..
   rw [fA]
   simp only [bndD,lY,bD]
   rw [e1,e2]
   generalize A.map (iJ op.ID v6 v7 v8)=P at *
   generalize C.map (iJ op.ID v6 v7 v8)=Q at *
   have hg:∀ z:Nd,gix (P ++ z :: Q) (A.length:Int)=some z:=fun z=>by rw [← hlen]; exact fS rfl
   have hg2:∀ z:Nd,(P ++ z :: Q)[((A.length:Nat):Int).toNat]? = some z:=fun z=>by rw [← hlen]; exact qK rfl
   have hset:∀ z w:Nd,(P ++ z :: Q).set ((A.length:Nat):Int).toNat w=P ++ w :: Q:=fun z w=>by rw [← hlen]; exact tL
   simp only [hg,hg2,hset,bnoS]
 | n :: r,p,f + 1,hp,hf=>by
   have hrec:=aEB (a0:=a0) (a1:=a1) (op:=op) (E:=E) (v6:=v6) (v7:=v7) (v8:=v8) hM hs hl hy r (p ++ [n]) f (kE hp) (by simpa using hf)
   have hlen:(p.map (rA op.ID v6 v8)).length=p.length:=List.length_map ..
   rw [List.map_append,List.append_assoc] at hrec
   have eo:[n].map (rA op.ID v6 v8) ++ r=rA op.ID v6 v8 n :: r:=rfl
   rw [eo] at hrec
   generalize p.map (rA op.ID v6 v8)=P at *
   have hg:gix (P ++ n :: r) (p.length:Int)=some n:=by rw [← hlen]; exact fS rfl
   have hg2:(P ++ n :: r)[((p.length:Nat):Int).toNat]? = some n:=by rw [← hlen]; exact qK rfl
   have hset:∀ w:Nd,(P ++ n :: r).set ((p.length:Nat):Int).toNat w=P ++ w :: r:=fun w=>by rw [← hlen]; exact tL
   rw [fA]
   simp only [bndD,nJ hp,bM,hg,hg2,bnoS,w_at hp (show M.length ≤ 1000000 by omega)]
   cases h8:v8
   · have e:rA op.ID v6 v8 n=n:=by unfold rA; rw [h8]; simp
     rw [e,h8] at hrec
     simp only [ft,gdff,bnoS,Bool.false_and,bD]
     exact hrec
   · simp only [beq_self_eq_true,gdtt,bnoS,Bool.true_and]
     by_cases hq:n.Parent=v6
     · simp only [decide_eq_true hq,beq_self_eq_true,gdtt,bnoS,Bool.true_and]
       by_cases hx:n.ID=op.ID
       · have e:rA op.ID v6 v8 n=n:=by unfold rA; rw [hx]; simp
         rw [e,h8] at hrec
         simp only [decide_eq_true hx,Bool.not_true,bD]
         exact hrec
       · have e:rA op.ID v6 v8 n=⟨n.ID,op.ID,n.Weight,n.Closed⟩:=by unfold rA; rw [h8,decide_eq_true hq,decide_eq_false hx]; rfl
         rw [e,h8] at hrec
         simp only [decide_eq_false hx,Bool.not_false,bM,hset]
         exact hrec
     · have e:rA op.ID v6 v8 n=n:=by unfold rA; rw [decide_eq_false hq]; simp
       rw [e,h8] at hrec
       simp only [decide_eq_false hq,ft,gdff,bnoS,Bool.false_and,bD]
       exact hrec
def mvN (d p:Int) (n:Nd):Nd:=if n.ID=d then ⟨n.ID,p,n.Weight,n.Closed⟩ else n
theorem lE (d p:Int) (n:Nd):(mvN d p n).ID=n.ID:=by unfold mvN; split <;> rfl
theorem map_mv {A C:List Nd} {y:Nd} {p:Int} (hs:(A ++ y :: C).Pairwise (fun a b=>a.ID < b.ID)):(A ++ y :: C).map (mvN y.ID p)=A ++ (⟨y.ID,p,y.Weight,y.Closed⟩:Nd) :: C:=by
 obtain ⟨hA,hC⟩:=qL hs
 rw [List.map_append,List.map_cons]
 have e1:A.map (mvN y.ID p)=A:=by
  conv=>rhs; rw [← List.map_id A]
  exact List.map_congr_left (fun a ha=>by unfold mvN; rw [if_neg (hA a ha)]; rfl)
 have e2:C.map (mvN y.ID p)=C:=by
  conv=>rhs; rw [← List.map_id C]
  exact List.map_congr_left (fun a ha=>by unfold mvN; rw [if_neg (hC a ha)]; rfl)
 rw [e1,e2]
 congr 2
 unfold mvN; rw [if_pos rfl]
structure HP (N:List Nd) (x:Int) (r:Int → Nat):Prop where
 ok:Ok34 N
 xm:∃ n ∈ N,n.ID=x
 ra:∀ n ∈ N,1 ≤ n.Weight ∧ n.Weight ≤ 256
 pa:∀ n ∈ N,n.ID ≠ x → n.Parent=0 ∨ ∃ m ∈ N,m.ID=n.Parent
 rk:Rk N x r
 xs:((∀ n ∈ N,n.Parent ≠ 0 → r n.Parent < r n.ID) ∧ ∀ n ∈ N,n.Parent=0 ∨ ∃ m ∈ N,m.ID=n.Parent) ∨ ∀ n ∈ N,n.ID ≠ x → n.Parent ≠ x
structure Hung (N:List Nd) (g:Nd → Nd):Prop where
 id:∀ n,(g n).ID=n.ID
 cl:∀ n,(g n).Closed=n.Closed
 ra:∀ n ∈ N,1 ≤ (g n).Weight ∧ (g n).Weight ≤ 256
 pa:∀ n ∈ N,(g n).Parent=0 ∨ ∃ m ∈ N,m.ID=(g n).Parent
 rk:∃ r:Int → Nat,∀ m ∈ N.map g,m.Parent ≠ 0 → r m.Parent < r m.ID
theorem yX {N:List Nd} {x d w:Int} {o:Bool} {r:Int → Nat} (h:HP N x r) (hw:1 ≤ w ∧ w ≤ 256) (hd:d ≠ 0 → (∃ m ∈ N,m.ID=d) ∧ ¬ Anc N x d):Hung N (iJ x d w o):=by
 obtain ⟨y,hy,hyx⟩:=h.xm
 have hyr:=h.ok.ra y hy
 refine ⟨aBD x d w o,aAM x d w o,fun n hn=>?_,fun n hn=>?_,aCu h.ok.so h.rk (by omega) (fun n hn=>by have:=h.ok.ra n hn; omega) (fun h0=>(hd h0).2)⟩
 · have:=h.ra n hn
   unfold iJ
   split
   · exact hw
   · split <;> exact this
 · unfold iJ
   split
   · by_cases h0:d=0
     · exact .inl h0
     · exact .inr (hd h0).1
   · rename_i hx
     split
     · exact .inr ⟨y,hy,hyx⟩
     · exact h.pa n hn hx
end Go.Fn
open Go Go.IL
namespace Go.Fn
theorem wI {R K:Int} {N:List Nd} {E:List Int} (h:Ok34 N) {id:Int} (h64:I64 id):∃ r,dA ⟨R,K,N,E⟩ id=some r ∧ Fd N id r:=aBI (st:=⟨R,K,N,E⟩) h h64
theorem aAt {R K:Int} {N:List Nd} {E:List Int} (h:Ok34 N) {id:Int} (hx:∃ n ∈ N,n.ID=id):∃ A y C,N=A ++ y :: C ∧ y.ID=id ∧ dA ⟨R,K,N,E⟩ id=some ((A.length:Int),true):=by
 obtain ⟨n,hn,e⟩:=hx
 have hr:=h.ra n hn
 obtain ⟨r,h1,h2⟩:=wI (R:=R) (K:=K) (E:=E) h (id:=id) ⟨by omega,by omega⟩
 cases h2 with
 | yes A y C hN he _ _=>exact ⟨A,y,C,hN,he,h1⟩
 | no p hp hno _=>exact absurd e (hno n hn)
theorem uX {R K:Int} {op:Fo} {E:List Int} {v6 v7:Int} {v8:Bool} {M A C:List Nd} {y:Nd} (hM:M=A ++ y :: C) (hs:M.Pairwise (fun a b=>a.ID < b.ID)) (hl:M.length ≤ 1000) (hy:y.ID=op.ID):gO R K op E v6 v7 v8 ((A.length:Int),true) M=some (R,K,M.map (iJ op.ID v6 v7 v8),E) :=
 aEB hM hs hl hy M [] fuel rfl (eU (by omega))
theorem hp_move {N:List Nd} {x:Int} {r:Int → Nat} (h:HP N x r) {y k:Nd} (hy:y ∈ N) (hyx:y.ID=x) (hk:k ∈ N) (hkx:k.ID ≠ x) (ha:Anc N x k.ID) (hfull:(∀ n ∈ N,n.Parent ≠ 0 → r n.Parent < r n.ID) ∧ ∀ n ∈ N,n.Parent=0 ∨ ∃ m ∈ N,m.ID=n.Parent):HP (N.map (mvN k.ID y.Parent)) x r ∧ ¬ Anc (N.map (mvN k.ID y.Parent)) x k.ID:=by
 obtain ⟨hf1,hf2⟩:=hfull
 have hso:(N.map (mvN k.ID y.Parent)).Pairwise (fun a b=>a.ID < b.ID):=by
  rw [List.pairwise_map]
  exact h.ok.so.imp (fun hab=>by rw [lE,lE]; exact hab)
 have himg:∀ m ∈ N.map (mvN k.ID y.Parent),∃ n ∈ N,m=mvN k.ID y.Parent n:=fun m hm=>by
  obtain ⟨n,hn,e⟩:=List.mem_map.1 hm
  exact ⟨n,hn,e.symm⟩
 have hin:∀ p:Int,(p=0 ∨ ∃ m ∈ N,m.ID=p) → (p=0 ∨ ∃ m ∈ N.map (mvN k.ID y.Parent),m.ID=p):=fun p hp=>hp.imp id (fun ⟨m,hm,e⟩=>⟨_,List.mem_map.2 ⟨m,hm,rfl⟩,(lE _ _ _).trans e⟩)
 have hxk:r x < r k.ID:=by
  rcases aBN h.rk ha with e | e
  · exact absurd e hkx
  · exact e
 have hpar:∀ n ∈ N,(mvN k.ID y.Parent n).Parent ≠ 0 → r (mvN k.ID y.Parent n).Parent < r n.ID:=fun n hn hz=>by
  unfold mvN at hz ⊢
  split
  · rename_i e
    rw [if_pos e] at hz
    have hz:y.Parent ≠ 0:=hz
    have:=hf1 y hy hz
    rw [hyx] at this
    show r y.Parent < r n.ID
    rw [e]; omega
  · rename_i e
    rw [if_neg e] at hz
    exact hf1 n hn hz
 have hpas:∀ n ∈ N,(mvN k.ID y.Parent n).Parent=0 ∨ ∃ m ∈ N.map (mvN k.ID y.Parent),m.ID=(mvN k.ID y.Parent n).Parent:=fun n hn=>by
  apply hin
  unfold mvN
  split
  · exact hf2 y hy
  · exact hf2 n hn
 have hrk:Rk (N.map (mvN k.ID y.Parent)) x r:=fun m hm hx hz=>by
  obtain ⟨n,hn,rfl⟩:=himg m hm
  rw [lE]
  exact hpar n hn hz
 refine ⟨⟨⟨by rw [List.length_map]; exact h.ok.ln,fun m hm=>?_,hso,fun m hm=>?_⟩,?_,fun m hm=>?_,fun m hm _=>?_,hrk,.inl ⟨fun m hm hz=>?_,fun m hm=>?_⟩⟩,fun hb=>?_⟩
 · obtain ⟨n,hn,rfl⟩:=himg m hm
   rw [lE]; exact h.ok.ra n hn
 · obtain ⟨n,hn,rfl⟩:=himg m hm
   unfold mvN
   split
   · exact h.ok.pa y hy
   · exact h.ok.pa n hn
 · exact ⟨_,List.mem_map.2 ⟨y,hy,rfl⟩,(lE _ _ _).trans hyx⟩
 · obtain ⟨n,hn,rfl⟩:=himg m hm
   have:=h.ra n hn
   unfold mvN
   split <;> exact this
 · obtain ⟨n,hn,rfl⟩:=himg m hm
   exact hpas n hn
 · obtain ⟨n,hn,rfl⟩:=himg m hm
   rw [lE]
   exact hpar n hn hz
 · obtain ⟨n,hn,rfl⟩:=himg m hm
   exact hpas n hn
 · have hkm:mvN k.ID y.Parent k ∈ N.map (mvN k.ID y.Parent):=List.mem_map.2 ⟨k,hk,rfl⟩
   have e1:(mvN k.ID y.Parent k).Parent=y.Parent:=by unfold mvN; rw [if_pos rfl]
   have h1:=aAx hso hkm (by rw [lE]; exact hkx) (by rw [lE]; exact hb)
   rw [e1] at h1
   have hyr:=h.ok.ra y hy
   by_cases hz:y.Parent=0
   · rcases aBO h1 with e | ⟨m,hm,e⟩
     · omega
     · obtain ⟨n,hn,rfl⟩:=himg m hm
       rw [lE] at e
       have:=h.ok.ra n hn; omega
   · have h2:=hf1 y hy hz
     rw [hyx] at h2
     rcases aBN hrk h1 with e | e
     · rw [e] at h2; omega
     · omega
end Go.Fn
open Go Go.IL
namespace Go.Fn
theorem nclone {l:List Nd} (hl:l.length ≤ 100000):dE l=some l:=by
 unfold dE
 have h:(bno (app 32 ([]:(List Nd)) l) fun x3=>some x3)=some l:=by
  rw [kX (by simp; omega) (by simp; omega),bnoS,List.nil_append]
 rw [h,tX]
 rintro rfl; rfl
theorem eclone {l:List Int} (hl:l.length ≤ 100000):gS l=some l:=by
 unfold gS
 have h:(bno (app 8 ([]:(List Int)) l) fun x3=>some x3)=some l:=by
  rw [kX (by simp; omega) (by simp; omega),bnoS,List.nil_append]
 rw [h,tX]
 rintro rfl; rfl
structure BS (K:Int) (N:List Nd) (E:List Int):Prop where
 kp:0 ≤ K ∧ K ≤ 24
 ln:N.length ≤ 24
 el:(E.length:Int) ≤ K
 so:N.Pairwise (fun a b=>a.ID < b.ID)
 ra:∀ n ∈ N,1 ≤ n.ID ∧ n.ID ≤ 1048576
 en:∀ n ∈ N,(n.Closed=true ↔ n.ID ∈ E)
 nd:E.Nodup
 es:∀ e ∈ E,∃ n ∈ N,n.ID=e
theorem FV.bs {K:Int} {st:Fs} (h:FV K st):BS K st.Nodes st.Ended:=⟨h.kp.2,h.ln,h.el,h.so,fun n hn=>(h.ra n hn).1,h.en,h.nd,h.es⟩
theorem fv_hung {K:Int} {N:List Nd} {E:List Int} {g:Nd → Nd} (b:BS K N E) (h:Hung N g):FV K ⟨24,K,N.map g,E⟩:=by
 have himg:∀ m ∈ N.map g,∃ n ∈ N,m=g n:=fun m hm=>by
  obtain ⟨n,hn,e⟩:=List.mem_map.1 hm
  exact ⟨n,hn,e.symm⟩
 have hin:∀ p:Int,(∃ m ∈ N,m.ID=p) → ∃ m ∈ N.map g,m.ID=p:=fun p ⟨m,hm,e⟩=>⟨_,List.mem_map.2 ⟨m,hm,rfl⟩,(h.id m).trans e⟩
 refine ⟨rfl,⟨rfl,b.kp⟩,by show (N.map g).length ≤ 24; rw [List.length_map]; exact b.ln,b.el,?_,fun m hm=>?_,fun m hm=>?_,h.rk,fun m hm=>?_,b.nd,fun e he=>hin e (b.es e he)⟩
 · show (N.map g).Pairwise _
   rw [List.pairwise_map]
   exact b.so.imp (fun hab=>by rw [h.id,h.id]; exact hab)
 · obtain ⟨n,hn,rfl⟩:=himg m hm
   rw [h.id]
   exact ⟨b.ra n hn,h.ra n hn⟩
 · obtain ⟨n,hn,rfl⟩:=himg m hm
   exact (h.pa n hn).imp id (hin _)
 · obtain ⟨n,hn,rfl⟩:=himg m hm
   rw [h.id,h.cl]
   exact b.en n hn
def may34 (op:Fo):Prop:=(1 ≤ op.ID ∧ op.ID ≤ 1048576) ∧ (1 ≤ op.Weight ∧ op.Weight ≤ 256) ∧ (0 ≤ op.Dep ∧ op.Dep ≤ 1048576) ∧ op.Dep ≠ op.ID
theorem wrong34 (n:Nd):oK n=some (decide (n.ID < 1) || decide (1048576 < n.ID) || decide (n.Weight < 1) || decide (256 < n.Weight)):=rfl
end Go.Fn
open Go Go.IL
namespace Go.Fn
end Go.Fn
open Go Go.IL
namespace Go.Fn
abbrev AC:=aK
abbrev AS:=bH
inductive mY (C:List AC):Int → List Nat → Prop
 | nil:mY C (-1) []
 | cons {a:Nat} {c:AC} {sp:List Nat} (h:C[a]? = some c) (hl:c.Live=false) (t:mY C c.Link sp):mY C (a:Int) (a :: sp)
structure uP (A:AS) (sp:List Nat):Prop where
 len:A.Cells.length ≤ 64
 odd:∀ c ∈ A.Cells,(c.Live=true → c.Link=0) ∧ (c.Live=false → c.Value=0)
 ch:mY A.Cells A.Free sp
 nd:sp.Nodup
 used:A.Used=(A.Cells.countP (fun c=>c.Live):Nat)
 all:A.Cells.countP (fun c=>c.Live) + sp.length=A.Cells.length
 cov:∀ (i:Nat) (c:AC),A.Cells[i]? = some c → c.Live=false → i ∈ sp
theorem mY.place {C:List AC}:∀ {a:Int} {sp:List Nat},mY C a sp → -1 ≤ a ∧ a < (C.length:Int) ∨ a = -1
 | _,_,.nil=>.inr rfl
 | _,_,.cons h _ _=>.inl (by have:=(List.getElem?_eq_some_iff.1 h).1; omega)
theorem mY.ok {C:List AC} {a:Int} {sp:List Nat} (h:mY C a sp) : -1 ≤ a ∧ (a < (C.length:Int)) ∨ a = -1:=h.place
theorem mY.lt {C:List AC} {a:Int} {sp:List Nat} (h:mY C a sp) (i:Nat) (hi:i ∈ sp):∃ c,C[i]? = some c ∧ c.Live=false ∧ ∃ r,mY C c.Link r:=by
 induction h with
 | nil=>cases hi
 | @cons a c sp h hl t ih =>
   rcases List.mem_cons.1 hi with rfl | hi
   · exact ⟨c,h,hl,sp,t⟩
   · exact ih hi
theorem aCL {A:AS} {n:Int} (h : -1 ≤ n) (h2:n < (A.Cells.length:Int)):iV A n=some true:=by
 unfold iV
 rw [bndD,bndD,bndD,decide_eq_true h,decide_eq_true h2]; rfl
theorem aA4 {A:AS} {n:Int} {sp:List Nat} (h:mY A.Cells n sp):iV A n=some true:=by
 cases h with
 | nil=>exact aCL (by decide) (by omega)
 | cons h _ _=>have:=(List.getElem?_eq_some_iff.1 h).1; exact aCL (by omega) (by omega)
theorem aBw {A:AS} {sp:List Nat} (h:uP A sp) {i:Nat} {c:AC} (hc:A.Cells[i]? = some c):kW A c=some false:=by
 unfold kW
 cases hl:c.Live with
 | true =>
   rw [show ((!true) == true)=false from rfl,gdff,bnoS,bndD]; rfl
 | false =>
   obtain ⟨c',h1,_,r,h2⟩:=h.ch.lt i (h.cov i c hc hl)
   rw [hc] at h1
   injection h1 with h1
   subst h1
   rw [show ((!false) == true)=true from rfl,gdtt,aA4 h2,bnoS,bndD]; rfl
theorem aCW {A:AS} {sp:List Nat} (h:uP A sp) (r:List AC):∀ (p:List AC) (f:Nat),A.Cells=p ++ r → r.length < f → bN A.Cells A f (p.length:Int)=some (-1):=by
 have hlen:=h.len
 induction r with
 | nil =>
   intro p f h1 hf
   obtain ⟨f,rfl⟩:∃ g,f=g + 1:=⟨f - 1,by simp at hf; omega⟩
   rw [List.append_nil] at h1
   rw [bN,bndD,h1,lY,bD]
 | cons c r ih =>
   intro p f h1 hf
   obtain ⟨f,rfl⟩:∃ g,f=g + 1:=⟨f - 1,by simp at hf; omega⟩
   have hc:A.Cells[p.length]? = some c:=by rw [h1,List.getElem?_append_right (Nat.le_refl _)]; simp
   rw [bN,bndD,nJ h1,bM,fS h1,bnoS,aBw h hc,bnoS,bD,bndD,w_at h1 (by omega)]
   exact ih (p ++ [c]) f (kE h1) (by simpa using hf)
theorem odd_no {A:AS} {sp:List Nat} (h:uP A sp) {c:AC} (hc:c ∈ A.Cells):rE c=some false:=by
 obtain ⟨h1,h2⟩:=h.odd c hc
 unfold rE
 cases hl:c.Live with
 | true=>rw [bM,bndD,h1 hl]; rfl
 | false=>rw [bD,bndD,h2 hl]; rfl
theorem noodd_L {A:AS} {sp:List Nat} (h:uP A sp) (r:List AC):∀ (p:List AC) (f:Nat),A.Cells=p ++ r → r.length < f → bS A.Cells f (p.length:Int)=some (-1):=by
 have hlen:=h.len
 induction r with
 | nil =>
   intro p f h1 hf
   obtain ⟨f,rfl⟩:∃ g,f=g + 1:=⟨f - 1,by simp at hf; omega⟩
   rw [List.append_nil] at h1
   rw [bS,bndD,h1,lY,bD]
 | cons c r ih =>
   intro p f h1 hf
   obtain ⟨f,rfl⟩:∃ g,f=g + 1:=⟨f - 1,by simp at hf; omega⟩
   rw [bS,bndD,nJ h1,bM,fS h1,bnoS,odd_no h (by rw [h1]; simp),bnoS,bD,bndD,w_at h1 (by omega)]
   exact ih (p ++ [c]) f (kE h1) (by simpa using hf)
theorem aDh {l:List Int} (hl:l.length ≤ 1000000) {v:Int} (r:List Int):∀ (p:List Int) (f:Nat),l=p ++ r → v ∉ r → r.length < f → dL l v f (p.length:Int)=some (-1):=by
 induction r with
 | nil =>
   intro p f h1 _ hf
   obtain ⟨f,rfl⟩:∃ g,f=g + 1:=⟨f - 1,by simp at hf; omega⟩
   rw [List.append_nil] at h1
   rw [dL,bndD,h1,lY,bD]
 | cons c r ih =>
   intro p f h1 hv hf
   obtain ⟨f,rfl⟩:∃ g,f=g + 1:=⟨f - 1,by simp at hf; omega⟩
   rw [dL,bndD,nJ h1,bM,fS h1,bnoS,bndD,decide_eq_false (fun e=>hv (by simp [e])),bD,bndD,w_at h1 hl]
   exact ih (p ++ [c]) f (kE h1) (fun hm=>hv (by simp [hm])) (by simpa using hf)
theorem aAu {l:List Int} (hl:l.length ≤ 1000000) {v:Int} (hv:v ∉ l):cX l v=some false:=by
 unfold cX jG
 have h:=aDh hl l [] fuel rfl hv (eU (by omega))
 have h:dL l v fuel 0=some (-1):=h
 rw [h,bnoS,bndD]; rfl
def toI (l:List Nat):List Int:=l.map fun (n:Nat)=>(n:Int)
theorem toI_mem {l:List Nat} {n:Nat}:(n:Int) ∈ toI l ↔ n ∈ l:=by
 unfold toI
 rw [List.mem_map]
 exact ⟨fun ⟨m,h1,h2⟩=>by rw [← Int.ofNat.inj h2]; exact h1,fun h=>⟨n,h,rfl⟩⟩
theorem chain_L {A:AS} (hlen:A.Cells.length ≤ 64) {a:Int} {sp:List Nat} (h:mY A.Cells a sp):∀ (done:List Nat) (f:Nat),(done ++ sp).Nodup → done.length + sp.length ≤ 64 → sp.length < f → fU A f (toI done) a=some (toI (done ++ sp),true):=by
 induction h with
 | nil =>
   intro done f _ _ hf
   obtain ⟨f,rfl⟩:∃ g,f=g + 1:=⟨f - 1,by simp at hf; omega⟩
   rw [fU,bndD,decide_eq_true rfl,bM,List.append_nil]
 | @cons a c sp h hl t ih =>
   intro done f hn hd hf
   obtain ⟨f,rfl⟩:∃ g,f=g + 1:=⟨f - 1,by simp at hf; omega⟩
   have hnm:(a:Int) ∉ toI done:=fun hm=>by
    have h1:=toI_mem.1 hm
    have:=(List.nodup_append.1 hn).2.2 a h1 a (by simp)
    exact this rfl
   have hdl:(toI done).length=done.length:=by unfold toI; simp
   simp at hd
   rw [fU,bndD,decide_eq_false (by omega),bD,eT,h,bnoS,hl,beq_self_eq_true,gdtt,aAu (by omega) hnm,bnoS,bndD,Bool.or_self,bD,kX (by simp; omega) (by simp; omega),bnoS,bnoS]
   have:=ih (done ++ [a]) f (by simpa using hn) (by simp; omega) (by simp at hf; omega)
   rw [show toI (done ++ [a])=toI done ++ [(a:Int)] by unfold toI; simp] at this
   rw [this,List.append_assoc]; rfl
theorem count_L {A:AS} {sp:List Nat} (h:uP A sp) (r:List AC):∀ (p:List AC) (f:Nat),A.Cells=p ++ r → r.length < f → iZ A f (p.countP (fun c=>c.Live):Nat) (p.length:Int)=some 0:=by
 have hlen:=h.len
 induction r with
 | nil =>
   intro p f h1 hf
   obtain ⟨f,rfl⟩:∃ g,f=g + 1:=⟨f - 1,by simp at hf; omega⟩
   rw [List.append_nil] at h1
   have hspl:sp.length ≤ 64:=by have:=h.all; omega
   have hch:mP A=some (toI sp,true):=chain_L hlen h.ch [] fuel (by simpa using h.nd) (by simpa using hspl) (eU (by omega))
   have hul:=h.used
   have hal:=h.all
   have htl:(toI sp).length=sp.length:=by unfold toI; simp
   have hw:IntKind.wrap .i64 (((A.Cells.countP (fun c=>c.Live):Nat):Int) + (((toI sp,true):List Int × Bool).1.length:Int))=((A.Cells.countP (fun c=>c.Live):Nat):Int) + ((toI sp).length:Int):=w64 (show _ ≤ ((A.Cells.countP (fun c=>c.Live):Nat):Int) + ((toI sp).length:Int) by omega) (show ((A.Cells.countP (fun c=>c.Live):Nat):Int) + ((toI sp).length:Int) ≤ _ by omega)
   rw [← h1]
   rw [iZ,bndD,lY,bD,hch,bnoS,bndD,decide_eq_true (show ((A.Cells.countP (fun c=>c.Live):Nat):Int)=A.Used from hul.symm),bndD,bndD,hw,bndD,bndD,decide_eq_true (show ((A.Cells.countP (fun c=>c.Live):Nat):Int) + ((toI sp).length:Int)=(A.Cells.length:Int) by omega)]
   rfl
 | cons c r ih =>
   intro p f h1 hf
   obtain ⟨f,rfl⟩:∃ g,f=g + 1:=⟨f - 1,by simp at hf; omega⟩
   have hpc:p.countP (fun c=>c.Live) ≤ p.length:=List.countP_le_length
   have hpl:p.length ≤ 64:=by rw [h1] at hlen; simp at hlen; omega
   have:=ih (p ++ [c]) f (kE h1) (by simpa using hf)
   rw [List.countP_append,List.countP_singleton] at this
   rw [iZ,bndD,nJ h1,bM,fS h1,bnoS,bndD,bndD,bndD,w_at h1 (by omega),w64 (by omega) (by omega)]
   cases hl:c.Live with
   | true =>
     rw [hl] at this
     rw [bM]
     exact this
   | false =>
     rw [hl] at this
     rw [bD]
     exact this
theorem vB {A:AS} {sp:List Nat} (h:uP A sp):nF A=some 0:=by
 have hlen:=h.len
 have h1:=aCW h A.Cells [] fuel rfl (eU (by omega))
 have h2:=noodd_L h A.Cells [] fuel rfl (eU (by omega))
 have h1:dQ A.Cells A=some (-1):=h1
 have h2:eI A.Cells=some (-1):=h2
 unfold nF
 rw [bndD,decide_eq_false (by omega),bD,aA4 h.ch,bnoS,Bool.not_true,bD]
 unfold dF
 rw [h1,bnoS,bndD,show decide ((0:Int) ≤ -1)=false from rfl,bnoS]
 unfold mX dR
 rw [bD,h2,bnoS,bndD,show decide ((0:Int) ≤ -1)=false from rfl,bnoS,bD]
 exact count_L h A.Cells [] fuel rfl (eU (by omega))
def nB:List AC → Nat → List Nat
 | [],_=>[]
 | c :: r,i=>bif c.Live then i :: nB r (i + 1) else nB r (i + 1)
theorem live_L {A:AS} (hlen:A.Cells.length ≤ 64) (r:List AC):∀ (p:List AC) (acc:List Int) (f:Nat),A.Cells=p ++ r → r.length < f → acc.length ≤ p.length → jN A f acc (p.length:Int)=some (acc ++ toI (nB r p.length)):=by
 induction r with
 | nil =>
   intro p acc f h1 hf _
   obtain ⟨f,rfl⟩:∃ g,f=g + 1:=⟨f - 1,by simp at hf; omega⟩
   rw [List.append_nil] at h1
   rw [jN,bndD,h1,lY,bD]; simp [nB,toI]
 | cons c r ih =>
   intro p acc f h1 hf ha
   obtain ⟨f,rfl⟩:∃ g,f=g + 1:=⟨f - 1,by simp at hf; omega⟩
   have hpl:p.length ≤ 64:=by rw [h1] at hlen; simp at hlen; omega
   rw [jN,bndD,nJ h1,bM,fS h1,bnoS,bndD,w_at h1 (by omega)]
   show _=some (acc ++ toI (bif c.Live then p.length :: nB r (p.length + 1) else nB r (p.length + 1)))
   cases hl:c.Live with
   | true =>
     rw [bM,cond_true,kX (by simp; omega) (by simp; omega),bnoS]
     rw [bndD,ih (p ++ [c]) _ f (kE h1) (by simpa using hf) (by simp; omega),List.append_assoc,List.length_append]; rfl
   | false =>
     rw [bD,cond_false,ih (p ++ [c]) _ f (kE h1) (by simpa using hf) (by simp; omega),List.length_append]; rfl
theorem aCe {A:AS} {sp:List Nat} (h:uP A sp):oL A=some (toI (nB A.Cells 0)):=by
 unfold oL
 rw [vB h,bnoS,bndD,decide_eq_true rfl,Bool.not_true,bD]
 have:=live_L h.len A.Cells [] [] fuel rfl (eU (by have:=h.len; omega)) (Nat.le_refl _)
 exact this
theorem vW:∀ {l:List AC} {i p:Nat},p ∈ nB l i ↔ i ≤ p ∧ ∃ c,l[p - i]? = some c ∧ c.Live=true
 | [],i,p=>by simp [nB]
 | c :: r,i,p=>by
   have ih:=vW (l:=r) (i:=i + 1) (p:=p)
   have hstep:(i ≤ p ∧ ∃ d,(c :: r)[p - i]? = some d ∧ d.Live=true) ↔ (p=i ∧ c.Live=true) ∨ (i + 1 ≤ p ∧ ∃ d,r[p - (i + 1)]? = some d ∧ d.Live=true):=by
    constructor
    · rintro ⟨h1,d,h2,h3⟩
      by_cases hp:p=i
      · left
        rw [hp,Nat.sub_self] at h2
        injection h2 with h2
        exact ⟨hp,by rw [h2]; exact h3⟩
      · right
        rw [show p - i=(p - (i + 1)) + 1 by omega,List.getElem?_cons_succ] at h2
        exact ⟨by omega,d,h2,h3⟩
    · rintro (⟨h1,h2⟩ | ⟨h1,d,h2,h3⟩)
      · exact ⟨by omega,c,by rw [h1,Nat.sub_self]; rfl,h2⟩
      · exact ⟨by omega,d,by rw [show p - i=(p - (i + 1)) + 1 by omega,List.getElem?_cons_succ]; exact h2,h3⟩
   rw [hstep,← ih]
   show p ∈ (bif c.Live then i :: nB r (i + 1) else nB r (i + 1)) ↔ _
   cases hl:c.Live with
   | true=>rw [cond_true]; simp
   | false=>rw [cond_false]; simp
theorem sA:∀ (l:List AC) (i:Nat),(nB l i).Nodup
 | [],_=>by simp [nB]
 | c :: r,i=>by
   have ih:=sA r (i + 1)
   show (bif c.Live then i :: nB r (i + 1) else nB r (i + 1)).Nodup
   cases c.Live with
   | true =>
     rw [cond_true,List.nodup_cons]
     exact ⟨fun hm=>by have:=(vW.1 hm).1; omega,ih⟩
   | false=>rw [cond_false]; exact ih
theorem sU:∀ (l:List AC) (i:Nat),(nB l i).length=l.countP (fun c=>c.Live)
 | [],_=>rfl
 | c :: r,i=>by
   have ih:=sU r (i + 1)
   rw [List.countP_cons]
   show (bif c.Live then i :: nB r (i + 1) else nB r (i + 1)).length=_
   cases c.Live with
   | true=>rw [cond_true,List.length_cons,ih]; simp
   | false=>rw [cond_false,ih]; simp
end Go.Fn
open Go Go.IL
namespace Go.Fn
theorem aDs {l:List AC} (h:l.length ≤ 1000):eC l=some l:=by
 unfold eC
 rw [kX (by simp; omega) (by simp; omega),bnoS,List.nil_append,tX (fun e=>by rw [e])]
theorem aCO {A:AS} (h:A.Cells.length ≤ 64):jT A=some (A.Cells,A.Free,A.Used):=by
 unfold jT
 rw [aDs (by omega),bnoS]
theorem aAS {C:List AC} {i:Nat} {c c':AC} (h:C[i]? = some c):(C.set i c').countP (fun c=>c.Live) + (if c.Live=true then 1 else 0)=C.countP (fun c=>c.Live) + (if c'.Live=true then 1 else 0):=by
 obtain ⟨hlt,hg⟩:=List.getElem?_eq_some_iff.1 h
 have e:C=C.take i ++ c :: C.drop (i + 1):=by
  conv=>lhs; rw [← List.take_append_drop i C]
  rw [List.drop_eq_getElem_cons hlt,hg]
 have e2:C.set i c'=C.take i ++ c' :: C.drop (i + 1):=by
  conv=>lhs; rw [e]
  rw [List.set_append_right _ _ (by rw [List.length_take]; omega),List.length_take,show i - min i C.length=0 by omega]; rfl
 rw [e2]
 conv=>rhs; rw [e]
 simp only [List.countP_append,List.countP_cons]
 omega
theorem mY.set {C:List AC} {a:Int} {sp:List Nat} (h:mY C a sp) {p:Nat} (hp:p ∉ sp) (c:AC):mY (C.set p c) a sp:=by
 induction h with
 | nil=>exact .nil
 | @cons a d sp h hl t ih =>
   have hpa:p ≠ a:=fun e=>hp (by simp [e])
   exact .cons (by rw [List.getElem?_set_ne hpa]; exact h) hl (ih (fun hm=>hp (by simp [hm])))
theorem mY.app {C:List AC} {a:Int} {sp:List Nat} (h:mY C a sp) (D:List AC):mY (C ++ D) a sp:=by
 induction h with
 | nil=>exact .nil
 | @cons a d sp h hl t ih =>
   exact .cons (by rw [List.getElem?_append_left (List.getElem?_eq_some_iff.1 h).1]; exact h) hl ih
def pJ (A:AS) (p:Nat):AS:=⟨A.Cells.set p ⟨false,0,A.Free⟩,(p:Int),A.Used - 1⟩
theorem aCd {A:AS} {p:Nat} {c:AC} (hlen:A.Cells.length ≤ 64) (h:A.Cells[p]? = some c) (hl:c.Live=true):lW A (p:Int)=some true:=by
 have hlt:=(List.getElem?_eq_some_iff.1 h).1
 unfold lW
 rw [bndD,bndD,bndD,decide_eq_true (show (0:Int) ≤ (p:Int) by omega),decide_eq_true (show (p:Int) < (A.Cells.length:Int) by omega),Bool.and_self,beq_self_eq_true,gdtt,eT,h,bnoS,bndD,hl]; rfl
theorem give_ok {A:AS} {sp:List Nat} (h:uP A sp) {p:Nat} {c:AC} (hp:A.Cells[p]? = some c) (hl:c.Live=true):nW A (p:Int)=some (pJ A p,0) ∧ uP (pJ A p) (p :: sp):=by
 have hlen:=h.len
 have hlt:=(List.getElem?_eq_some_iff.1 hp).1
 have hcs:=aAS (c':=⟨false,0,A.Free⟩) hp
 rw [hl] at hcs
 have hcs:(A.Cells.set p ⟨false,0,A.Free⟩).countP (fun c=>c.Live) + 1=A.Cells.countP (fun c=>c.Live):=by simpa using hcs
 have hu:=h.used
 have hal:=h.all
 have hnm:p ∉ sp:=fun hm=>by
  obtain ⟨c',h1,h2,_⟩:=h.ch.lt p hm
  rw [hp] at h1
  injection h1 with h1
  rw [h1,h2] at hl; cases hl
 refine ⟨?_,?_⟩
 · unfold nW
   rw [aCO hlen,bnoS,vB h,bnoS,bndD,decide_eq_true rfl,Bool.not_true,bD,aCd hlen hp hl,bnoS,Bool.not_true,bD,eT,hp,bnoS,Int.toNat_natCast,hp,bnoS,bndD,bndD]
   show some ((⟨A.Cells.set p ⟨false,0,A.Free⟩,(p:Int),IntKind.wrap .i64 (A.Used - 1)⟩:AS),(0:Int))=_
   rw [w64 (by omega) (by omega)]; rfl
 · constructor
   · show (A.Cells.set p _).length ≤ 64; rw [List.length_set]; exact hlen
   · intro d hd
     rcases List.mem_or_eq_of_mem_set hd with hd | hd
     · exact h.odd d hd
     · rw [hd]; exact ⟨fun h=>(by cases h),fun _=>rfl⟩
   · exact .cons (c:=⟨false,0,A.Free⟩) (by show (A.Cells.set p _)[p]? = _; rw [List.getElem?_set_self hlt]) rfl (h.ch.set hnm _)
   · exact List.nodup_cons.2 ⟨hnm,h.nd⟩
   · show A.Used - 1=((A.Cells.set p _).countP (fun c=>c.Live):Nat)
     omega
   · show (A.Cells.set p _).countP (fun c=>c.Live) + (p :: sp).length=(A.Cells.set p _).length
     rw [List.length_set,List.length_cons]; omega
   · intro i d hd hdl
     by_cases hip:p=i
     · subst hip; simp
     · have hd:(A.Cells.set p _)[i]? = some d:=hd
       rw [List.getElem?_set_ne hip] at hd
       exact List.mem_cons_of_mem _ (h.cov i d hd hdl)
def takeS (A:AS) (v:Int):List Nat → AS
 | []=>⟨A.Cells ++ [⟨true,v,0⟩],A.Free,A.Used + 1⟩
 | a :: _=>⟨A.Cells.set a ⟨true,v,0⟩,(A.Cells.getD a default).Link,A.Used + 1⟩
def takeP (A:AS):List Nat → Nat
 | []=>A.Cells.length
 | a :: _=>a
theorem aBu {A:AS} {sp:List Nat} (h:uP A sp) (v:Int) (hu:A.Used < 64):nV A v=some (takeS A v sp,(takeP A sp:Int),0) ∧ uP (takeS A v sp) sp.tail ∧ (takeS A v sp).Cells[takeP A sp]? = some ⟨true,v,0⟩ ∧ (∀ i,i ≠ takeP A sp → (takeS A v sp).Cells[i]? = A.Cells[i]?) ∧ (∀ c,A.Cells[takeP A sp]? = some c → c.Live=false) ∧ takeP A sp < 64:=by
 have hlen:=h.len
 have hus:=h.used
 have hal:=h.all
 cases sp with
 | nil =>
   have hfree:A.Free = -1:=by
    have hch:=h.ch
    generalize A.Free=F at hch
    cases hch; rfl
   have hal:A.Cells.countP (fun c=>c.Live)=A.Cells.length:=by simpa using hal
   have hl64:A.Cells.length < 64:=by omega
   refine ⟨?_,?_,?_,?_,?_,?_⟩
   · unfold nV
     rw [aCO hlen,bnoS,vB h,bnoS,bndD,decide_eq_true rfl,Bool.not_true,bD,bndD,decide_eq_false (by omega),bD,bndD,bndD]
     show (bif decide (A.Free = -1) then _ else _)=_
     rw [decide_eq_true hfree,bM]
     show (bno (app 24 A.Cells [(⟨true,v,0⟩:AC)]) fun x10=>some ((⟨x10,A.Free,IntKind.wrap .i64 (A.Used + 1)⟩:AS),(A.Cells.length:Int),(0:Int)))=_
     rw [kX (by simp; omega) (by simp; omega),bnoS,w64 (by omega) (by omega)]; rfl
   · constructor
     · show (A.Cells ++ [_]).length ≤ 64; simp; omega
     · intro d hd
       rcases List.mem_append.1 hd with hd | hd
       · exact h.odd d hd
       · rw [List.mem_singleton.1 hd]; exact ⟨fun _=>rfl,fun h=>(by cases h)⟩
     · exact h.ch.app _
     · exact h.nd
     · show A.Used + 1=((A.Cells ++ [(⟨true,v,0⟩:AC)]).countP (fun c=>c.Live):Nat)
       rw [List.countP_append,List.countP_singleton]; simp; omega
     · show (A.Cells ++ [(⟨true,v,0⟩:AC)]).countP (fun c=>c.Live) + 0=(A.Cells ++ [(⟨true,v,0⟩:AC)]).length
       rw [List.countP_append,List.countP_singleton,List.length_append,hal]; simp
     · intro i d hd hdl
       have hd:(A.Cells ++ [(⟨true,v,0⟩:AC)])[i]? = some d:=hd
       by_cases hi:i < A.Cells.length
       · rw [List.getElem?_append_left hi] at hd
         exact h.cov i d hd hdl
       · rw [List.getElem?_append_right (by omega)] at hd
         have:=List.mem_of_getElem? hd
         rw [List.mem_singleton.1 this] at hdl; cases hdl
   · show (A.Cells ++ [_])[A.Cells.length]? = _
     rw [List.getElem?_append_right (Nat.le_refl _)]; simp
   · intro i hi
     show (A.Cells ++ [_])[i]? = _
     have hi:i ≠ A.Cells.length:=hi
     by_cases hlt:i < A.Cells.length
     · rw [List.getElem?_append_left hlt]
     · rw [List.getElem?_eq_none (by simp; omega),List.getElem?_eq_none (by omega)]
   · intro c hc
     have hc:A.Cells[A.Cells.length]? = some c:=hc
     simp at hc
   · exact hl64
 | cons a sp =>
   have hch:=h.ch
   generalize hF:A.Free=F at hch
   cases hch with
   | @cons _ c _ hc hcl t =>
     have hlt:=(List.getElem?_eq_some_iff.1 hc).1
     have hgd:A.Cells.getD a default=c:=by rw [List.getD_eq_getElem?_getD,hc]; rfl
     have hcs:=aAS (c':=⟨true,v,0⟩) hc
     rw [hcl] at hcs
     have hcs:(A.Cells.set a ⟨true,v,0⟩).countP (fun c=>c.Live)=A.Cells.countP (fun c=>c.Live) + 1:=by simpa using hcs
     have hnd:=List.nodup_cons.1 h.nd
     simp at hal
     refine ⟨?_,?_,?_,?_,?_,?_⟩
     · unfold nV
       rw [aCO hlen,bnoS,vB h,bnoS,bndD,decide_eq_true rfl,Bool.not_true,bD,bndD,decide_eq_false (by omega),bD,bndD,bndD]
       show (bif decide (A.Free = -1) then _ else _)=_
       rw [hF,decide_eq_false (by omega),bD,eT,hc,bnoS,Int.toNat_natCast,hc,bnoS,bnoS,bnoS,bndD]
       show some ((⟨A.Cells.set a ⟨true,v,0⟩,c.Link,IntKind.wrap .i64 (A.Used + 1)⟩:AS),(a:Int),(0:Int))=some ((⟨A.Cells.set a ⟨true,v,0⟩,(A.Cells.getD a default).Link,A.Used + 1⟩:AS),(a:Int),0)
       rw [w64 (by omega) (by omega),hgd]
     · constructor
       · show (A.Cells.set a _).length ≤ 64; rw [List.length_set]; exact hlen
       · intro d hd
         rcases List.mem_or_eq_of_mem_set hd with hd | hd
         · exact h.odd d hd
         · rw [hd]; exact ⟨fun _=>rfl,fun h=>(by cases h)⟩
       · show mY (A.Cells.set a _) (A.Cells.getD a default).Link sp
         rw [hgd]; exact t.set hnd.1 _
       · exact hnd.2
       · show A.Used + 1=((A.Cells.set a _).countP (fun c=>c.Live):Nat)
         omega
       · show (A.Cells.set a _).countP (fun c=>c.Live) + sp.length=(A.Cells.set a _).length
         rw [List.length_set]; omega
       · intro i d hd hdl
         have hd:(A.Cells.set a _)[i]? = some d:=hd
         by_cases hia:a=i
         · subst hia
           rw [List.getElem?_set_self hlt] at hd
           injection hd with hd
           rw [← hd] at hdl; cases hdl
         · rw [List.getElem?_set_ne hia] at hd
           exact (List.mem_cons.1 (h.cov i d hd hdl)).resolve_left (fun e=>hia e.symm)
     · show (A.Cells.set a _)[a]? = _
       rw [List.getElem?_set_self hlt]
     · intro i hi
       have hi:i ≠ a:=hi
       show (A.Cells.set a _)[i]? = _
       rw [List.getElem?_set_ne (fun e=>hi e.symm)]
     · intro d hd
       have hd:A.Cells[a]? = some d:=hd
       rw [hc] at hd
       injection hd with hd
       rw [← hd]; exact hcl
     · show a < 64; omega
end Go.Fn
open Go Go.IL
namespace Go.Fn
abbrev Nk:=aJ
def kG (ns:List Nk):Int → List Nat → Prop
 | a,[]=>a = -1
 | a,p :: l=>a=(p:Int) ∧ ∃ n,ns[p]? = some n ∧ kG ns n.next l
theorem kG.same {ns ns':List Nk}:∀ {l:List Nat} {a:Int},(∀ q ∈ l,∀ n,ns[q]? = some n → ∃ n',ns'[q]? = some n' ∧ n'.next=n.next) → kG ns a l → kG ns' a l
 | [],_,_,h=>h
 | p :: l,a,hs,⟨h1,n,h2,h3⟩=>by
   obtain ⟨n',g1,g2⟩:=hs p (by simp) n h2
   exact ⟨h1,n',g1,by rw [g2]; exact h3.same fun q hq=>hs q (by simp [hq])⟩
theorem kG.other {ns:List Nk} {a:Int} {l:List Nat} (h:kG ns a l) {p:Nat} (hp:p ∉ l) (n:Nk):kG (ns.set p n) a l :=
 h.same fun q hq m hm=>⟨m,by rw [List.getElem?_set_ne (show p ≠ q from fun e=>hp (by rw [e]; exact hq))]; exact hm,rfl⟩
theorem kG.keep {ns:List Nk} {p:Nat} {n n':Nk} (hp:ns[p]? = some n) (hn:n'.next=n.next) {a:Int} {l:List Nat} (h:kG ns a l):kG (ns.set p n') a l:=by
 refine h.same fun q hq m hm=>?_
 by_cases e:p=q
 · subst e
   rw [hp] at hm
   injection hm with hm
   exact ⟨n',by rw [List.getElem?_set_self (List.getElem?_eq_some_iff.1 hp).1],by rw [← hm]; exact hn⟩
 · exact ⟨m,by rw [List.getElem?_set_ne e]; exact hm,rfl⟩
theorem kG.mem {ns:List Nk}:∀ {l:List Nat} {a:Int},kG ns a l → ∀ p ∈ l,∃ n,ns[p]? = some n
 | q :: l,a,⟨_,n,h2,h3⟩,p,hp=>by
   rcases List.mem_cons.1 hp with rfl | hp
   · exact ⟨n,h2⟩
   · exact h3.mem p hp
theorem kG.cut {ns:List Nk} {p q:Nat} {np nq:Nk} (hp:ns[p]? = some np) (hq:ns[q]? = some nq) {l2:List Nat}:∀ {l1:List Nat} {a:Int},kG ns a (l1 ++ q :: p :: l2) → (l1 ++ q :: p :: l2).Nodup →
 kG (ns.set q { nq with next:=np.next }) a (l1 ++ q :: l2)
 | [],a,⟨h1,n,h2,h3,m,h4,h5⟩,hnd=>by
   rw [hp] at h4
   injection h4 with h4
   subst h4
   have hnd:(q :: p :: l2).Nodup:=hnd
   have hq2:q ∉ l2:=fun hm=>(List.nodup_cons.1 hnd).1 (by simp [hm])
   exact ⟨h1,{ nq with next:=np.next },by rw [List.getElem?_set_self (List.getElem?_eq_some_iff.1 hq).1],h5.other hq2 _⟩
 | b :: l1,a,⟨h1,n,h2,h3⟩,hnd=>by
   have hnd:(b :: (l1 ++ q :: p :: l2)).Nodup:=hnd
   have hbq:q ≠ b:=fun e=>(List.nodup_cons.1 hnd).1 (by simp [e])
   exact ⟨h1,n,by rw [List.getElem?_set_ne hbq]; exact h2,kG.cut hp hq h3 (List.nodup_cons.1 hnd).2⟩
theorem seek {ns:List Nk} (hlen:ns.length=64) {p:Nat} {room keep:Int} {C:List AC} {F U first:Int} {cl:List Int} {np:Nk} (hp:ns[p]? = some np) {l2:List Nat}:∀ (l1:List Nat) (q:Nat) (nq:Nk) (f:Nat),ns[q]? = some nq → kG ns nq.next (l1 ++ p :: l2) → p ∉ l1 → l1.length < f →
 ∃ (r:Nat) (nr:Nk),(q :: l1).getLast? = some r ∧ ns[r]? = some nr ∧ eW (p:Int) room keep C F U ns first cl f q=some (room,keep,C,F,U,ns.set r { nr with next:=np.next },first,cl)
 | [],q,nq,f + 1,hq,h,_,_=>by
   obtain ⟨h1,_⟩:=h
   refine ⟨q,nq,rfl,hq,?_⟩
   rw [eW,hq,bnoS,bndD,decide_eq_true h1,Bool.not_true,bD,eT,hp,bnoS,Int.toNat_natCast,hp,bnoS,bnoS,bndD]
 | b :: l1,q,nq,f + 1,hq,⟨h1,nb,h2,h3⟩,hn,hf=>by
   have hpb:p ≠ b:=fun e=>hn (by simp [e])
   obtain ⟨r,nr,g1,g2,g3⟩:=seek hlen hp l1 b nb f h2 h3 (fun hm=>hn (by simp [hm])) (by simpa using hf)
   refine ⟨r,nr,by rw [List.getLast?_cons_cons]; exact g1,g2,?_⟩
   rw [eW,hq,bnoS,bndD,h1,decide_eq_false (show ¬ (b:Int)=(p:Int) by omega),Bool.not_false,bM,bnoS,h1,eT,h2,bnoS,Int.toNat_natCast]
   exact g3
theorem seek1 {ns:List Nk} (hlen:ns.length=64) {p:Nat} {room keep:Int} {C:List AC} {F U first:Int} {cl:List Int} {np:Nk} (hp:ns[p]? = some np) {l2:List Nat}:∀ (l1:List Nat) (q:Nat) (nq:Nk) (f:Nat),ns[q]? = some nq → kG ns nq.next (l1 ++ p :: l2) → p ∉ l1 → l1.length < f →
 ∃ (r:Nat) (nr:Nk),(q :: l1).getLast? = some r ∧ ns[r]? = some nr ∧ eV (p:Int) room keep C F U ns first cl f q=some (room,keep,C,F,U,ns.set r { nr with next:=np.next },first,cl)
 | [],q,nq,f + 1,hq,h,_,_=>by
   obtain ⟨h1,_⟩:=h
   refine ⟨q,nq,rfl,hq,?_⟩
   rw [eV,hq,bnoS,bndD,decide_eq_true h1,Bool.not_true,bD,eT,hp,bnoS,Int.toNat_natCast,hp,bnoS,bnoS,bndD]
 | b :: l1,q,nq,f + 1,hq,⟨h1,nb,h2,h3⟩,hn,hf=>by
   have hpb:p ≠ b:=fun e=>hn (by simp [e])
   obtain ⟨r,nr,g1,g2,g3⟩:=seek1 hlen hp l1 b nb f h2 h3 (fun hm=>hn (by simp [hm])) (by simpa using hf)
   refine ⟨r,nr,by rw [List.getLast?_cons_cons]; exact g1,g2,?_⟩
   rw [eV,hq,bnoS,bndD,h1,decide_eq_false (show ¬ (b:Int)=(p:Int) by omega),Bool.not_false,bM,bnoS,h1,eT,h2,bnoS,Int.toNat_natCast]
   exact g3
def upI:Option Nat → Int
 | none=>-1
 | some p=>(p:Int)
def nT (ns:List Nk) (first:Int):Option Nat → Int
 | none=>first
 | some p=>(ns.getD p default).first
theorem nE {ns:List Nk} {first:Int} {p:Nat} {n:Nk} (h:ns[p]? = some n):nT ns first (some p)=n.first:=by
 show (ns.getD p default).first=_
 rw [List.getD_eq_getElem?_getD,h]; rfl
structure Lk (ns:List Nk) (first:Int) (hd:Option Nat → Prop) (kids:Option Nat → List Nat):Prop where
 ch:∀ u,hd u → kG ns (nT ns first u) (kids u)
 nd:∀ u,hd u → (kids u).Nodup
 dj:∀ u v p,hd u → hd v → p ∈ kids u → p ∈ kids v → u=v
 at':∀ p,hd (some p) → ∃ n,ns[p]? = some n
def xV (n:Nk):Int × Int × Int × Bool:=(n.id,n.up,n.weight,n.closed)
def nU (ns:List Nk) (q:Nat):Option (Int × Int × Int × Bool):=(ns[q]?).map xV
theorem sF {ns:List Nk} {p:Nat} {n n':Nk} (hp:ns[p]? = some n) (hv:xV n'=xV n) (q:Nat):nU (ns.set p n') q=nU ns q:=by
 unfold nU
 by_cases e:p=q
 · subst e
   rw [List.getElem?_set_self (List.getElem?_eq_some_iff.1 hp).1,hp]
   show some (xV n')=some (xV n)
   rw [hv]
 · rw [List.getElem?_set_ne e]
def oJ (kids:Option Nat → List Nat) (u:Option Nat) (p:Nat):Option Nat → List Nat:=fun v=>if v=u then (kids u).erase p else kids v
theorem aC3 {l1 l2:List Nat} {p:Nat} (h:p ∉ l1):(l1 ++ p :: l2).erase p=l1 ++ l2:=by
 rw [List.erase_append_right _ h,List.erase_cons_head]
theorem aBy {l:List Nat} {p:Nat} (h:p ∈ l) (hn:l.Nodup):∃ l1 l2,l=l1 ++ p :: l2 ∧ p ∉ l1:=by
 obtain ⟨l1,l2,rfl⟩:=List.append_of_mem h
 exact ⟨l1,l2,rfl,fun hm=>(List.nodup_append.1 hn).2.2 p hm p (by simp) rfl⟩
theorem xK {l:List Nat} {r:Nat} (h:l.getLast? = some r):∃ m,l=m ++ [r]:=by
 obtain ⟨m,hm⟩:=List.getLast?_eq_some_iff.1 h
 exact ⟨m,hm⟩
theorem Lk.skip {ns:List Nk} {first:Int} {hd:Option Nat → Prop} {kids:Option Nat → List Nat} (h:Lk ns first hd kids) {u:Option Nat} (hu:hd u) {p r:Nat} {np nr:Nk} {m l2:List Nat} (hk:kids u=m ++ r :: p :: l2) (hp:ns[p]? = some np) (hr:ns[r]? = some nr) :
 Lk (ns.set r { nr with next:=np.next }) first hd (oJ kids u p):=by
 have hnd:=h.nd u hu
 rw [hk] at hnd
 have hpm:p ∉ m ++ [r]:=fun hm=>by
  have:(m ++ [r] ++ p :: l2).Nodup:=by simpa using hnd
  exact (List.nodup_append.1 this).2.2 p hm p (by simp) rfl
 have her:(kids u).erase p=m ++ r :: l2:=by
  rw [hk,show m ++ r :: p :: l2=(m ++ [r]) ++ p :: l2 by simp,aC3 hpm]; simp
 have hf:∀ v,nT (ns.set r { nr with next:=np.next }) first v=nT ns first v:=fun v=>by
  cases v with
  | none=>rfl
  | some q =>
    show ((ns.set r _).getD q default).first=(ns.getD q default).first
    rw [List.getD_eq_getElem?_getD,List.getD_eq_getElem?_getD]
    by_cases e:r=q
    · subst e
      rw [List.getElem?_set_self (List.getElem?_eq_some_iff.1 hr).1,hr]; rfl
    · rw [List.getElem?_set_ne e]
 have hsub:∀ v q,q ∈ oJ kids u p v → q ∈ kids v:=fun v q hq=>by
  unfold oJ at hq
  split at hq
  · rename_i e; rw [e]; exact List.mem_of_mem_erase hq
  · exact hq
 refine ⟨fun v hv=>?_,fun v hv=>?_,fun v w q hv hw h1 h2=>h.dj v w q hv hw (hsub v q h1) (hsub w q h2),fun q hq=>?_⟩
 · rw [hf]
   have hc:=h.ch v hv
   unfold oJ
   by_cases e:v=u
   · rw [if_pos e,her]
     rw [e,hk] at hc
     rw [e]
     exact hc.cut hp hr hnd
   · rw [if_neg e]
     refine hc.other (fun hm=>e ?_) _
     exact h.dj v u r hv hu hm (by rw [hk]; simp)
 · unfold oJ
   split
   · exact (h.nd u hu).erase p
   · exact h.nd v hv
 · obtain ⟨n,hn⟩:=h.at' q hq
   by_cases e:r=q
   · subst e
     exact ⟨_,List.getElem?_set_self (List.getElem?_eq_some_iff.1 hr).1⟩
   · exact ⟨n,by rw [List.getElem?_set_ne e]; exact hn⟩
end Go.Fn
open Go Go.IL
namespace Go.Fn
theorem vT {α:Type} [DecidableEq α]:∀ {l m:List α},l.Nodup → (∀ x ∈ l,x ∈ m) → l.length ≤ m.length
 | [],_,_,_=>Nat.zero_le _
 | x :: l,m,hn,hs=>by
   have hn:=List.nodup_cons.1 hn
   have hx:=hs x (by simp)
   have:=vT (l:=l) (m:=m.erase x) hn.2 (fun y hy=>(List.mem_erase_of_ne (by rintro rfl; exact hn.1 hy)).2 (hs y (by simp [hy])))
   rw [List.length_erase_of_mem hx] at this
   have:0 < m.length:=List.length_pos_of_mem hx
   rw [List.length_cons]; omega
theorem aDU {l:List Nat} {n:Nat} (hn:l.Nodup) (h:∀ p ∈ l,p < n):l.length ≤ n:=by
 have:=vT (m:=List.range n) hn (fun p hp=>List.mem_range.2 (h p hp))
 rwa [List.length_range] at this
theorem Lk.size {ns:List Nk} {first:Int} {hd:Option Nat → Prop} {kids:Option Nat → List Nat} (hlen:ns.length=64) (h:Lk ns first hd kids) {u:Option Nat} (hu:hd u):(kids u).length ≤ 64 :=
 aDU (h.nd u hu) fun p hp=>by
  obtain ⟨n,hn⟩:=(h.ch u hu).mem p hp
  have:=(List.getElem?_eq_some_iff.1 hn).1
  omega
theorem Lk.behead0 {ns:List Nk} {first:Int} {hd:Option Nat → Prop} {kids:Option Nat → List Nat} (h:Lk ns first hd kids) (hu:hd none) {p:Nat} {np:Nk} {l2:List Nat} (hk:kids none=p :: l2) (hp:ns[p]? = some np):Lk ns np.next hd (oJ kids none p):=by
 have her:(kids none).erase p=l2:=by rw [hk,List.erase_cons_head]
 have hsub:∀ v q,q ∈ oJ kids none p v → q ∈ kids v:=fun v q hq=>by
  unfold oJ at hq
  split at hq
  · rename_i e; rw [e]; exact List.mem_of_mem_erase hq
  · exact hq
 refine ⟨fun v hv=>?_,fun v hv=>?_,fun v w q hv hw h1 h2=>h.dj v w q hv hw (hsub v q h1) (hsub w q h2),h.at'⟩
 · have hc:=h.ch v hv
   unfold oJ
   cases v with
   | none =>
     rw [if_pos rfl,her]
     rw [hk] at hc
     obtain ⟨_,n,h2,h3⟩:=hc
     rw [hp] at h2
     injection h2 with h2
     rw [h2]; exact h3
   | some q=>rw [if_neg (by simp)]; exact hc
 · unfold oJ
   split
   · exact (h.nd none hu).erase p
   · exact h.nd v hv
theorem Lk.behead1 {ns:List Nk} {first:Int} {hd:Option Nat → Prop} {kids:Option Nat → List Nat} (h:Lk ns first hd kids) {q:Nat} (hu:hd (some q)) {p:Nat} {np nq:Nk} {l2:List Nat} (hk:kids (some q)=p :: l2) (hp:ns[p]? = some np) (hq:ns[q]? = some nq) :
 Lk (ns.set q { nq with first:=np.next }) first hd (oJ kids (some q) p):=by
 have her:(kids (some q)).erase p=l2:=by rw [hk,List.erase_cons_head]
 have hlt:=(List.getElem?_eq_some_iff.1 hq).1
 have hsub:∀ v r,r ∈ oJ kids (some q) p v → r ∈ kids v:=fun v r hr=>by
  unfold oJ at hr
  split at hr
  · rename_i e; rw [e]; exact List.mem_of_mem_erase hr
  · exact hr
 refine ⟨fun v hv=>?_,fun v hv=>?_,fun v w r hv hw h1 h2=>h.dj v w r hv hw (hsub v r h1) (hsub w r h2),fun r hr=>?_⟩
 · have hc:=h.ch v hv
   unfold oJ
   by_cases e:v=some q
   · subst e
     rw [if_pos rfl,her,nE (n:={ nq with first:=np.next }) (by rw [List.getElem?_set_self hlt])]
     rw [hk] at hc
     obtain ⟨_,n,h2,h3⟩:=hc
     rw [hp] at h2
     injection h2 with h2
     refine kG.keep hq (by rfl) ?_
     rw [h2]; exact h3
   · rw [if_neg e]
     have hf:nT (ns.set q { nq with first:=np.next }) first v=nT ns first v:=by
      cases v with
      | none=>rfl
      | some r =>
        show ((ns.set q _).getD r default).first=(ns.getD r default).first
        rw [List.getD_eq_getElem?_getD,List.getD_eq_getElem?_getD,List.getElem?_set_ne (fun h=>e (by rw [h]))]
     rw [hf]
     exact hc.keep hq (by rfl)
 · unfold oJ
   split
   · exact (h.nd (some q) hu).erase p
   · exact h.nd v hv
 · obtain ⟨n,hn⟩:=h.at' r hr
   by_cases e:q=r
   · subst e
     exact ⟨_,List.getElem?_set_self hlt⟩
   · exact ⟨n,by rw [List.getElem?_set_ne e]; exact hn⟩
theorem zJ {ns:List Nk} {first:Int} {hd:Option Nat → Prop} {kids:Option Nat → List Nat} (hlen:ns.length=64) (h:Lk ns first hd kids) {u:Option Nat} (hu:hd u) {p:Nat} {np:Nk} (hp:ns[p]? = some np) (hup:np.up=upI u) (hm:p ∈ kids u)
 (room keep:Int) (C:List AC) (F U:Int) (cl:List Int):∃ ns' first',gV (p:Int) room keep C F U ns first cl=some (room,keep,C,F,U,ns',first',cl) ∧ ns'.length=64 ∧ Lk ns' first' hd (oJ kids u p) ∧ ∀ q,nU ns' q=nU ns q:=by
 have hsz:=h.size hlen hu
 obtain ⟨l1,l2,hk,hn⟩:=aBy hm (h.nd u hu)
 have hc:=h.ch u hu
 rw [hk] at hc
 have hl1:l1.length ≤ 64:=by rw [hk] at hsz; simp at hsz; omega
 unfold gV
 rw [eT,hp,bnoS,chk,if_pos hlen,Int.toNat_natCast,hp,bnoS,bndD,hup]
 cases u with
 | none =>
   rw [show decide (upI none = -1)=true from rfl,bM,bndD]
   cases l1 with
   | nil =>
     obtain ⟨h1,_⟩:=hc
     have h1:first=(p:Int):=h1
     rw [decide_eq_true h1,Bool.not_true,bD,bnoS,bnoS]
     exact ⟨ns,np.next,rfl,hlen,h.behead0 hu hk hp,fun q=>rfl⟩
   | cons b l1 =>
     obtain ⟨h1,nb,h2,h3⟩:=hc
     have h1:first=(b:Int):=h1
     have hpb:p ≠ b:=fun e=>hn (by simp [e])
     rw [h1,decide_eq_false (show ¬ (b:Int)=(p:Int) by omega),Bool.not_false,bM,eT,h2,bnoS,Int.toNat_natCast]
     obtain ⟨r,nr,g1,g2,g3⟩:=seek hlen (room:=room) (keep:=keep) (C:=C) (F:=F) (U:=U) (first:=(b:Int)) (cl:=cl) hp l1 b nb fuel h2 h3 (fun hm=>hn (by simp [hm])) (eU (by simp at hl1; omega))
     obtain ⟨m,hmm⟩:=xK g1
     refine ⟨ns.set r { nr with next:=np.next },(b:Int),g3,by rw [List.length_set]; exact hlen,?_,sF g2 (by rfl)⟩
     rw [← h1]
     exact h.skip hu (m:=m) (l2:=l2) (by rw [hk,hmm]; simp) hp g2
 | some q =>
   obtain ⟨nq,hq⟩:=h.at' q hu
   have hqi:decide (upI (some q) = -1)=false:=decide_eq_false (show ¬ (q:Int) = -1 by omega)
   have hfq:nT ns first (some q)=nq.first:=nE hq
   rw [hfq] at hc
   rw [hqi,bD,show upI (some q)=(q:Int) from rfl,eT,hq,bnoS,Int.toNat_natCast,hq,bnoS,bndD]
   cases l1 with
   | nil =>
     obtain ⟨h1,_⟩:=hc
     rw [decide_eq_true h1,Bool.not_true,bD,bnoS,bnoS,bnoS,bndD]
     exact ⟨_,first,rfl,by rw [List.length_set]; exact hlen,h.behead1 hu hk hp hq,sF hq (by rfl)⟩
   | cons b l1 =>
     obtain ⟨h1,nb,h2,h3⟩:=hc
     have hpb:p ≠ b:=fun e=>hn (by simp [e])
     rw [h1,decide_eq_false (show ¬ (b:Int)=(p:Int) by omega),Bool.not_false,bM,bnoS,h1,eT,h2,bnoS,Int.toNat_natCast]
     obtain ⟨r,nr,g1,g2,g3⟩:=seek1 hlen (room:=room) (keep:=keep) (C:=C) (F:=F) (U:=U) (first:=first) (cl:=cl) hp l1 b nb fuel h2 h3 (fun hm=>hn (by simp [hm])) (eU (by simp at hl1; omega))
     obtain ⟨m,hmm⟩:=xK g1
     exact ⟨ns.set r { nr with next:=np.next },first,g3,by rw [List.length_set]; exact hlen,h.skip hu (m:=m) (l2:=l2) (by rw [hk,hmm]; simp) hp g2,sF g2 (by rfl)⟩
def rV (kids:Option Nat → List Nat) (u:Option Nat) (p:Nat):Option Nat → List Nat:=fun v=>if v=u then p :: kids u else kids v
theorem aCK {ns:List Nk} {first:Int} {hd:Option Nat → Prop} {kids:Option Nat → List Nat} (h:Lk ns first hd kids) {u:Option Nat} (hu:hd u) {p:Nat} (hp:∀ v,hd v → p ∉ kids v):∀ v w r,hd v → hd w → r ∈ rV kids u p v → r ∈ rV kids u p w → v=w:=by
 have key:∀ v r,r ∈ rV kids u p v → (v=u ∧ r=p) ∨ r ∈ kids v:=fun v r hr=>by
  unfold rV at hr
  split at hr
  · rename_i e
    rcases List.mem_cons.1 hr with hr | hr
    · exact .inl ⟨e,hr⟩
    · exact .inr (by rw [e]; exact hr)
  · exact .inr hr
 intro v w r hv hw h1 h2
 rcases key v r h1 with ⟨a1,a2⟩ | a
 · rcases key w r h2 with ⟨b1,b2⟩ | b
   · rw [a1,b1]
   · exact absurd (a2 ▸ b) (hp w hw)
 · rcases key w r h2 with ⟨b1,b2⟩ | b
   · exact absurd (b2 ▸ a) (hp v hv)
   · exact h.dj v w r hv hw a b
theorem aCJ {ns:List Nk} {first:Int} {hd:Option Nat → Prop} {kids:Option Nat → List Nat} (h:Lk ns first hd kids) {u:Option Nat} (hu:hd u) {p:Nat} (hp:∀ v,hd v → p ∉ kids v):∀ v,hd v → (rV kids u p v).Nodup:=by
 intro v hv
 unfold rV
 split
 · exact List.nodup_cons.2 ⟨hp u hu,h.nd u hu⟩
 · exact h.nd v hv
def seenUp (ns ns':List Nk) (p:Nat) (u:Option Nat):Prop:=(∀ q,q ≠ p → nU ns' q=nU ns q) ∧ ∀ n,ns[p]? = some n → nU ns' p=some (n.id,upI u,n.weight,n.closed)
theorem aCt {ns:List Nk} {first:Int} {hd:Option Nat → Prop} {kids:Option Nat → List Nat} (hlen:ns.length=64) (h:Lk ns first hd kids) {u:Option Nat} (hu:hd u) {p:Nat} {np:Nk} (hp:ns[p]? = some np) (hpk:∀ v,hd v → p ∉ kids v) (hpu:u ≠ some p)
 (room keep:Int) (C:List AC) (F U:Int) (cl:List Int):∃ ns' first',gI (p:Int) (upI u) room keep C F U ns first cl=some (room,keep,C,F,U,ns',first',cl) ∧ ns'.length=64 ∧ Lk ns' first' hd (rV kids u p) ∧ seenUp ns ns' p u:=by
 have hlt:=(List.getElem?_eq_some_iff.1 hp).1
 unfold gI
 rw [bndD]
 cases u with
 | none =>
   rw [show decide (upI none = -1)=true from rfl,bM,chk,if_pos hlen,eT,hp,bnoS,Int.toNat_natCast,hp,bnoS,bndD,eT,List.getElem?_set_self hlt,bnoS,bnoS,bndD,List.set_set]
   refine ⟨_,_,rfl,by rw [List.length_set]; exact hlen,?_,?_⟩
   · have hoth:∀ (n:Nk) v,hd v → kG (ns.set p n) (nT ns first v) (kids v):=fun n v hv=>(h.ch v hv).other (hpk v hv) n
     refine ⟨fun v hv=>?_,aCJ h hu hpk,aCK h hu hpk,fun q hq=>?_⟩
     · unfold rV
       cases v with
       | none =>
         rw [if_pos rfl]
         exact ⟨rfl,_,List.getElem?_set_self hlt,hoth _ none hv⟩
       | some q =>
         rw [if_neg (by simp)]
         have hf:nT (ns.set p (⟨np.id,upI none,np.first,first,np.weight,np.closed⟩:Nk)) (p:Int) (some q)=nT ns first (some q):=by
          show ((ns.set p _).getD q default).first=(ns.getD q default).first
          rw [List.getD_eq_getElem?_getD,List.getD_eq_getElem?_getD]
          by_cases e:p=q
          · subst e; rw [List.getElem?_set_self hlt,hp]; rfl
          · rw [List.getElem?_set_ne e]
         rw [hf]
         exact hoth _ (some q) hv
     · obtain ⟨n,hn⟩:=h.at' q hq
       by_cases e:p=q
       · subst e; exact ⟨_,List.getElem?_set_self hlt⟩
       · exact ⟨n,by rw [List.getElem?_set_ne e]; exact hn⟩
   · refine ⟨fun q hq=>?_,fun n hn=>?_⟩
     · unfold nU; rw [List.getElem?_set_ne (fun e=>hq e.symm)]
     · rw [hp] at hn
       injection hn with hn
       subst hn
       unfold nU; rw [List.getElem?_set_self hlt]; rfl
 | some q =>
   have hqp:q ≠ p:=fun e=>hpu (by rw [e])
   obtain ⟨nq,hq⟩:=h.at' q hu
   have hltq:=(List.getElem?_eq_some_iff.1 hq).1
   have hq2:∀ n:Nk,(ns.set p n)[q]? = some nq:=fun n=>by rw [List.getElem?_set_ne (fun e=>hqp e.symm)]; exact hq
   rw [decide_eq_false (show ¬ upI (some q) = -1 from fun e=>by have:(q:Int) = -1:=e; omega),bD,show upI (some q)=(q:Int) from rfl,eT,hq,bnoS,chk,if_pos hlen,Int.toNat_natCast,hq,bnoS,eT,hp,bnoS,Int.toNat_natCast,hp,bnoS,bndD,eT,List.getElem?_set_self hlt,bnoS,bnoS,bndD,List.set_set,hq2,bnoS,bndD]
   refine ⟨_,_,rfl,by rw [List.length_set,List.length_set]; exact hlen,?_,?_⟩
   · refine ⟨fun v hv=>?_,aCJ h hu hpk,aCK h hu hpk,fun r hr=>?_⟩
     · have hc:∀ (n:Nk),kG (ns.set p n) (nT ns first v) (kids v):=fun n=>(h.ch v hv).other (hpk v hv) n
       unfold rV
       by_cases e:v=some q
       · subst e
         rw [if_pos rfl,nE (List.getElem?_set_self (by rw [List.length_set]; exact hltq))]
         refine ⟨rfl,_,by rw [List.getElem?_set_ne hqp,List.getElem?_set_self hlt],?_⟩
         refine kG.keep (hq2 _) (by rfl) ?_
         have:=hc (⟨np.id,(q:Int),np.first,nq.first,np.weight,np.closed⟩:Nk)
         rw [nE hq] at this
         exact this
       · rw [if_neg e]
         have hf:nT ((ns.set p (⟨np.id,(q:Int),np.first,nq.first,np.weight,np.closed⟩:Nk)).set q (⟨nq.id,nq.up,(p:Int),nq.next,nq.weight,nq.closed⟩:Nk)) first v=nT ns first v:=by
          cases v with
          | none=>rfl
          | some r =>
            have hqr:q ≠ r:=fun h=>e (by rw [h])
            show (((ns.set p _).set q _).getD r default).first=(ns.getD r default).first
            rw [List.getD_eq_getElem?_getD,List.getD_eq_getElem?_getD,List.getElem?_set_ne hqr]
            by_cases e2:p=r
            · subst e2; rw [List.getElem?_set_self hlt,hp]; rfl
            · rw [List.getElem?_set_ne e2]
         rw [hf]
         exact kG.keep (hq2 _) (by rfl) (hc _)
     · obtain ⟨n,hn⟩:=h.at' r hr
       by_cases e:q=r
       · subst e; exact ⟨_,List.getElem?_set_self (by rw [List.length_set]; exact hltq)⟩
       · rw [List.getElem?_set_ne e]
         by_cases e2:p=r
         · subst e2; exact ⟨_,List.getElem?_set_self hlt⟩
         · exact ⟨n,by rw [List.getElem?_set_ne e2]; exact hn⟩
   · refine ⟨fun r hr=>?_,fun n hn=>?_⟩
     · rw [sF (hq2 _) (by rfl)]
       unfold nU; rw [List.getElem?_set_ne (fun e=>hr e.symm)]
     · rw [hp] at hn
       injection hn with hn
       subst hn
       rw [sF (hq2 _) (by rfl)]
       unfold nU; rw [List.getElem?_set_self hlt]; rfl
end Go.Fn
open Go Go.IL
namespace Go.Fn
def gK (A:AS) (p:Nat):Prop:=∃ c,A.Cells[p]? = some c ∧ c.Live=true
def hdK (A:AS):Option Nat → Prop
 | none=>True
 | some p=>gK A p
def idP (ns:List Nk) (p:Nat):Int:=(ns.getD p default).id
def idU (ns:List Nk):Option Nat → Int
 | none=>0
 | some p=>idP ns p
def asN (ns:List Nk) (n:Nk) (u:Option Nat):Nd:=⟨n.id,idU ns u,n.weight,n.closed⟩
structure RL (A:AS) (sp:List Nat) (ns:List Nk) (first:Int) (kids:Option Nat → List Nat) (N:List Nd):Prop where
 ga:uP A sp
 len:ns.length=64
 lk:Lk ns first (hdK A) kids
 up:∀ p,gK A p → ∃ u n,hdK A u ∧ ns[p]? = some n ∧ n.up=upI u ∧ p ∈ kids u ∧ asN ns n u ∈ N
 kid:∀ u p,hdK A u → p ∈ kids u → gK A p
 bw:∀ m ∈ N,∃ p n u,gK A p ∧ hdK A u ∧ ns[p]? = some n ∧ n.up=upI u ∧ m=asN ns n u
 inj:∀ p q,gK A p → gK A q → idP ns p=idP ns q → p=q
 so:N.Pairwise (fun a b=>a.ID < b.ID)
theorem aAV {u v:Option Nat} (h:upI u=upI v):u=v:=by
 cases u with
 | none=>cases v with
   | none=>rfl
   | some q=>have:(-1:Int)=(q:Int):=h; omega
 | some p=>cases v with
   | none=>have:(p:Int) = -1:=h; omega
   | some q=>have:(p:Int)=(q:Int):=h; congr 1; omega
theorem cZ {ns:List Nk} {p:Nat} {n:Nk} (h:ns[p]? = some n):idP ns p=n.id:=by
 unfold idP
 rw [List.getD_eq_getElem?_getD,h]; rfl
theorem nY {ns ns':List Nk} {q:Nat} (h:nU ns' q=nU ns q) {n:Nk} (hn:ns[q]? = some n):∃ n',ns'[q]? = some n' ∧ xV n'=xV n:=by
 unfold nU at h
 rw [hn] at h
 cases h2:ns'[q]? with
 | none=>rw [h2] at h; cases h
 | some n'=>rw [h2] at h; injection h with h; exact ⟨n',rfl,h⟩
theorem aBr {ns ns':List Nk} {q:Nat} (h:nU ns' q=nU ns q) (hn:ns[q]? = none):ns'[q]? = none:=by
 unfold nU at h
 rw [hn] at h
 cases h2:ns'[q]? with
 | none=>rfl
 | some n'=>rw [h2] at h; cases h
theorem xU {ns ns':List Nk} {q:Nat} (h:nU ns' q=nU ns q):idP ns' q=idP ns q:=by
 cases hn:ns[q]? with
 | none =>
   have:=aBr h hn
   unfold idP
   rw [List.getD_eq_getElem?_getD,List.getD_eq_getElem?_getD,hn,this]
 | some n =>
   obtain ⟨n',h1,h2⟩:=nY h hn
   rw [cZ h1,cZ hn]
   exact congrArg (·.1) h2
theorem pZ {n n':Nk} (h:xV n'=xV n):n'.id=n.id ∧ n'.up=n.up ∧ n'.weight=n.weight ∧ n'.closed=n.closed :=
 ⟨congrArg (·.1) h,congrArg (·.2.1) h,congrArg (·.2.2.1) h,congrArg (·.2.2.2) h⟩
theorem aDW {kids:Option Nat → List Nat} {u0 u:Option Nat} {p:Nat} (hnd:(kids u0).Nodup) (hp:∀ v,p ∈ kids v → v=u0) (v:Option Nat) (q:Nat):q ∈ rV (oJ kids u0 p) u p v ↔ (q=p ∧ v=u) ∨ (q ≠ p ∧ q ∈ kids v):=by
 have hdrop:∀ v,q ∈ oJ kids u0 p v ↔ (q ≠ p ∧ q ∈ kids v):=fun v=>by
  unfold oJ
  by_cases e:v=u0
  · rw [if_pos e,hnd.mem_erase_iff,e]
  · rw [if_neg e]
    exact ⟨fun h=>⟨fun e2=>e (hp v (e2 ▸ h)),h⟩,fun h=>h.2⟩
 unfold rV
 by_cases e:v=u
 · rw [if_pos e,List.mem_cons,hdrop u,e]
   constructor
   · rintro (h | h)
     · exact .inl ⟨h,rfl⟩
     · exact .inr h
   · rintro (h | h)
     · exact .inl h.1
     · exact .inr h
 · rw [if_neg e,hdrop v]
   constructor
   · exact fun h=>.inr h
   · rintro (h | h)
     · exact absurd h.2 e
     · exact h
theorem RL.par {A:AS} {sp:List Nat} {ns:List Nk} {first:Int} {kids:Option Nat → List Nat} {N:List Nd} (h:RL A sp ns first kids N) {p:Nat} (hp:gK A p):∃ u n,hdK A u ∧ ns[p]? = some n ∧ n.up=upI u ∧ p ∈ kids u ∧ asN ns n u ∈ N ∧ ∀ v,hdK A v → p ∈ kids v → v=u:=by
 obtain ⟨u,n,h1,h2,h3,h4,h5⟩:=h.up p hp
 exact ⟨u,n,h1,h2,h3,h4,h5,fun v hv hm=>h.lk.dj v u p hv h1 hm h4⟩
theorem vU {A:AS} {sp:List Nat} {ns:List Nk} {first:Int} {kids:Option Nat → List Nat} {N:List Nd} (h:RL A sp ns first kids N) (hk0:∀ u,¬ hdK A u → kids u=[]) {p:Nat} (hp:gK A p) {u:Option Nat} (hu:hdK A u) (hpu:u ≠ some p) (room keep:Int) (cl:List Int) :
 ∃ ns' first' kids',eN (p:Int) (upI u) room keep A.Cells A.Free A.Used ns first cl=some (room,keep,A.Cells,A.Free,A.Used,ns',first',cl) ∧ RL A sp ns' first' kids' (N.map (mvN (idP ns p) (idU ns u))) ∧ (∀ u,¬ hdK A u → kids' u=[]) ∧ (∀ q,idP ns' q=idP ns q) ∧ (∀ v q,q ∈ kids' v ↔ (q=p ∧ v=u) ∨ (q ≠ p ∧ q ∈ kids v)):=by
 obtain ⟨u0,np,a1,a2,a3,a4,a5,a6⟩:=h.par hp
 obtain ⟨ns1,first1,b1,b2,b3,b4⟩:=zJ h.len h.lk a1 a2 a3 a4 room keep A.Cells A.Free A.Used cl
 obtain ⟨np1,c1,c2⟩:=nY (b4 p) a2
 have hnd:=h.lk.nd u0 a1
 have hpk:∀ v,p ∈ kids v → v=u0:=fun v hm=>by
  by_cases hv:hdK A v
  · exact a6 v hv hm
  · rw [hk0 v hv] at hm; cases hm
 have hpd:∀ v,hdK A v → p ∉ oJ kids u0 p v:=fun v hv hm=>by
  unfold oJ at hm
  split at hm
  · exact (hnd.mem_erase_iff.1 hm).1 rfl
  · rename_i e; exact e (hpk v hm)
 obtain ⟨ns2,first2,d1,d2,d3,d4,d5⟩:=aCt b2 b3 hu c1 hpd hpu room keep A.Cells A.Free A.Used cl
 have hmem:=fun v q=>aDW (u:=u) hnd hpk v q
 have hv2:∀ q,q ≠ p → nU ns2 q=nU ns q:=fun q hq=>(d4 q hq).trans (b4 q)
 obtain ⟨e1,e2,e3,e4⟩:=pZ c2
 have hvp:∃ n2,ns2[p]? = some n2 ∧ n2.id=np.id ∧ n2.up=upI u ∧ n2.weight=np.weight ∧ n2.closed=np.closed:=by
  have:=d5 np1 c1
  unfold nU at this
  cases h2:ns2[p]? with
  | none=>rw [h2] at this; cases this
  | some n2 =>
    rw [h2] at this
    injection this with this
    refine ⟨n2,rfl,?_,?_,?_,?_⟩
    · rw [← e1]; exact congrArg (·.1) this
    · exact congrArg (·.2.1) this
    · rw [← e3]; exact congrArg (·.2.2.1) this
    · rw [← e4]; exact congrArg (·.2.2.2) this
 obtain ⟨n2,f1,f2,f3,f4,f5⟩:=hvp
 have hid:∀ q,idP ns2 q=idP ns q:=fun q=>by
  by_cases hq:q=p
  · subst hq; rw [cZ f1,cZ a2,f2]
  · exact xU (hv2 q hq)
 have hidU:∀ v,idU ns2 v=idU ns v:=fun v=>by
  cases v with
  | none=>rfl
  | some q=>exact hid q
 have hidp:idP ns p=np.id:=cZ a2
 refine ⟨ns2,first2,_,?_,?_,?_,hid,hmem⟩
 · unfold eN
   rw [b1,bnoS]
   show (bno (gI (p:Int) (upI u) room keep A.Cells A.Free A.Used ns1 first1 cl) _)=_
   rw [d1,bnoS]
 · refine ⟨h.ga,d2,d3,fun q hq=>?_,fun v q hv hm=>?_,fun m hm=>?_,fun q r hq hr e=>h.inj q r hq hr (by rw [← hid q,← hid r]; exact e),?_⟩
   · by_cases hqp:q=p
     · subst hqp
       refine ⟨u,n2,hu,f1,f3,(hmem u q).2 (.inl ⟨rfl,rfl⟩),?_⟩
       refine List.mem_map.2 ⟨asN ns np u0,a5,?_⟩
       unfold mvN asN
       rw [if_pos (show np.id=idP ns q from hidp.symm),f2,f4,f5,hidU]
     · obtain ⟨v,n,g1,g2,g3,g4,g5⟩:=h.up q hq
       obtain ⟨n',k1,k2⟩:=nY (hv2 q hqp) g2
       obtain ⟨k3,k4,k5,k6⟩:=pZ k2
       refine ⟨v,n',g1,k1,k4.trans g3,(hmem v q).2 (.inr ⟨hqp,g4⟩),?_⟩
       refine List.mem_map.2 ⟨asN ns n v,g5,?_⟩
       have hne:n.id ≠ idP ns p:=fun e=>hqp (h.inj q p hq hp (by rw [cZ g2]; exact e))
       unfold mvN asN
       rw [if_neg hne,k3,k5,k6,hidU]
   · rcases (hmem v q).1 hm with ⟨rfl,_⟩ | ⟨_,hm⟩
     · exact hp
     · exact h.kid v q hv hm
   · obtain ⟨m0,hm0,rfl⟩:=List.mem_map.1 hm
     obtain ⟨q,n,v,g1,g2,g3,g4,rfl⟩:=h.bw m0 hm0
     by_cases hqp:q=p
     · subst hqp
       rw [a2] at g3
       injection g3 with g3
       subst g3
       refine ⟨q,n2,u,hp,hu,f1,f3,?_⟩
       unfold mvN asN
       rw [if_pos (show np.id=idP ns q from hidp.symm),f2,f4,f5,hidU]
     · obtain ⟨n',k1,k2⟩:=nY (hv2 q hqp) g3
       obtain ⟨k3,k4,k5,k6⟩:=pZ k2
       have hne:n.id ≠ idP ns p:=fun e=>hqp (h.inj q p g1 hp (by rw [cZ g3]; exact e))
       refine ⟨q,n',v,g1,g2,k1,k4.trans g4,?_⟩
       unfold mvN asN
       rw [if_neg hne,k3,k5,k6,hidU]
   · rw [List.pairwise_map]
     refine h.so.imp fun hab=>?_
     rw [lE,lE]; exact hab
 · intro v hv
   refine List.eq_nil_iff_forall_not_mem.2 fun q hm=>?_
   rcases (hmem v q).1 hm with ⟨_,rfl⟩ | ⟨_,hm⟩
   · exact hv hu
   · rw [hk0 v hv] at hm; cases hm
theorem find_L {ns:List Nk} (hlen:ns.length=64) (id:Int) {l:List Nat} (hl:l.length ≤ 64) (hs:∀ p ∈ l,∃ n,ns[p]? = some n) (r:List Nat):∀ (q:List Nat) (f:Nat),l=q ++ r → r.length < f → fR id ns (toI l) f (q.length:Int)=some (match r.find? (fun p=>decide (idP ns p=id)) with | some p=>(p:Int) | none=>-1):=by
 induction r with
 | nil =>
   intro q f h hf
   obtain ⟨f,rfl⟩:∃ g,f=g + 1:=⟨f - 1,by simp at hf; omega⟩
   rw [List.append_nil] at h
   rw [fR,bndD,show (toI l).length=q.length by unfold toI; rw [List.length_map,h],decide_eq_false (by omega),bD]; rfl
 | cons p r ih =>
   intro q f h hf
   obtain ⟨f,rfl⟩:∃ g,f=g + 1:=⟨f - 1,by simp at hf; omega⟩
   obtain ⟨n,hn⟩:=hs p (by rw [h]; simp)
   have hI:toI l=toI q ++ (p:Int) :: toI r:=by rw [h]; unfold toI; simp
   have hql:(toI q).length=q.length:=by unfold toI; simp
   have hll:(toI l).length=l.length:=by unfold toI; simp
   have e1:=nJ hI
   have e2:=fS hI
   have e3:=w_at hI (by omega)
   rw [hql] at e1 e2 e3
   rw [fR,bndD,e1,bM,e2,bnoS,eT,hn,bnoS,chk,if_pos hlen,Int.toNat_natCast,hn,bnoS,bndD,List.find?_cons,cZ hn]
   by_cases hid:n.id=id
   · rw [decide_eq_true hid,bM]
   · rw [decide_eq_false hid,bD,bndD,e3]
     have:=ih (q ++ [p]) f (by rw [h]; simp) (by simpa using hf)
     rw [show ((toI q ++ [(p:Int)]).length:Int)=((q ++ [p]).length:Int) by simp [hql]]
     exact this
theorem nR {A:AS} {p:Nat}:gK A p ↔ p ∈ nB A.Cells 0:=by
 rw [vW]
 simp [gK]
theorem aC2 {A:AS} {sp:List Nat} {ns:List Nk} {first:Int} {kids:Option Nat → List Nat} {N:List Nd} (h:RL A sp ns first kids N) (id:Int) (room keep:Int) (cl:List Int) :
 (∃ p,gK A p ∧ idP ns p=id ∧ eH id room keep A.Cells A.Free A.Used ns first cl=some (p:Int)) ∨ ((∀ p,gK A p → idP ns p ≠ id) ∧ eH id room keep A.Cells A.Free A.Used ns first cl=some (-1)):=by
 have hlive:=aCe h.ga
 have hll:(nB A.Cells 0).length ≤ 64:=by rw [sU]; exact Nat.le_trans List.countP_le_length h.ga.len
 have hf:=find_L h.len id hll (fun p hp=>by obtain ⟨u,n,_,h2,_⟩:=h.up p (nR.2 hp); exact ⟨n,h2⟩) (nB A.Cells 0) [] fuel rfl (eU (by omega))
 have hfind:eH id room keep A.Cells A.Free A.Used ns first cl=some (match (nB A.Cells 0).find? (fun p=>decide (idP ns p=id)) with | some p=>(p:Int) | none=>-1):=by
  unfold eH
  have hA:(⟨A.Cells,A.Free,A.Used⟩:AS)=A:=rfl
  rw [hA,hlive,bnoS]
  exact hf
 rw [hfind]
 cases hc:(nB A.Cells 0).find? (fun p=>decide (idP ns p=id)) with
 | none =>
   right
   refine ⟨fun p hp e=>?_,rfl⟩
   have:=List.find?_eq_none.1 hc p (nR.1 hp)
   exact this (decide_eq_true e)
 | some p =>
   left
   have h1:=List.mem_of_find?_eq_some hc
   have h2:=List.find?_some hc
   exact ⟨p,nR.2 h1,of_decide_eq_true h2,rfl⟩
def Up (ns:List Nk):Nat → List Nat → Prop
 | p,[]=>∃ n,ns[p]? = some n ∧ n.up = -1
 | p,q :: l=>(∃ n,ns[p]? = some n ∧ n.up=(q:Int)) ∧ Up ns q l
theorem aBt {ns:List Nk} (hlen:ns.length=64) (t:Nat):∀ (l:List Nat) (p f:Nat),Up ns p l → l.length + 1 < f → eR (t:Int) ns f (p:Int)=some (decide (t ∈ l))
 | [],p,f + 2,⟨n,h1,h2⟩,_=>by
   rw [eR,bndD,decide_eq_false (by omega),Bool.not_false,bM,eT,h1,bnoS,chk,if_pos hlen,Int.toNat_natCast,h1,bnoS,bndD,h2,decide_eq_false (by omega),bD]
   rw [eR,bndD,decide_eq_true rfl]
   simp
 | q :: l,p,f + 1,⟨⟨n,h1,h2⟩,h3⟩,hf=>by
   rw [eR,bndD,decide_eq_false (by omega),Bool.not_false,bM,eT,h1,bnoS,chk,if_pos hlen,Int.toNat_natCast,h1,bnoS,bndD,h2]
   by_cases e:q=t
   · rw [decide_eq_true (by omega),bM,decide_eq_true (by simp [e])]
   · rw [decide_eq_false (by omega),bD,aBt hlen t l q f h3 (by simpa using hf)]
     congr 1
     simp [List.mem_cons,Ne.symm e]
end Go.Fn
open Go Go.IL
namespace Go.Fn
theorem aCX {A:AS} {sp:List Nat} {ns:List Nk} {first:Int} {kids:Option Nat → List Nat} {N:List Nd} (h:RL A sp ns first kids N) {p:Nat} (hp:gK A p) {n:Nk} (hn:ns[p]? = some n):∃ u,hdK A u ∧ n.up=upI u ∧ p ∈ kids u ∧ asN ns n u ∈ N:=by
 obtain ⟨u,m,h1,h2,h3,h4,h5⟩:=h.up p hp
 rw [hn] at h2
 injection h2 with h2
 subst h2
 exact ⟨u,h1,h3,h4,h5⟩
theorem uW {A:AS} {sp:List Nat} {ns:List Nk} {first:Int} {kids:Option Nat → List Nat} {N:List Nd} (h:RL A sp ns first kids N) (hpos:∀ m ∈ N,1 ≤ m.ID) {u:Option Nat} (hu:hdK A u):idU ns u=0 ↔ u=none:=by
 cases u with
 | none=>exact ⟨fun _=>rfl,fun _=>rfl⟩
 | some p =>
   obtain ⟨v,n,h1,h2,h3,h4,h5⟩:=h.up p hu
   have:=hpos _ h5
   have hi:idU ns (some p)=n.id:=cZ h2
   exact ⟨fun e=>by have:1 ≤ n.id:=this; omega,fun e=>by cases e⟩
theorem vP {A:AS} {sp:List Nat} {ns:List Nk} {first:Int} {kids:Option Nat → List Nat} {N:List Nd} (h:RL A sp ns first kids N) {p:Nat} (hp:gK A p) {n:Nk} (hn:ns[p]? = some n) {u:Option Nat} (hu:n.up=upI u):oI N (idP ns p)=some (idU ns u):=by
 obtain ⟨v,h1,h2,h3,h4⟩:=aCX h hp hn
 have hv:v=u:=aAV (h2.symm.trans hu)
 subst hv
 have:=vO h.so h4
 rw [cZ hn]
 exact this
theorem up_ok {A:AS} {sp:List Nat} {ns:List Nk} {first:Int} {kids:Option Nat → List Nat} {N:List Nd} (h:RL A sp ns first kids N) (hpos:∀ m ∈ N,1 ≤ m.ID) {r:Int → Nat} (hr:∀ m ∈ N,m.Parent ≠ 0 → r m.Parent < r m.ID):∀ (k p:Nat),gK A p → r (idP ns p) ≤ k → ∃ l,Up ns p l ∧ (∀ q ∈ l,gK A q) ∧ l.length ≤ k ∧ ∀ j,l.length < j → fO N j (idP ns p)=l.map (idP ns)
 | k, p,hp,hk=>by
   obtain ⟨u,n,h1,h2,h3,h4,h5⟩:=h.up p hp
   have hpar:=vP h hp h2 h3
   cases u with
   | none =>
     refine ⟨[],⟨n,h2,h3⟩,by simp,Nat.zero_le _,fun j hj=>?_⟩
     obtain ⟨j,rfl⟩:∃ i,j=i + 1:=⟨j - 1,by simp at hj; omega⟩
     show (match oI N (idP ns p) with | some q=>if q=0 then [] else q :: fO N j q | none=>[])=_
     rw [hpar]; rfl
   | some q =>
     have hne:idU ns (some q) ≠ 0:=fun e=>by have:=(uW h hpos h1).1 e; cases this
     have hlt:r (idP ns q) < r (idP ns p):=by
      have:=hr _ h5 hne
      rw [cZ h2]
      exact this
     obtain ⟨k,rfl⟩:∃ i,k=i + 1:=⟨k - 1,by omega⟩
     obtain ⟨l,g1,g2,g3,g4⟩:=up_ok h hpos hr k q h1 (by omega)
     refine ⟨q :: l,⟨⟨n,h2,h3⟩,g1⟩,fun x hx=>?_,by simpa using g3,fun j hj=>?_⟩
     · rcases List.mem_cons.1 hx with rfl | hx
       · exact h1
       · exact g2 x hx
     · obtain ⟨j,rfl⟩:∃ i,j=i + 1:=⟨j - 1,by simp at hj; omega⟩
       show (match oI N (idP ns p) with | some q=>if q=0 then [] else q :: fO N j q | none=>[])=_
       rw [hpar]
       show (if idU ns (some q)=0 then [] else idU ns (some q) :: fO N j (idU ns (some q)))=_
       rw [if_neg hne]
       show idP ns q :: fO N j (idP ns q)=idP ns q :: l.map (idP ns)
       rw [g4 j (by simpa using hj)]
theorem aDI {A:AS} {sp:List Nat} {ns:List Nk} {first:Int} {kids:Option Nat → List Nat} {N:List Nd} (h:RL A sp ns first kids N) (hpos:∀ m ∈ N,1 ≤ m.ID) {r:Int → Nat} (hr:∀ m ∈ N,m.Parent ≠ 0 → r m.Parent < r m.ID) (hpa:∀ m ∈ N,m.Parent=0 ∨ ∃ x ∈ N,x.ID=m.Parent) {p:Nat} (hp:gK A p):∃ l,Up ns p l ∧ (∀ q ∈ l,gK A q) ∧ l.length < N.length ∧ fO N N.length (idP ns p)=l.map (idP ns):=by
 obtain ⟨l,h1,h2,h3,h4⟩:=up_ok h hpos hr (r (idP ns p)) p hp (Nat.le_refl _)
 obtain ⟨u,n,_,g2,_,_,g5⟩:=h.up p hp
 have hid:idP ns p=n.id:=cZ g2
 have hmem:∃ m ∈ N,m.ID=idP ns p:=⟨_,g5,hid.symm⟩
 have hj:=h4 (l.length + 1) (Nat.lt_succ_self _)
 have hps:=rF h.so hr hpa (l.length + 1) (idP ns p) hmem
 have hnd:=hps.1
 have hin:=hps.2
 rw [hj] at hnd hin
 have hle:(idP ns p :: l.map (idP ns)).length ≤ (N.map (·.ID)).length:=vT hnd (fun x hx=>hin x hx)
 simp at hle
 exact ⟨l,h1,h2,by omega,h4 N.length (by omega)⟩
theorem mem_ids {A:AS} {sp:List Nat} {ns:List Nk} {first:Int} {kids:Option Nat → List Nat} {N:List Nd} (h:RL A sp ns first kids N) {l:List Nat} (hl:∀ q ∈ l,gK A q) {p:Nat} (hp:gK A p):p ∈ l ↔ idP ns p ∈ l.map (idP ns):=by
 rw [List.mem_map]
 exact ⟨fun hm=>⟨p,hm,rfl⟩,fun ⟨q,hq,e⟩=>by rw [← h.inj q p (hl q hq) hp e]; exact hq⟩
theorem aDJ {A:AS} {sp:List Nat} {ns:List Nk} {first:Int} {kids:Option Nat → List Nat} {N:List Nd} (h:RL A sp ns first kids N) (hpos:∀ m ∈ N,1 ≤ m.ID) (hN:N.length ≤ 64) {r:Int → Nat} (hr:∀ m ∈ N,m.Parent ≠ 0 → r m.Parent < r m.ID) (hpa:∀ m ∈ N,m.Parent=0 ∨ ∃ x ∈ N,x.ID=m.Parent) {p t:Nat} (hp:gK A p) (ht:gK A t) (room keep:Int) (C:List AC) (F U:Int) (cl:List Int) :
 kQ (p:Int) (t:Int) room keep C F U ns first cl=some (decide (idP ns t ∈ fO N N.length (idP ns p))):=by
 obtain ⟨l,h1,h2,h3,h4⟩:=aDI h hpos hr hpa hp
 unfold kQ
 rw [aBt h.len t l p fuel h1 (eU (by omega)),h4]
 congr 1
 exact decide_eq_decide.2 (mem_ids h h2 ht)
def setN (id:Int) (w:Int) (c:Bool) (n:Nd):Nd:=if n.ID=id then ⟨n.ID,n.Parent,w,c⟩ else n
theorem qA (id w:Int) (c:Bool) (n:Nd):(setN id w c n).ID=n.ID:=by unfold setN; split <;> rfl
theorem aB3 {A:AS} {sp:List Nat} {ns:List Nk} {first:Int} {kids:Option Nat → List Nat} {N:List Nd} (h:RL A sp ns first kids N) {p:Nat} (hp:gK A p) {n:Nk} (hn:ns[p]? = some n) (w:Int) (c:Bool) :
 RL A sp (ns.set p (⟨n.id,n.up,n.first,n.next,w,c⟩:Nk)) first kids (N.map (setN (idP ns p) w c)) ∧ ∀ q,idP (ns.set p (⟨n.id,n.up,n.first,n.next,w,c⟩:Nk)) q=idP ns q:=by
 have hlt:=(List.getElem?_eq_some_iff.1 hn).1
 have hid:∀ q,idP (ns.set p (⟨n.id,n.up,n.first,n.next,w,c⟩:Nk)) q=idP ns q:=fun q=>by
  by_cases e:p=q
  · subst e; rw [cZ (List.getElem?_set_self hlt),cZ hn]
  · unfold idP; rw [List.getD_eq_getElem?_getD,List.getD_eq_getElem?_getD,List.getElem?_set_ne e]
 have hidU:∀ v,idU (ns.set p (⟨n.id,n.up,n.first,n.next,w,c⟩:Nk)) v=idU ns v:=fun v=>by
  cases v with
  | none=>rfl
  | some q=>exact hid q
 have hfst:∀ v,nT (ns.set p (⟨n.id,n.up,n.first,n.next,w,c⟩:Nk)) first v=nT ns first v:=fun v=>by
  cases v with
  | none=>rfl
  | some q =>
    show ((ns.set p _).getD q default).first=(ns.getD q default).first
    rw [List.getD_eq_getElem?_getD,List.getD_eq_getElem?_getD]
    by_cases e:p=q
    · subst e; rw [List.getElem?_set_self hlt,hn]; rfl
    · rw [List.getElem?_set_ne e]
 refine ⟨⟨h.ga,by rw [List.length_set]; exact h.len,⟨fun v hv=>?_,h.lk.nd,h.lk.dj,fun q hq=>?_⟩,fun q hq=>?_,h.kid,fun m hm=>?_,fun q r hq hr e=>h.inj q r hq hr (by rw [← hid q,← hid r]; exact e),?_⟩,hid⟩
 · rw [hfst]
   exact kG.keep hn (by rfl) (h.lk.ch v hv)
 · obtain ⟨m,hm⟩:=h.lk.at' q hq
   by_cases e:p=q
   · subst e; exact ⟨_,List.getElem?_set_self hlt⟩
   · exact ⟨m,by rw [List.getElem?_set_ne e]; exact hm⟩
 · obtain ⟨u,m,h1,h2,h3,h4,h5⟩:=h.up q hq
   by_cases e:p=q
   · subst e
     rw [hn] at h2
     injection h2 with h2
     subst h2
     refine ⟨u,_,h1,List.getElem?_set_self hlt,h3,h4,List.mem_map.2 ⟨_,h5,?_⟩⟩
     unfold setN asN
     rw [if_pos (show n.id=idP ns p from (cZ hn).symm),hidU]
   · refine ⟨u,m,h1,by rw [List.getElem?_set_ne e]; exact h2,h3,h4,List.mem_map.2 ⟨_,h5,?_⟩⟩
     have hne:m.id ≠ idP ns p:=fun e2=>e (h.inj p q hp hq (by rw [cZ h2]; exact e2.symm))
     unfold setN asN
     rw [if_neg hne,hidU]
 · obtain ⟨m0,hm0,rfl⟩:=List.mem_map.1 hm
   obtain ⟨q,k,u,g1,g2,g3,g4,rfl⟩:=h.bw m0 hm0
   by_cases e:p=q
   · subst e
     rw [hn] at g3
     injection g3 with g3
     subst g3
     refine ⟨p,_,u,g1,g2,List.getElem?_set_self hlt,g4,?_⟩
     unfold setN asN
     rw [if_pos (show n.id=idP ns p from (cZ hn).symm),hidU]
   · refine ⟨q,k,u,g1,g2,by rw [List.getElem?_set_ne e]; exact g3,g4,?_⟩
     have hne:k.id ≠ idP ns p:=fun e2=>e (h.inj p q hp g1 (by rw [cZ g3]; exact e2.symm))
     unfold setN asN
     rw [if_neg hne,hidU]
 · rw [List.pairwise_map]
   refine h.so.imp fun hab=>?_
   rw [qA,qA]; exact hab
end Go.Fn
open Go Go.IL
namespace Go.Fn
abbrev PT:=Int × Int × List aK × Int × Int × List aJ × Int × List Int
theorem coll2 {ns:List Nk} (x:Int) (T:PT) (r:List Nat):∀ (acc:List Nat) (a:Int) (f:Nat),kG ns a r → acc.length + r.length ≤ 1000 → r.length < f → fH x T ns f a (toI acc)=eG x (toI (acc ++ r)) fuel 0 T.1 T.2.1 T.2.2.1 T.2.2.2.1 T.2.2.2.2.1 ns T.2.2.2.2.2.2.1 T.2.2.2.2.2.2.2:=by
 induction r with
 | nil =>
   intro acc a f h _ hf
   obtain ⟨f,rfl⟩:∃ g,f=g + 1:=⟨f - 1,by simp at hf; omega⟩
   have h:a = -1:=h
   rw [fH,bndD,h,decide_eq_true rfl,Bool.not_true,bD,List.append_nil]
 | cons p r ih =>
   intro acc a f h ha hf
   obtain ⟨f,rfl⟩:∃ g,f=g + 1:=⟨f - 1,by simp at hf; omega⟩
   obtain ⟨h1,n,h2,h3⟩:=h
   simp at ha
   have hal:(toI acc).length=acc.length:=by unfold toI; simp
   rw [fH,bndD,h1,decide_eq_false (by omega),Bool.not_false,bM,eT,h2,bnoS,Int.toNat_natCast,h2,bnoS,kX (by simp; omega) (by simp; omega),bnoS]
   have:=ih (acc ++ [p]) n.next f h3 (by simp; omega) (by simpa using hf)
   rw [show toI (acc ++ [p])=toI acc ++ [(p:Int)] by unfold toI; simp] at this
   rw [this,List.append_assoc]; rfl
theorem coll4 {ns:List Nk} (x:Int) (T:PT) (r:List Nat):∀ (acc:List Nat) (a:Int) (f:Nat),kG ns a r → acc.length + r.length ≤ 1000 → r.length < f → fG x T ns f a (toI acc)=eF x (toI (acc ++ r)) fuel 0 T.1 T.2.1 T.2.2.1 T.2.2.2.1 T.2.2.2.2.1 ns T.2.2.2.2.2.2.1 T.2.2.2.2.2.2.2:=by
 induction r with
 | nil =>
   intro acc a f h _ hf
   obtain ⟨f,rfl⟩:∃ g,f=g + 1:=⟨f - 1,by simp at hf; omega⟩
   have h:a = -1:=h
   rw [fG,bndD,h,decide_eq_true rfl,Bool.not_true,bD,List.append_nil]
 | cons p r ih =>
   intro acc a f h ha hf
   obtain ⟨f,rfl⟩:∃ g,f=g + 1:=⟨f - 1,by simp at hf; omega⟩
   obtain ⟨h1,n,h2,h3⟩:=h
   simp at ha
   have hal:(toI acc).length=acc.length:=by unfold toI; simp
   rw [fG,bndD,h1,decide_eq_false (by omega),Bool.not_false,bM,eT,h2,bnoS,Int.toNat_natCast,h2,bnoS,kX (by simp; omega) (by simp; omega),bnoS]
   have:=ih (acc ++ [p]) n.next f h3 (by simp; omega) (by simpa using hf)
   rw [show toI (acc ++ [p])=toI acc ++ [(p:Int)] by unfold toI; simp] at this
   rw [this,List.append_assoc]; rfl
def tQ (ids:List Int) (d:Int) (n:Nd):Nd:=if n.ID ∈ ids then ⟨n.ID,d,n.Weight,n.Closed⟩ else n
theorem yK (d:Int) (N:List Nd):N.map (tQ [] d)=N:=by
 conv=>rhs; rw [← List.map_id N]
 exact List.map_congr_left fun n _=>by unfold tQ; rw [if_neg (by simp)]; rfl
theorem aAA (a d:Int) (ids:List Int) (N:List Nd):(N.map (mvN a d)).map (tQ ids d)=N.map (tQ (a :: ids) d):=by
 rw [List.map_map]
 refine List.map_congr_left fun n _=>?_
 show tQ ids d (mvN a d n)=tQ (a :: ids) d n
 unfold tQ
 rw [lE]
 unfold mvN
 by_cases h1:n.ID=a
 · rw [if_pos h1,if_pos (show n.ID ∈ a :: ids by simp [h1])]
   split <;> rfl
 · rw [if_neg h1]
   by_cases h2:n.ID ∈ ids
   · rw [if_pos h2,if_pos (show n.ID ∈ a :: ids by simp [h2])]
   · rw [if_neg h2,if_neg (by simp [h1,h2])]
theorem gixI {l:List Nat} {q r:List Nat} {p:Nat} (h:l=q ++ p :: r) (hl:l.length ≤ 1000):decide ((q.length:Int) < ((toI l).length:Int))=true ∧ gix (toI l) (q.length:Int)=some (p:Int) ∧ (toI l)[((q.length:Nat):Int).toNat]? = some (p:Int) ∧ IntKind.wrap .i64 ((q.length:Int) + 1)=((q ++ [p]).length:Int):=by
 have hI:toI l=toI q ++ (p:Int) :: toI r:=by rw [h]; unfold toI; simp
 have hql:(toI q).length=q.length:=by unfold toI; simp
 have hll:(toI l).length=l.length:=by unfold toI; simp
 have e1:=nJ hI
 have e2:=fS hI
 rw [hql] at e1 e2
 have hpl:q.length ≤ 1000:=by rw [h] at hl; simp at hl; omega
 exact ⟨e1,e2,by rw [eT] at e2; rw [Int.toNat_natCast]; exact e2,by rw [w64 (by omega) (by omega)]; simp⟩
theorem moves3 {A:AS} {sp:List Nat} {x:Nat} (hx:gK A x) (room keep:Int) (cl:List Int) {ks:List Nat} (hks:ks.length ≤ 1000) (hal:∀ p ∈ ks,gK A p) (r:List Nat):∀ (q:List Nat) (f:Nat) (ns:List Nk) (first:Int) (kids:Option Nat → List Nat) (N:List Nd),ks=q ++ r → r.length < f → RL A sp ns first kids N → (∀ u,¬ hdK A u → kids u=[]) →
 ∃ ns' first' kids',eG (x:Int) (toI ks) f (q.length:Int) room keep A.Cells A.Free A.Used ns first cl=some (room,keep,A.Cells,A.Free,A.Used,ns',first',cl) ∧ RL A sp ns' first' kids' (N.map (tQ ((r.filter (fun p=>decide (p ≠ x))).map (idP ns)) (idP ns x))) ∧ (∀ u,¬ hdK A u → kids' u=[]) ∧ ∀ p,idP ns' p=idP ns p:=by
 induction r with
 | nil =>
   intro q f ns first kids N h hf hR h0
   obtain ⟨f,rfl⟩:∃ g,f=g + 1:=⟨f - 1,by simp at hf; omega⟩
   rw [List.append_nil] at h
   refine ⟨ns,first,kids,?_,by rw [List.filter_nil,List.map_nil,yK]; exact hR,h0,fun _=>rfl⟩
   rw [eG,bndD,show (toI ks).length=q.length by unfold toI; rw [List.length_map,h],decide_eq_false (by omega),bD]
 | cons p r ih =>
   intro q f ns first kids N h hf hR h0
   obtain ⟨f,rfl⟩:∃ g,f=g + 1:=⟨f - 1,by simp at hf; omega⟩
   obtain ⟨e1,e2,e3,e4⟩:=gixI h hks
   have hp:gK A p:=hal p (by rw [h]; simp)
   rw [eG,bndD,e1,bM,e2,bnoS,e3,bnoS,bndD]
   by_cases hpx:p=x
   · subst hpx
     rw [decide_eq_true rfl,Bool.not_true,bD,bndD,e4]
     obtain ⟨ns',first',kids',g1,g2,g3,g4⟩:=ih (q ++ [p]) f ns first kids N (by rw [h]; simp) (by simpa using hf) hR h0
     refine ⟨ns',first',kids',g1,?_,g3,g4⟩
     rw [List.filter_cons_of_neg (by simp)]
     exact g2
   · rw [decide_eq_false (by omega),Bool.not_false,bM]
     obtain ⟨ns1,first1,kids1,m1,m2,m3,m4,_⟩:=vU hR h0 hp (u:=some x) hx (fun e=>hpx (by injection e with e; exact e.symm)) room keep cl
     have m1:eN (p:Int) (x:Int) room keep A.Cells A.Free A.Used ns first cl=_:=m1
     rw [m1,bnoS,bndD,e4]
     obtain ⟨ns',first',kids',g1,g2,g3,g4⟩:=ih (q ++ [p]) f ns1 first1 kids1 _ (by rw [h]; simp) (by simpa using hf) m2 m3
     refine ⟨ns',first',kids',g1,?_,g3,fun y=>(g4 y).trans (m4 y)⟩
     have hmap:(r.filter (fun p=>decide (p ≠ x))).map (idP ns1)=(r.filter (fun p=>decide (p ≠ x))).map (idP ns):=List.map_congr_left fun y _=>m4 y
     rw [hmap,m4 x] at g2
     rw [List.filter_cons_of_pos (by simp [hpx]),List.map_cons,← aAA]
     exact g2
theorem moves5 {A:AS} {sp:List Nat} {x:Nat} (hx:gK A x) (room keep:Int) (cl:List Int) {ks:List Nat} (hks:ks.length ≤ 1000) (hal:∀ p ∈ ks,gK A p) (r:List Nat):∀ (q:List Nat) (f:Nat) (ns:List Nk) (first:Int) (kids:Option Nat → List Nat) (N:List Nd),ks=q ++ r → r.length < f → RL A sp ns first kids N → (∀ u,¬ hdK A u → kids u=[]) →
 ∃ ns' first' kids',eF (x:Int) (toI ks) f (q.length:Int) room keep A.Cells A.Free A.Used ns first cl=some (room,keep,A.Cells,A.Free,A.Used,ns',first',cl) ∧ RL A sp ns' first' kids' (N.map (tQ ((r.filter (fun p=>decide (p ≠ x))).map (idP ns)) (idP ns x))) ∧ (∀ u,¬ hdK A u → kids' u=[]) ∧ ∀ p,idP ns' p=idP ns p:=by
 induction r with
 | nil =>
   intro q f ns first kids N h hf hR h0
   obtain ⟨f,rfl⟩:∃ g,f=g + 1:=⟨f - 1,by simp at hf; omega⟩
   rw [List.append_nil] at h
   refine ⟨ns,first,kids,?_,by rw [List.filter_nil,List.map_nil,yK]; exact hR,h0,fun _=>rfl⟩
   rw [eF,bndD,show (toI ks).length=q.length by unfold toI; rw [List.length_map,h],decide_eq_false (by omega),bD]
 | cons p r ih =>
   intro q f ns first kids N h hf hR h0
   obtain ⟨f,rfl⟩:∃ g,f=g + 1:=⟨f - 1,by simp at hf; omega⟩
   obtain ⟨e1,e2,e3,e4⟩:=gixI h hks
   have hp:gK A p:=hal p (by rw [h]; simp)
   rw [eF,bndD,e1,bM,e2,bnoS,e3,bnoS,bndD]
   by_cases hpx:p=x
   · subst hpx
     rw [decide_eq_true rfl,Bool.not_true,bD,bndD,e4]
     obtain ⟨ns',first',kids',g1,g2,g3,g4⟩:=ih (q ++ [p]) f ns first kids N (by rw [h]; simp) (by simpa using hf) hR h0
     refine ⟨ns',first',kids',g1,?_,g3,g4⟩
     rw [List.filter_cons_of_neg (by simp)]
     exact g2
   · rw [decide_eq_false (by omega),Bool.not_false,bM]
     obtain ⟨ns1,first1,kids1,m1,m2,m3,m4,_⟩:=vU hR h0 hp (u:=some x) hx (fun e=>hpx (by injection e with e; exact e.symm)) room keep cl
     have m1:eN (p:Int) (x:Int) room keep A.Cells A.Free A.Used ns first cl=_:=m1
     rw [m1,bnoS,bndD,e4]
     obtain ⟨ns',first',kids',g1,g2,g3,g4⟩:=ih (q ++ [p]) f ns1 first1 kids1 _ (by rw [h]; simp) (by simpa using hf) m2 m3
     refine ⟨ns',first',kids',g1,?_,g3,fun y=>(g4 y).trans (m4 y)⟩
     have hmap:(r.filter (fun p=>decide (p ≠ x))).map (idP ns1)=(r.filter (fun p=>decide (p ≠ x))).map (idP ns):=List.map_congr_left fun y _=>m4 y
     rw [hmap,m4 x] at g2
     rw [List.filter_cons_of_pos (by simp [hpx]),List.map_cons,← aAA]
     exact g2
end Go.Fn
open Go Go.IL
namespace Go.Fn
theorem yW {A:AS} {sp:List Nat} {ns:List Nk} {first:Int} {kids:Option Nat → List Nat} {N:List Nd} (h:RL A sp ns first kids N) (hpos:∀ m ∈ N,1 ≤ m.ID) {u v:Option Nat} (hu:hdK A u) (hv:hdK A v) (e:idU ns u=idU ns v):u=v:=by
 cases u with
 | none =>
   exact ((uW h hpos hv).1 e.symm).symm
 | some p=>cases v with
   | none=>exact (uW h hpos hu).1 e
   | some q=>rw [h.inj p q hu hv e]
theorem yL {A:AS} {sp:List Nat} {ns:List Nk} {first:Int} {kids:Option Nat → List Nat} {N:List Nd} (h:RL A sp ns first kids N) (hpos:∀ m ∈ N,1 ≤ m.ID) {u:Option Nat} (hu:hdK A u) {m:Nd} (hm:m ∈ N):m.ID ∈ (kids u).map (idP ns) ↔ m.Parent=idU ns u:=by
 obtain ⟨p,n,v,g1,g2,g3,g4,rfl⟩:=h.bw m hm
 obtain ⟨v',k1,k2,k3,k4⟩:=aCX h g1 g3
 have hvv:v'=v:=aAV (k2.symm.trans g4)
 subst hvv
 have hid:idP ns p=n.id:=cZ g3
 show n.id ∈ _ ↔ idU ns v'=idU ns u
 rw [List.mem_map]
 constructor
 · rintro ⟨q,hq,e⟩
   have hqa:=h.kid u q hu hq
   have hqp:q=p:=h.inj q p hqa g1 (by rw [e,hid])
   subst hqp
   rw [h.lk.dj v' u q k1 hu k3 hq]
 · intro e
   have:v'=u:=yW h hpos k1 hu e
   subst this
   exact ⟨p,k3,hid⟩
theorem tU {A:AS} {sp:List Nat} {ns:List Nk} {first:Int} {kids:Option Nat → List Nat} {N:List Nd} (h:RL A sp ns first kids N) (h0:∀ u,¬ hdK A u → kids u=[]) (hpos:∀ m ∈ N,1 ≤ m.ID) {x:Nat} (hx:gK A x) {u:Option Nat} (hu:hdK A u) (hux:u ≠ some x) (w:Int) (only:Bool) (room keep:Int) (cl:List Int) :
 ∃ ns' first' kids',gX (x:Int) (upI u) w only room keep A.Cells A.Free A.Used ns first cl=some (room,keep,A.Cells,A.Free,A.Used,ns',first',cl) ∧ RL A sp ns' first' kids' (N.map (iJ (idP ns x) (idU ns u) w only)) ∧ (∀ u,¬ hdK A u → kids' u=[]) ∧ ∀ p,idP ns' p=idP ns p:=by
 obtain ⟨ns1,first1,kids1,m1,m2,m3,m4,m5⟩:=vU h h0 hx hu hux room keep cl
 obtain ⟨v1,n1,a1,a2,a3,a4,a5⟩:=m2.up x hx
 obtain ⟨v0,n0,b1,b2,b3,b4,b5⟩:=h.up x hx
 obtain ⟨s1,s2⟩:=aB3 m2 hx a2 w n1.closed
 have hid1:∀ p,idP (ns1.set x (⟨n1.id,n1.up,n1.first,n1.next,w,n1.closed⟩:Nk)) p=idP ns p:=fun p=>(s2 p).trans (m4 p)
 -- whether it is closed
 have hcl:n1.closed=n0.closed:=by
  have hmem:=a5
  obtain ⟨m,hm,e⟩:=List.mem_map.1 hmem
  have hi:m.ID=(asN ns n0 v0).ID:=by
   have:(mvN (idP ns x) (idU ns u) m).ID=(asN ns1 n1 v1).ID:=by rw [e]
   rw [lE] at this
   rw [this]
   show n1.id=n0.id
   rw [← cZ a2,← cZ b2,m4]
  have hm0:=nZ h.so hm b5 hi
  subst hm0
  have:(mvN (idP ns x) (idU ns u) (asN ns n0 v0)).Closed=(asN ns1 n1 v1).Closed:=by rw [e]
  have h2:(mvN (idP ns x) (idU ns u) (asN ns n0 v0)).Closed=(asN ns n0 v0).Closed:=by unfold mvN; split <;> rfl
  rw [h2] at this
  exact this.symm
 have hxid:(asN ns n0 v0).ID=idP ns x:=(cZ b2).symm
 have base:∀ (o:Bool) (ids:List Int),(∀ n ∈ N,n.ID ≠ idP ns x → (n.ID ∈ ids ↔ o=true ∧ n.Parent=idU ns u)) → idP ns x ∉ ids → ((N.map (mvN (idP ns x) (idU ns u))).map (setN (idP ns1 x) w n1.closed)).map (tQ ids (idP ns x))=N.map (iJ (idP ns x) (idU ns u) w o):=by
  intro o ids h1 h2
  rw [List.map_map,List.map_map,m4 x]
  refine List.map_congr_left fun n hn=>?_
  show tQ ids (idP ns x) (setN (idP ns x) w n1.closed (mvN (idP ns x) (idU ns u) n))=_
  unfold iJ
  by_cases e:n.ID=idP ns x
  · have hnn:n=asN ns n0 v0:=nZ h.so hn b5 (e.trans hxid.symm)
    rw [if_pos e]
    unfold tQ
    rw [qA,lE,if_neg (by rw [e]; exact h2)]
    unfold setN
    rw [lE,if_pos e]
    unfold mvN
    rw [if_pos e]
    show (⟨n.ID,idU ns u,w,n1.closed⟩:Nd)=⟨n.ID,idU ns u,w,n.Closed⟩
    rw [hcl,hnn]; rfl
  · rw [if_neg e]
    unfold tQ
    rw [qA,lE]
    have hs:setN (idP ns x) w n1.closed (mvN (idP ns x) (idU ns u) n)=n:=by
     unfold setN
     rw [lE,if_neg e]
     unfold mvN
     rw [if_neg e]
    rw [hs]
    by_cases hc:o=true ∧ n.Parent=idU ns u
    · rw [if_pos ((h1 n hn e).2 hc),if_pos hc]
    · rw [if_neg (fun hm=>hc ((h1 n hn e).1 hm)),if_neg hc]
 unfold gX
 rw [m1,bnoS]
 show ∃ ns' first' kids',(bno (gix ns1 (x:Int)) fun x26=>chk (ns1.length=64) <| bno (ns1[((x:Int)).toNat]?) fun x28=>bnd (ns1.set ((x:Int).toNat) (⟨x28.id,x28.up,x28.first,x28.next,w,x28.closed⟩:Nk)) fun x29=>_)=_ ∧ _
 rw [eT,a2,bnoS,chk,if_pos m2.len,Int.toNat_natCast,a2,bnoS,bndD]
 cases only with
 | false =>
   refine ⟨_,first1,kids1,rfl,?_,m3,hid1⟩
   have:=base false [] (fun n _ _=>by simp) (by simp)
   rw [yK] at this
   rw [← this]
   exact s1
 | true =>
   rw [Bool.not_true,bD,bndD]
   -- the kids that move
   have hks:∀ p ∈ kids1 u,gK A p:=fun p hp=>m2.kid u p hu hp
   have hksl:(kids1 u).length ≤ 64:=m2.lk.size m2.len hu
   have hch:kG (ns1.set x (⟨n1.id,n1.up,n1.first,n1.next,w,n1.closed⟩:Nk)) (nT (ns1.set x (⟨n1.id,n1.up,n1.first,n1.next,w,n1.closed⟩:Nk)) first1 u) (kids1 u):=s1.lk.ch u hu
   have hids:∀ n ∈ N,n.ID ≠ idP ns x → (n.ID ∈ ((kids1 u).filter (fun p=>decide (p ≠ x))).map (idP (ns1.set x (⟨n1.id,n1.up,n1.first,n1.next,w,n1.closed⟩:Nk))) ↔ true=true ∧ n.Parent=idU ns u):=fun n hn hne=>by
    rw [show (true=true ∧ n.Parent=idU ns u) ↔ n.Parent=idU ns u from ⟨fun h=>h.2,fun h=>⟨rfl,h⟩⟩,← yL h hpos hu hn,List.mem_map,List.mem_map]
    constructor
    · rintro ⟨q,hq,e⟩
      have hq:=List.mem_filter.1 hq
      have hqx:q ≠ x:=of_decide_eq_true hq.2
      rcases (m5 u q).1 hq.1 with ⟨e2,_⟩ | ⟨_,hk⟩
      · exact absurd e2 hqx
      · exact ⟨q,hk,by rw [← hid1 q]; exact e⟩
    · rintro ⟨q,hq,e⟩
      have hqx:q ≠ x:=fun e2=>hne (by rw [← e,e2])
      exact ⟨q,List.mem_filter.2 ⟨(m5 u q).2 (.inr ⟨hqx,hq⟩),decide_eq_true hqx⟩,by rw [hid1 q]; exact e⟩
   have hnx:idP ns x ∉ ((kids1 u).filter (fun p=>decide (p ≠ x))).map (idP (ns1.set x (⟨n1.id,n1.up,n1.first,n1.next,w,n1.closed⟩:Nk))):=fun hm=>by
    obtain ⟨q,hq,e⟩:=List.mem_map.1 hm
    have hq:=List.mem_filter.1 hq
    have hqx:q ≠ x:=of_decide_eq_true hq.2
    exact hqx (h.inj q x (hks q hq.1) hx (by rw [← hid1 q]; exact e))
   have hfin:=base true _ hids hnx
   have T:PT:=(room,keep,A.Cells,A.Free,A.Used,ns1,first1,cl)
   cases u with
   | none =>
     rw [show decide (upI none = -1)=true from rfl,bM]
     obtain ⟨ns',first',kids',g1,g2,g3,g4⟩:=moves3 (sp:=sp) hx room keep cl (ks:=kids1 none) (by omega) hks (kids1 none) [] fuel _ first1 kids1 _ rfl (eU (by omega)) s1 m3
     refine ⟨ns',first',kids',?_,?_,g3,fun p=>(g4 p).trans (hid1 p)⟩
     · refine Eq.trans (coll2 (x:Int) (room,keep,A.Cells,A.Free,A.Used,ns1,first1,cl) (kids1 none) [] first1 fuel hch (by simp; omega) (eU (by omega))) ?_
       exact g1
     · rw [← hfin]
       rw [hid1 x] at g2
       exact g2
   | some q =>
     obtain ⟨nq,hq⟩:=s1.lk.at' q hu
     rw [show decide (upI (some q) = -1)=false from decide_eq_false (show ¬ (q:Int) = -1 by omega),bD,show upI (some q)=(q:Int) from rfl,eT,hq,bnoS,Int.toNat_natCast,hq,bnoS]
     obtain ⟨ns',first',kids',g1,g2,g3,g4⟩:=moves5 (sp:=sp) hx room keep cl (ks:=kids1 (some q)) (by omega) hks (kids1 (some q)) [] fuel _ first1 kids1 _ rfl (eU (by omega)) s1 m3
     rw [nE hq] at hch
     refine ⟨ns',first',kids',?_,?_,g3,fun p=>(g4 p).trans (hid1 p)⟩
     · refine Eq.trans (coll4 (x:Int) (room,keep,A.Cells,A.Free,A.Used,ns1,first1,cl) (kids1 (some q)) [] nq.first fuel hch (by simp; omega) (eU (by omega))) ?_
       exact g1
     · rw [← hfin]
       rw [hid1 x] at g2
       exact g2
end Go.Fn
open Go Go.IL
namespace Go.Fn
abbrev Ws:=gE
def mR (N:List Nd) (w:Ws):Ws:=if w.dep ≠ 0 ∧ ∀ m ∈ N,m.ID ≠ w.dep then ⟨0,16,false⟩ else w
def upN (N:List Nd) (x d:Int):List Nd:=if d ≠ 0 ∧ x ∈ fO N N.length d then N.map (mvN d ((oI N x).getD 0)) else N
def mV (N:List Nd) (x:Int) (w:Ws):List Nd:=(upN N x (mR N w).dep).map (iJ x (mR N w).dep (mR N w).weight (mR N w).only)
theorem aDS {N:List Nd} {r:Int → Nat} (hr:∀ m ∈ N,m.Parent ≠ 0 → r m.Parent < r m.ID) {k:Nat} {z x:Int} (h:x ∈ fO N k z):r x < r z:=sK hr k z x h
theorem tV {A:AS} {sp:List Nat} {ns:List Nk} {first:Int} {kids:Option Nat → List Nat} {N:List Nd} (h:RL A sp ns first kids N) (h0:∀ u,¬ hdK A u → kids u=[]) (hpos:∀ m ∈ N,1 ≤ m.ID) (hN:N.length ≤ 64) {r:Int → Nat} (hr:∀ m ∈ N,m.Parent ≠ 0 → r m.Parent < r m.ID) (hpa:∀ m ∈ N,m.Parent=0 ∨ ∃ x ∈ N,x.ID=m.Parent) {x:Nat} (hx:gK A x) {u:Option Nat} (hu:hdK A u) (hux:u ≠ some x) (v6 w:Int) (only:Bool) (room keep:Int) (cl:List Int) :
 ∃ ns' first' kids',gY (x:Int) room keep A.Cells A.Free A.Used ns first cl (upI u) v6 w only=some (room,keep,A.Cells,A.Free,A.Used,ns',first',cl) ∧ RL A sp ns' first' kids' ((upN N (idP ns x) (idU ns u)).map (iJ (idP ns x) (idU ns u) w only)) ∧ (∀ u,¬ hdK A u → kids' u=[]) ∧ ∀ p,idP ns' p=idP ns p:=by
 obtain ⟨v,n,b1,b2,b3,b4,b5⟩:=h.up x hx
 unfold gY
 rw [bndD]
 cases u with
 | none =>
   rw [show decide (upI none = -1)=true from rfl,Bool.not_true,show ((false == true):Bool)=false from rfl,gdff,bnoS,bndD,Bool.false_and,bD]
   obtain ⟨ns',first',kids',g1,g2,g3,g4⟩:=tU h h0 hpos hx (u:=none) hu hux w only room keep cl
   refine ⟨ns',first',kids',g1,?_,g3,g4⟩
   have:upN N (idP ns x) (idU ns none)=N:=if_neg (fun hh=>hh.1 rfl)
   rw [this]; exact g2
 | some q =>
   have hqx:q ≠ x:=fun e=>hux (by rw [e])
   have hne:idU ns (some q) ≠ 0:=fun e=>by have:=(uW h hpos hu).1 e; cases this
   rw [show decide (upI (some q) = -1)=false from decide_eq_false (show ¬ (q:Int) = -1 by omega),Bool.not_false,beq_self_eq_true,gdtt,show upI (some q)=(q:Int) from rfl,aDJ h hpos hN hr hpa (p:=q) (t:=x) hu hx,bnoS,bndD,Bool.true_and]
   by_cases hm:idP ns x ∈ fO N N.length (idP ns q)
   · rw [decide_eq_true hm,bM,eT,b2,bnoS,chk,if_pos h.len,Int.toNat_natCast,b2,bnoS,b3]
     have hlow:=aDS hr hm
     have hvq:v ≠ some q:=fun e=>by
      subst e
      have hpar:(asN ns n (some q)).Parent=idP ns q:=rfl
      have:=hr _ b5 (by rw [hpar]; exact hne)
      have h2:r (idP ns q) < r (idP ns x):=by rw [cZ b2]; exact this
      omega
     obtain ⟨ns1,first1,kids1,m1,m2,m3,m4,m5⟩:=vU h h0 (p:=q) hu (u:=v) b1 hvq room keep cl
     rw [m1,bnoS]
     have hpos1:∀ m ∈ N.map (mvN (idP ns q) (idU ns v)),1 ≤ m.ID:=fun m hm=>by
      obtain ⟨m0,hm0,rfl⟩:=List.mem_map.1 hm
      rw [lE]; exact hpos m0 hm0
     obtain ⟨ns',first',kids',g1,g2,g3,g4⟩:=tU m2 m3 hpos1 hx (u:=some q) hu hux w only room keep cl
     refine ⟨ns',first',kids',g1,?_,g3,fun p=>(g4 p).trans (m4 p)⟩
     have hpo:oI N (idP ns x)=some (idU ns v):=vP h hx b2 b3
     have hup:upN N (idP ns x) (idU ns (some q))=N.map (mvN (idP ns q) (idU ns v)):=by
      unfold upN
      rw [if_pos ⟨hne,hm⟩,hpo]; rfl
     have hU:idU ns1 (some q)=idU ns (some q):=m4 q
     rw [m4 x,hU] at g2
     rw [hup]; exact g2
   · rw [decide_eq_false hm,bD]
     obtain ⟨ns',first',kids',g1,g2,g3,g4⟩:=tU h h0 hpos hx (u:=some q) hu hux w only room keep cl
     refine ⟨ns',first',kids',g1,?_,g3,g4⟩
     have:upN N (idP ns x) (idU ns (some q))=N:=if_neg (fun hh=>hm hh.2)
     rw [this]; exact g2
theorem aBF {A:AS} {sp:List Nat} {ns:List Nk} {first:Int} {kids:Option Nat → List Nat} {N:List Nd} (h:RL A sp ns first kids N) (h0:∀ u,¬ hdK A u → kids u=[]) (hpos:∀ m ∈ N,1 ≤ m.ID) (hN:N.length ≤ 64) {r:Int → Nat} (hr:∀ m ∈ N,m.Parent ≠ 0 → r m.Parent < r m.ID) (hpa:∀ m ∈ N,m.Parent=0 ∨ ∃ x ∈ N,x.ID=m.Parent) {x:Nat} (hx:gK A x) (w:Ws) (hw:w.dep ≠ idP ns x) (hw0:0 ≤ w.dep) (room keep:Int) (cl:List Int) :
 ∃ ns' first' kids',gQ (x:Int) w room keep A.Cells A.Free A.Used ns first cl=some (room,keep,A.Cells,A.Free,A.Used,ns',first',cl) ∧ RL A sp ns' first' kids' (mV N (idP ns x) w) ∧ (∀ u,¬ hdK A u → kids' u=[]) ∧ ∀ p,idP ns' p=idP ns p:=by
 unfold gQ
 rcases aC2 h w.dep room keep cl with ⟨q,f1,f2,f3⟩ | ⟨f1,f3⟩
 · have hq0:w.dep ≠ 0:=fun e=>by
    obtain ⟨u,n,_,g2,_,_,g5⟩:=h.up q f1
    have:=hpos _ g5
    have h2:1 ≤ n.id:=this
    rw [cZ g2] at f2; omega
   have hwS:mR N w=w:=by
    unfold mR
    rw [if_neg]
    rintro ⟨_,hno⟩
    obtain ⟨u,n,_,g2,_,_,g5⟩:=h.up q f1
    exact hno _ g5 (by show n.id=w.dep; rw [← cZ g2]; exact f2)
   rw [f3,bnoS,bndD,decide_eq_false (show ¬ (q:Int) = -1 by omega),bndD,bndD,Bool.false_and,bD]
   have hux:(some q:Option Nat) ≠ some x:=fun e=>by injection e with e; exact hw (by rw [← f2,e])
   obtain ⟨ns',first',kids',g1,g2,g3,g4⟩:=tV h h0 hpos hN hr hpa hx (u:=some q) f1 hux w.dep w.weight w.only room keep cl
   refine ⟨ns',first',kids',g1,?_,g3,g4⟩
   unfold mV
   rw [hwS,← f2]; exact g2
 · rw [f3,bnoS,bndD,decide_eq_true rfl,bndD,bndD,Bool.true_and]
   have hno:∀ m ∈ N,m.ID ≠ w.dep:=fun m hm e=>by
    obtain ⟨p,n,u,g1,_,g3,_,rfl⟩:=h.bw m hm
    exact f1 p g1 ((cZ g3).trans e)
   by_cases hd:w.dep=0
   · rw [decide_eq_true hd,Bool.not_true,bD]
     have hwS:mR N w=w:=if_neg (fun hh=>hh.1 hd)
     obtain ⟨ns',first',kids',g1,g2,g3,g4⟩:=tV h h0 hpos hN hr hpa hx (u:=none) trivial (by simp) w.dep w.weight w.only room keep cl
     refine ⟨ns',first',kids',g1,?_,g3,g4⟩
     unfold mV
     rw [hwS,hd]; exact g2
   · rw [decide_eq_false hd,Bool.not_false,bM]
     have hwS:mR N w=⟨0,16,false⟩:=if_pos ⟨hd,hno⟩
     obtain ⟨ns',first',kids',g1,g2,g3,g4⟩:=tV h h0 hpos hN hr hpa hx (u:=none) trivial (by simp) 0 16 false room keep cl
     refine ⟨ns',first',kids',g1,?_,g3,g4⟩
     unfold mV
     rw [hwS]; exact g2
end Go.Fn
open Go Go.IL
namespace Go.Fn
def wsum (ns:List Nk) (l:List Nat):Int:=(l.map fun p=>(ns.getD p default).weight).sum
theorem xB:∀ (N:List Nd) (id:Int),sumS N id=((N.filter (fun n=>decide (n.Parent=id))).map (fun n=>n.Weight)).sum
 | [],_=>rfl
 | n :: N,id=>by
   have ih:=xB N id
   show (if n.Parent=id then n.Weight else 0) + sumS N id=_
   by_cases h:n.Parent=id
   · rw [if_pos h,List.filter_cons_of_pos (by simp [h]),List.map_cons,List.sum_cons,ih]
   · rw [if_neg h,List.filter_cons_of_neg (by simp [h]),ih]; omega
theorem aDR {l m:List Int} (h:l.Perm m):l.sum=m.sum:=by
 induction h with
 | nil=>rfl
 | cons x _ ih=>rw [List.sum_cons,List.sum_cons,ih]
 | swap x y l=>rw [List.sum_cons,List.sum_cons,List.sum_cons,List.sum_cons]; omega
 | trans _ _ h1 h2=>exact h1.trans h2
theorem ws_sum {A:AS} {sp:List Nat} {ns:List Nk} {first:Int} {kids:Option Nat → List Nat} {N:List Nd} (h:RL A sp ns first kids N) (hpos:∀ m ∈ N,1 ≤ m.ID) {x:Nat} (hx:gK A x):wsum ns (kids (some x))=sumS N (idP ns x):=by
 rw [xB]
 have hk:∀ p ∈ kids (some x),gK A p:=fun p hp=>h.kid (some x) p hx hp
 have hnode:∀ p ∈ kids (some x),asN ns (ns.getD p default) (some x) ∈ N:=fun p hp=>by
  obtain ⟨u,n,g1,g2,g3,g4,g5⟩:=h.up p (hk p hp)
  have hu:u=some x:=h.lk.dj u (some x) p g1 hx g4 hp
  subst hu
  rw [List.getD_eq_getElem?_getD,g2]; exact g5
 have hmap:(kids (some x)).map (fun p=>(ns.getD p default).weight)=((kids (some x)).map (fun p=>asN ns (ns.getD p default) (some x))).map (fun n=>n.Weight):=by rw [List.map_map]; rfl
 have hp:((kids (some x)).map (fun p=>asN ns (ns.getD p default) (some x))).Perm (N.filter (fun n=>decide (n.Parent=idP ns x))):=by
  refine (List.perm_ext_iff_of_nodup ?_ ?_).2 fun m=>?_
  · refine List.pairwise_map.2 ((h.lk.nd (some x) hx).imp_of_mem fun {p q} hp hq hne e=>hne ?_)
    exact h.inj p q (hk p hp) (hk q hq) (congrArg (·.ID) e)
  · refine List.Pairwise.filter _ ?_
    exact h.so.imp fun hab e=>by rw [e] at hab; omega
  · rw [List.mem_map,List.mem_filter]
    constructor
    · rintro ⟨p,hp,rfl⟩
      exact ⟨hnode p hp,decide_eq_true rfl⟩
    · rintro ⟨hm,hd⟩
      have hpar:m.Parent=idU ns (some x):=of_decide_eq_true hd
      obtain ⟨p,hp,e⟩:=List.mem_map.1 ((yL h hpos (u:=some x) hx hm).2 hpar)
      refine ⟨p,hp,nZ h.so (hnode p hp) hm e⟩
 unfold wsum
 rw [hmap]
 exact aDR (hp.map _)
theorem off8 {ns:List Nk} {x:Nat} {room keep:Int} {C:List AC} {F U first:Int} {cl:List Int} (r:List Nat):∀ (a acc:Int) (f:Nat),kG ns a r → (∀ p ∈ r,0 ≤ (ns.getD p default).weight ∧ (ns.getD p default).weight ≤ 256) → 0 ≤ acc → acc + 256 * r.length ≤ 1000000 → r.length < f → gB (x:Int) room keep C F U ns first cl f a acc=iN (x:Int) room keep C F U ns first cl (acc + wsum ns r):=by
 induction r with
 | nil =>
   intro a acc f h _ _ _ hf
   obtain ⟨f,rfl⟩:∃ g,f=g + 1:=⟨f - 1,by simp at hf; omega⟩
   have h:a = -1:=h
   rw [gB,bndD,h,decide_eq_true rfl,Bool.not_true,bD]
   simp [wsum]
 | cons p r ih =>
   intro a acc f h hw ha hb hf
   obtain ⟨f,rfl⟩:∃ g,f=g + 1:=⟨f - 1,by simp at hf; omega⟩
   obtain ⟨h1,n,h2,h3⟩:=h
   have hwp:=hw p (by simp)
   have hgn:ns.getD p default=n:=by rw [List.getD_eq_getElem?_getD,h2]; rfl
   rw [hgn] at hwp
   simp at hb
   rw [gB,bndD,h1,decide_eq_false (by omega),Bool.not_false,bM,eT,h2,bnoS,Int.toNat_natCast,h2,bnoS,bnoS,bnoS,bndD,w64 (by omega) (by omega)]
   rw [ih n.next (acc + n.weight) f h3 (fun q hq=>hw q (by simp [hq])) (by omega) (by omega) (by simpa using hf)]
   congr 1
   unfold wsum
   rw [List.map_cons,List.sum_cons,hgn]; omega
theorem coll5 {ns:List Nk} {x:Nat} {room keep S:Int} {C:List AC} {F U first:Int} {cl:List Int} (r:List Nat):∀ (acc:List Nat) (a:Int) (f:Nat),kG ns a r → acc.length + r.length ≤ 1000 → r.length < f → gC (x:Int) room keep C F U ns first cl S f a (toI acc)=cY (x:Int) S (toI (acc ++ r)) fuel 0 room keep C F U ns first cl:=by
 induction r with
 | nil =>
   intro acc a f h _ hf
   obtain ⟨f,rfl⟩:∃ g,f=g + 1:=⟨f - 1,by simp at hf; omega⟩
   have h:a = -1:=h
   rw [gC,bndD,h,decide_eq_true rfl,Bool.not_true,bD,List.append_nil]
 | cons p r ih =>
   intro acc a f h ha hf
   obtain ⟨f,rfl⟩:∃ g,f=g + 1:=⟨f - 1,by simp at hf; omega⟩
   obtain ⟨h1,n,h2,h3⟩:=h
   simp at ha
   have hal:(toI acc).length=acc.length:=by unfold toI; simp
   rw [gC,bndD,h1,decide_eq_false (by omega),Bool.not_false,bM,eT,h2,bnoS,Int.toNat_natCast,h2,bnoS,kX (by simp; omega) (by simp; omega),bnoS]
   have:=ih (acc ++ [p]) n.next f h3 (by simp; omega) (by simpa using hf)
   rw [show toI (acc ++ [p])=toI acc ++ [(p:Int)] by unfold toI; simp] at this
   rw [this,List.append_assoc]; rfl
end Go.Fn
open Go Go.IL
namespace Go.Fn
theorem yH {A:AS} {sp:List Nat} {ns:List Nk} {first:Int} {kids:Option Nat → List Nat} {N:List Nd} (h:RL A sp ns first kids N) {p:Nat} (hp:gK A p) {m:Nd} (hm:m ∈ N) (e:m.ID=idP ns p):∃ n u,ns[p]? = some n ∧ hdK A u ∧ n.up=upI u ∧ m=asN ns n u:=by
 obtain ⟨u,n,h1,h2,h3,h4,h5⟩:=h.up p hp
 refine ⟨n,u,h2,h1,h3,nZ h.so hm h5 ?_⟩
 rw [e,cZ h2]; rfl
def upsN (ids:List Int) (d W S:Int) (n:Nd):Nd:=if n.ID ∈ ids then ⟨n.ID,d,max (W * n.Weight / S) 1,n.Closed⟩ else n
theorem xX (ids:List Int) (d W S:Int) (n:Nd):(upsN ids d W S n).ID=n.ID:=by unfold upsN; split <;> rfl
theorem aBs (d W S:Int) (N:List Nd):N.map (upsN [] d W S)=N:=by
 conv=>rhs; rw [← List.map_id N]
 exact List.map_congr_left fun n _=>by unfold upsN; rw [if_neg (by simp)]; rfl
theorem aDH {a:Int} {ids:List Int} (ha:a ∉ ids) (d W S w:Int) (c:Bool) {N:List Nd} (hso:N.Pairwise (fun a b=>a.ID < b.ID)) {m:Nd} (hm:m ∈ N) (hma:m.ID=a) (hw:w=max (W * m.Weight / S) 1) (hc:c=m.Closed):((N.map (setN a w c)).map (mvN a d)).map (upsN ids d W S)=N.map (upsN (a :: ids) d W S):=by
 rw [List.map_map,List.map_map]
 refine List.map_congr_left fun n hn=>?_
 show upsN ids d W S (mvN a d (setN a w c n))=upsN (a :: ids) d W S n
 by_cases h1:n.ID=a
 · have hnm:n=m:=nZ hso hn hm (h1.trans hma.symm)
   subst hnm
   have e1:mvN a d (setN a w c n)=⟨n.ID,d,w,c⟩:=by
    unfold mvN
    rw [qA,if_pos h1]
    unfold setN
    rw [if_pos h1]
   rw [e1]
   unfold upsN
   rw [if_neg (show n.ID ∉ ids from h1 ▸ ha),if_pos (show n.ID ∈ a :: ids by simp [h1]),hw,hc]
 · have e1:mvN a d (setN a w c n)=n:=by
    unfold mvN
    rw [qA,if_neg h1]
    unfold setN
    rw [if_neg h1]
   rw [e1]
   unfold upsN
   by_cases h2:n.ID ∈ ids
   · rw [if_pos h2,if_pos (by simp [h2])]
   · rw [if_neg h2,if_neg (by simp [h1,h2])]
theorem off6 {A:AS} {sp:List Nat} {x:Nat} (hx:gK A x) (room keep:Int) (cl:List Int) {S:Int} (hS:1 ≤ S) {v:Option Nat} (hv:hdK A v) {W:Int} (hW:1 ≤ W ∧ W ≤ 256) {cx:Bool} {ks:List Nat} (hks:ks.length ≤ 64) (hal:∀ p ∈ ks,gK A p) (hkx:∀ p ∈ ks,p ≠ x) (hkv:∀ p ∈ ks,v ≠ some p) (hkn:ks.Nodup) (r:List Nat):∀ (q:List Nat) (f:Nat) (ns:List Nk) (first:Int) (kids:Option Nat → List Nat) (N:List Nd),ks=q ++ r → r.length < f → RL A sp ns first kids N → (∀ u,¬ hdK A u → kids u=[]) → (∀ m ∈ N,1 ≤ m.ID) → (∀ m ∈ N,1 ≤ m.Weight ∧ m.Weight ≤ 256) → (∀ m ∈ N,m.ID ∈ r.map (idP ns) → m.Weight ≤ S) → (⟨idP ns x,idU ns v,W,cx⟩:Nd) ∈ N →
 ∃ ns' first' kids' f',cY (x:Int) S (toI ks) f (q.length:Int) room keep A.Cells A.Free A.Used ns first cl=cY (x:Int) S (toI ks) (f' + 1) (ks.length:Int) room keep A.Cells A.Free A.Used ns' first' cl ∧ RL A sp ns' first' kids' (N.map (upsN (r.map (idP ns)) (idU ns v) W S)) ∧ (∀ u,¬ hdK A u → kids' u=[]) ∧ (∀ p,idP ns' p=idP ns p) ∧ ∀ u p,(p ∉ r) → (p ∈ kids' u ↔ p ∈ kids u):=by
 induction r with
 | nil =>
   intro q f ns first kids N h hf hR h0 hpos hw hle hxN
   obtain ⟨f,rfl⟩:∃ g,f=g + 1:=⟨f - 1,by simp at hf; omega⟩
   rw [List.append_nil] at h
   exact ⟨ns,first,kids,f,by rw [h],by rw [List.map_nil,aBs]; exact hR,h0,fun _=>rfl,fun _ _ _=>Iff.rfl⟩
 | cons p r ih =>
   intro q f ns first kids N h hf hR h0 hpos hw hle hxN
   obtain ⟨f,rfl⟩:∃ g,f=g + 1:=⟨f - 1,by simp at hf; omega⟩
   obtain ⟨e1,e2,e3,e4⟩:=gixI h (by omega)
   have hpm:p ∈ ks:=by rw [h]; simp
   have hp:=hal p hpm
   have hpx:=hkx p hpm
   obtain ⟨nx,vx,x1,x2,x3,x4⟩:=yH hR hx hxN rfl
   have hvx:vx=v:=yW hR hpos x2 hv (congrArg (·.Parent) x4).symm
   subst hvx
   have hxw:nx.weight=W:=(congrArg (·.Weight) x4).symm
   obtain ⟨up,np,p1,p2,p3,p4,p5⟩:=hR.up p hp
   have hwp:=hw _ p5
   have hwp:1 ≤ np.weight ∧ np.weight ≤ 256:=hwp
   have hprod:0 ≤ nx.weight * np.weight ∧ nx.weight * np.weight ≤ 65536:=by
    rw [hxw]
    constructor
    · exact Int.mul_nonneg (by omega) (by omega)
    · calc W * np.weight ≤ 256 * 256:=Int.mul_le_mul hW.2 hwp.2 (by omega) (by decide)
       _=65536:=by decide
   have hquo:quoI .i64 (nx.weight * np.weight) S=some (W * np.weight / S):=by
    rw [quo_ok hprod.1 (by omega) (by omega),hxw]
   obtain ⟨s1,s2⟩:=aB3 hR hp p2 (max (W * np.weight / S) 1) np.closed
   have hx1:(ns.set p (⟨np.id,np.up,np.first,np.next,max (W * np.weight / S) 1,np.closed⟩:Nk))[x]? = some nx:=by rw [List.getElem?_set_ne hpx]; exact x1
   obtain ⟨ns1,first1,kids1,m1,m2,m3,m4,m5⟩:=vU s1 h0 hp (u:=vx) hv (hkv p hpm) room keep cl
   have hidp:∀ y,idP ns1 y=idP ns y:=fun y=>(m4 y).trans (s2 y)
   have hidU:∀ u,idU ns1 u=idU ns u:=fun u=>by cases u with
    | none=>rfl
    | some y=>exact hidp y
   have hidU2:idU (ns.set p (⟨np.id,np.up,np.first,np.next,max (W * np.weight / S) 1,np.closed⟩:Nk)) vx=idU ns vx:=by cases vx with
    | none=>rfl
    | some y=>exact s2 y
   rw [s2 p,hidU2] at m2
   have himg:∀ m ∈ (N.map (setN (idP ns p) (max (W * np.weight / S) 1) np.closed)).map (mvN (idP ns p) (idU ns vx)),1 ≤ m.ID ∧ 1 ≤ m.Weight ∧ m.Weight ≤ 256:=fun m hm=>by
    obtain ⟨m1,hm1,rfl⟩:=List.mem_map.1 hm
    obtain ⟨m0,hm0,rfl⟩:=List.mem_map.1 hm1
    have hmw:(mvN (idP ns p) (idU ns vx) (setN (idP ns p) (max (W * np.weight / S) 1) np.closed m0)).Weight=(setN (idP ns p) (max (W * np.weight / S) 1) np.closed m0).Weight:=by unfold mvN; split <;> rfl
    rw [lE,qA,hmw]
    refine ⟨hpos m0 hm0,?_⟩
    unfold setN
    split
    · show 1 ≤ max (W * np.weight / S) 1 ∧ max (W * np.weight / S) 1 ≤ 256
      have hws:np.weight ≤ S:=hle _ p5 (by rw [show ((asN ns np up:Nd)).ID=idP ns p from (cZ p2).symm]; simp)
      have:W * np.weight / S ≤ 256:=Int.ediv_le_of_le_mul (by omega) (Int.mul_le_mul hW.2 hws (by omega) (by decide))
      omega
    · exact hw m0 hm0
   have hmap:r.map (idP ns1)=r.map (idP ns):=List.map_congr_left fun y _=>hidp y
   have hnr:p ∉ r:=fun hm=>by
    rw [h] at hkn
    exact (List.nodup_cons.1 (List.nodup_append.1 hkn).2.1).1 hm
   have hnid:idP ns p ∉ r.map (idP ns):=fun hm=>by
    obtain ⟨y,hy,e⟩:=List.mem_map.1 hm
    have hya:=hal y (by rw [h]; simp [hy])
    exact hnr (hR.inj y p hya hp e ▸ hy)
   have himl:∀ m ∈ (N.map (setN (idP ns p) (max (W * np.weight / S) 1) np.closed)).map (mvN (idP ns p) (idU ns vx)),m.ID ∈ r.map (idP ns1) → m.Weight ≤ S:=fun m hm=>by
    obtain ⟨m1,hm1,rfl⟩:=List.mem_map.1 hm
    obtain ⟨m0,hm0,rfl⟩:=List.mem_map.1 hm1
    have hmw:(mvN (idP ns p) (idU ns vx) (setN (idP ns p) (max (W * np.weight / S) 1) np.closed m0)).Weight=(setN (idP ns p) (max (W * np.weight / S) 1) np.closed m0).Weight:=by unfold mvN; split <;> rfl
    rw [lE,qA,hmw,hmap]
    intro hmi
    have hne:m0.ID ≠ idP ns p:=fun e=>hnid (e ▸ hmi)
    unfold setN
    rw [if_neg hne]
    exact hle m0 hm0 (by rw [List.map_cons]; exact List.mem_cons_of_mem _ hmi)
   have hxN1:(⟨idP ns1 x,idU ns1 vx,W,cx⟩:Nd) ∈ (N.map (setN (idP ns p) (max (W * np.weight / S) 1) np.closed)).map (mvN (idP ns p) (idU ns vx)):=by
    rw [hidp x,hidU vx]
    have hne:idP ns x ≠ idP ns p:=fun e=>hpx (hR.inj x p hx hp e).symm
    refine List.mem_map.2 ⟨_,List.mem_map.2 ⟨_,hxN,rfl⟩,?_⟩
    unfold mvN
    rw [qA,if_neg hne]
    unfold setN
    rw [if_neg hne]
   obtain ⟨ns',first',kids',f',g1,g2,g3,g4,g5⟩:=ih (q ++ [p]) f ns1 first1 kids1 _ (by rw [h]; simp) (by simpa using hf) m2 m3 (fun m hm=>(himg m hm).1) (fun m hm=>(himg m hm).2) himl hxN1
   refine ⟨ns',first',kids',f',?_,?_,g3,fun y=>(g4 y).trans (hidp y),fun u y hy=>?_⟩
   · rw [cY,bndD,e1,bM,e2,bnoS,e3,bnoS,eT,x1,bnoS,chk,if_pos hR.len,Int.toNat_natCast,x1,bnoS,eT,p2,bnoS,Int.toNat_natCast,p2,bnoS,bndD,w64 (by omega) (by omega),hquo,bnoS,bndD,bnoS,bnoS,bndD,eT,hx1,bnoS,bnoS,x3,m1,bnoS,bndD,e4]
     exact g1
   · rw [hmap,hidU vx] at g2
     rw [List.map_cons,← aDH hnid (idU ns vx) W S (max (W * np.weight / S) 1) np.closed hR.so p5 (cZ p2).symm rfl rfl]
     exact g2
   · simp at hy
     rw [g5 u y hy.2,m5 u y]
     constructor
     · rintro (⟨e,_⟩ | ⟨_,hm⟩)
       · exact absurd e hy.1
       · exact hm
     · exact fun hm=>.inr ⟨hy.1,hm⟩
end Go.Fn
open Go Go.IL
namespace Go.Fn
theorem del19 {E:List Int} {id:Int} (hl:E.length ≤ 100000):dH E id=some (E.filter fun y=>!decide (y=id)) :=
 rT (P:=fun x=>lS x id) (q:=fun y=>decide (y=id)) (I:=dG E id) (L:=cL id) (fun _=>rfl) (fun _ _=>rfl) (fun _ _ _ _=>rfl) hl
theorem mQ {A:AS} {x:Nat} (hx:gK A x) (p:Nat):gK (pJ A x) p ↔ gK A p ∧ p ≠ x:=by
 obtain ⟨c,hc,_⟩:=hx
 unfold gK pJ
 by_cases e:p=x
 · subst e
   rw [List.getElem?_set_self (List.getElem?_eq_some_iff.1 hc).1]
   constructor
   · rintro ⟨d,hd,hl⟩
     injection hd with hd
     subst hd
     cases hl
   · exact fun h=>absurd rfl h.2
 · rw [List.getElem?_set_ne (Ne.symm e)]
   exact ⟨fun h=>⟨h,e⟩,fun h=>h.1⟩
theorem qJ {A:AS} {x:Nat} (hx:gK A x) (u:Option Nat):hdK (pJ A x) u ↔ hdK A u ∧ u ≠ some x:=by
 cases u with
 | none=>exact ⟨fun h=>⟨h,nofun⟩,fun h=>h.1⟩
 | some p =>
   constructor
   · exact fun h=>⟨((mQ hx p).1 h).1,fun e=>((mQ hx p).1 h).2 (Option.some.inj e)⟩
   · exact fun h=>(mQ hx p).2 ⟨h.1,fun e=>h.2 (e ▸ rfl)⟩
theorem gone_ok {A:AS} {sp:List Nat} {ns:List Nk} {first:Int} {kids:Option Nat → List Nat} {N:List Nd} (h:RL A sp ns first kids N) (h0:∀ u,¬ hdK A u → kids u=[]) {x:Nat} (hx:gK A x) (hk:kids (some x)=[]) (room keep:Int) {cl:List Int} (hcl:cl.length ≤ 100000) {S:Int} {ks:List Nat} (hks:ks.length ≤ 1000) (f:Nat) :
 ∃ ns' first' kids',cY (x:Int) S (toI ks) (f + 1) (ks.length:Int) room keep A.Cells A.Free A.Used ns first cl=some (room,keep,(pJ A x).Cells,(pJ A x).Free,(pJ A x).Used,ns',first',cl.filter fun y=>!decide (y=(x:Int))) ∧ RL (pJ A x) (x :: sp) ns' first' kids' (N.filter fun n=>!decide (n.ID=idP ns x)) ∧ (∀ u,¬ hdK (pJ A x) u → kids' u=[]) ∧ (∀ q,idP ns' q=idP ns q):=by
 obtain ⟨u,nx,a1,a2,a3,a4,a5,a6⟩:=h.par hx
 obtain ⟨ns1,first1,b1,b2,b3,b4⟩:=zJ h.len h.lk a1 a2 a3 a4 room keep A.Cells A.Free A.Used cl
 obtain ⟨c,hc,hl⟩:=hx
 obtain ⟨g1,g2⟩:=give_ok h.ga hc hl
 have hx:gK A x:=⟨c,hc,hl⟩
 have hid:∀ q,idP ns1 q=idP ns q:=fun q=>xU (b4 q)
 have hidU:∀ v,idU ns1 v=idU ns v:=fun v=>by
  cases v with
  | none=>rfl
  | some q=>exact hid q
 have hnd:=h.lk.nd u a1
 have hdr:∀ v q,hdK A v → (q ∈ oJ kids u x v ↔ q ≠ x ∧ q ∈ kids v):=fun v q hv=>by
  unfold oJ
  by_cases e:v=u
  · rw [if_pos e,hnd.mem_erase_iff,e]
  · rw [if_neg e]
    exact ⟨fun hm=>⟨fun e2=>e (a6 v hv (e2 ▸ hm)),hm⟩,fun hm=>hm.2⟩
 refine ⟨ns1,first1,_,?_,⟨g2,b2,⟨fun v hv=>b3.ch v ((qJ hx v).1 hv).1,fun v hv=>b3.nd v ((qJ hx v).1 hv).1,fun v w p hv hw=>b3.dj v w p ((qJ hx v).1 hv).1 ((qJ hx w).1 hw).1,fun p hp=>b3.at' p ((qJ hx (some p)).1 hp).1⟩,fun p hp=>?_,fun v p hv hm=>?_,fun m hm=>?_,fun p q hp hq e=>h.inj p q ((mQ hx p).1 hp).1 ((mQ hx q).1 hq).1 (by rw [← hid p,← hid q]; exact e),?_⟩,fun v hv=>?_,hid⟩
 · rw [cY,bndD,show (toI ks).length=ks.length by unfold toI; simp,decide_eq_false (by omega),bD,b1,bnoS]
   show (bno (nW A (x:Int)) _)=_
   rw [g1,bnoS]
   show (chk (ns1.length=64) <| bno (dH cl (x:Int)) _)=_
   rw [chk,if_pos b2,del19 hcl,bnoS]
 · obtain ⟨hpa,hpx⟩:=(mQ hx p).1 hp
   obtain ⟨v,n,k1,k2,k3,k4,k5⟩:=h.up p hpa
   have hvx:v ≠ some x:=fun e=>by rw [e,hk] at k4; cases k4
   obtain ⟨n',q1,q2⟩:=nY (b4 p) k2
   obtain ⟨q3,q4,q5,q6⟩:=pZ q2
   refine ⟨v,n',(qJ hx v).2 ⟨k1,hvx⟩,q1,q4.trans k3,(hdr v p k1).2 ⟨hpx,k4⟩,?_⟩
   have e:asN ns1 n' v=asN ns n v:=by unfold asN; rw [q3,q5,q6,hidU]
   rw [e]
   refine List.mem_filter.2 ⟨k5,?_⟩
   have hne:(asN ns n v).ID ≠ idP ns x:=fun e=>hpx (h.inj p x hpa hx (by rw [cZ k2]; exact e))
   rw [decide_eq_false hne]; rfl
 · obtain ⟨hv1,hv2⟩:=(qJ hx v).1 hv
   obtain ⟨e1,e2⟩:=(hdr v p hv1).1 hm
   exact (mQ hx p).2 ⟨h.kid v p hv1 e2,e1⟩
 · obtain ⟨hm1,hm2⟩:=List.mem_filter.1 hm
   obtain ⟨p,n,v,k1,k2,k3,k4,rfl⟩:=h.bw m hm1
   have hpx:p ≠ x:=fun e=>by
    subst e
    have:(asN ns n v).ID=idP ns p:=(cZ k3).symm
    rw [decide_eq_true this] at hm2
    cases hm2
   have hvx:v ≠ some x:=fun e=>by
    obtain ⟨v',n',q1,q2,q3,q4,q5⟩:=h.up p k1
    rw [k3] at q2
    injection q2 with q2
    subst q2
    have:v=v':=aAV (k4.symm.trans q3)
    rw [← this,e,hk] at q4; cases q4
   obtain ⟨n',q1,q2⟩:=nY (b4 p) k3
   obtain ⟨q3,q4,q5,q6⟩:=pZ q2
   refine ⟨p,n',v,(mQ hx p).2 ⟨k1,hpx⟩,(qJ hx v).2 ⟨k2,hvx⟩,q1,q4.trans k4,?_⟩
   unfold asN
   rw [q3,q5,q6,hidU]
 · exact List.Pairwise.filter _ h.so
 · by_cases hv2:hdK A v
   · have hvx:v=some x:=by
      refine Classical.byContradiction fun e=>hv ((qJ hx v).2 ⟨hv2,e⟩)
     refine List.eq_nil_iff_forall_not_mem.2 fun q hm=>?_
     have:=((hdr v q hv2).1 hm).2
     rw [hvx,hk] at this; cases this
   · refine List.eq_nil_iff_forall_not_mem.2 fun q hm=>?_
     unfold oJ at hm
     split at hm
     · rename_i e; exact hv2 (e ▸ a1)
     · rw [h0 v hv2] at hm; cases hm
end Go.Fn
open Go Go.IL
namespace Go.Fn
theorem off_ok {A:AS} {sp:List Nat} {ns:List Nk} {first:Int} {kids:Option Nat → List Nat} {N:List Nd} (h:RL A sp ns first kids N) (h0:∀ u,¬ hdK A u → kids u=[]) (hpos:∀ m ∈ N,1 ≤ m.ID) (hw:∀ m ∈ N,1 ≤ m.Weight ∧ m.Weight ≤ 256) {r:Int → Nat} (hr:∀ m ∈ N,m.Parent ≠ 0 → r m.Parent < r m.ID) {x:Nat} (hx:gK A x) (room keep:Int) {cl:List Int} (hcl:cl.length ≤ 100000) :
 ∃ L y R ns' first' kids',N=L ++ y :: R ∧ y.ID=idP ns x ∧ fM (x:Int) room keep A.Cells A.Free A.Used ns first cl=some (room,keep,(pJ A x).Cells,(pJ A x).Free,(pJ A x).Used,ns',first',cl.filter fun y=>!decide (y=(x:Int))) ∧ RL (pJ A x) (x :: sp) ns' first' kids' (offS L y R) ∧ (∀ u,¬ hdK (pJ A x) u → kids' u=[]) ∧ (∀ q,idP ns' q=idP ns q):=by
 obtain ⟨v,nx,hv,hxn,hup,hxk,hxN⟩:=h.up x hx
 have hyid:(asN ns nx v).ID=idP ns x:=(cZ hxn).symm
 obtain ⟨L,R,hN⟩:=List.append_of_mem hxN
 have hsize:=h.lk.size h.len (u:=some x) hx
 have hal:∀ p ∈ kids (some x),gK A p:=fun p hp=>h.kid (some x) p hx hp
 have hposx:1 ≤ idP ns x:=hyid ▸ hpos _ hxN
 have hkid:∀ m ∈ N,(m.ID ∈ (kids (some x)).map (idP ns) ↔ m.Parent=idP ns x):=fun m hm=>yL h hpos (u:=some x) hx hm
 have hnode:∀ p ∈ kids (some x),∃ n,ns[p]? = some n ∧ n.up=upI (some x) ∧ asN ns n (some x) ∈ N:=fun p hp=>by
  obtain ⟨u,n,g1,g2,g3,g4,g5⟩:=h.up p (hal p hp)
  have hu:u=some x:=h.lk.dj u (some x) p g1 hx g4 hp
  subst hu
  exact ⟨n,g2,g3,g5⟩
 have hrk:∀ p ∈ kids (some x),r (idP ns x) < r (idP ns p):=fun p hp=>by
  obtain ⟨n,g1,g2,g3⟩:=hnode p hp
  have:=hr _ g3 (show idP ns x ≠ 0 by omega)
  rw [cZ g1]; exact this
 have hvx:v ≠ some x:=fun e=>by
  subst e
  have:=hr _ hxN (show idP ns x ≠ 0 by omega)
  rw [hyid] at this
  exact Nat.lt_irrefl _ this
 have hkx:∀ p ∈ kids (some x),p ≠ x:=fun p hp e=>by
  have:=hrk p hp
  rw [e] at this; omega
 have hkv:∀ p ∈ kids (some x),v ≠ some p:=fun p hp e=>by
  subst e
  obtain ⟨n,g1,g2,g3⟩:=hnode p hp
  have h1:=hrk p hp
  have h2:=hr _ hxN (show idP ns p ≠ 0 by
   have:=hpos _ g3
   rw [cZ g1]
   have:1 ≤ n.id:=this
   omega)
  rw [hyid] at h2
  have h2:r (idP ns p) < r (idP ns x):=h2
  omega
 have hW:=hw _ hxN
 have hW:1 ≤ nx.weight ∧ nx.weight ≤ 256:=hW
 have hsum:wsum ns (kids (some x))=sumS N (idP ns x):=ws_sum h hpos hx
 have hS2:sumS N (idP ns x)=sumS (L ++ R) (asN ns nx v).ID:=by
  rw [hyid]
  have hne:(asN ns nx v).Parent ≠ idP ns x:=fun e=>hvx (yW h hpos hv (v:=some x) hx e)
  rw [hN,tK,tK]
  show _ + ((if (asN ns nx v).Parent=idP ns x then _ else 0) + _)=_
  rw [if_neg hne]; omega
 have hch:kG ns nx.first (kids (some x)):=by
  have:=h.lk.ch (some x) hx
  rw [nE hxn] at this; exact this
 have hwk:∀ p ∈ kids (some x),0 ≤ (ns.getD p default).weight ∧ (ns.getD p default).weight ≤ 256:=fun p hp=>by
  obtain ⟨n,g1,g2,g3⟩:=hnode p hp
  have:=hw _ g3
  have:1 ≤ n.weight ∧ n.weight ≤ 256:=this
  rw [List.getD_eq_getElem?_getD,g1]
  exact ⟨by show 0 ≤ n.weight; omega,this.2⟩
 obtain ⟨f0,hf0⟩:∃ f,fuel=f + 1:=⟨fuel - 1,by decide⟩
 have hstep:fM (x:Int) room keep A.Cells A.Free A.Used ns first cl=cY (x:Int) (sumS N (idP ns x)) (toI (kids (some x))) fuel 0 room keep A.Cells A.Free A.Used ns first cl:=by
  unfold fM
  rw [bndD,decide_eq_false (by omega),bD,eT,hxn,bnoS,chk,if_pos h.len,Int.toNat_natCast,hxn,bnoS]
  rw [off8 (kids (some x)) nx.first 0 fuel hch hwk (by omega) (by omega) (by unfold fuel; omega)]
  unfold iN
  rw [bndD,decide_eq_false (by omega),bD,eT,hxn,bnoS,chk,if_pos h.len,Int.toNat_natCast,hxn,bnoS]
  have:=coll5 (x:=x) (room:=room) (keep:=keep) (S:=0 + wsum ns (kids (some x))) (C:=A.Cells) (F:=A.Free) (U:=A.Used) (first:=first) (cl:=cl) (kids (some x)) [] nx.first fuel hch (by simp; omega) (by unfold fuel; omega)
  rw [show toI []=([]:List Int) from rfl,List.nil_append] at this
  rw [this,Int.zero_add,hsum]
 have hall:∃ ns1 first1 kids1 f1,cY (x:Int) (sumS N (idP ns x)) (toI (kids (some x))) fuel 0 room keep A.Cells A.Free A.Used ns first cl=cY (x:Int) (sumS N (idP ns x)) (toI (kids (some x))) (f1 + 1) ((kids (some x)).length:Int) room keep A.Cells A.Free A.Used ns1 first1 cl ∧ RL A sp ns1 first1 kids1 (N.map (upsN ((kids (some x)).map (idP ns)) (idU ns v) nx.weight (sumS N (idP ns x)))) ∧ (∀ u,¬ hdK A u → kids1 u=[]) ∧ (∀ p,idP ns1 p=idP ns p):=by
  by_cases hk:kids (some x)=[]
  · rw [hk]
    exact ⟨ns,first,kids,f0,by rw [hf0]; rfl,by rw [List.map_nil,aBs]; exact h,h0,fun _=>rfl⟩
  · obtain ⟨p,hp⟩:=List.exists_mem_of_ne_nil _ hk
    obtain ⟨n,g1,g2,g3⟩:=hnode p hp
    have hge:=xA hw g3
    have hge:n.weight ≤ sumS N (idP ns x):=hge
    have h1:=(hw _ g3).1
    have h1:1 ≤ n.weight:=h1
    obtain ⟨ns1,first1,kids1,f1,c1,c2,c3,c4,c5⟩:=off6 hx room keep cl (S:=sumS N (idP ns x)) (by omega) hv hW (cx:=nx.closed) hsize hal hkx hkv (h.lk.nd (some x) hx) (kids (some x)) [] fuel ns first kids N rfl (by unfold fuel; omega) h h0 hpos hw (fun m hm hmi=>by
     have hp:=(hkid m hm).1 hmi
     have:=xA hw hm
     rw [hp] at this; exact this) (by rw [cZ hxn]; exact hxN)
    exact ⟨ns1,first1,kids1,f1,c1,c2,c3,c4⟩
 obtain ⟨ns1,first1,kids1,f1,c1,c2,c3,c4⟩:=hall
 have hidU:∀ u,idU ns1 u=idU ns u:=fun u=>by cases u with
  | none=>rfl
  | some y=>exact c4 y
 have hpos1:∀ m ∈ N.map (upsN ((kids (some x)).map (idP ns)) (idU ns v) nx.weight (sumS N (idP ns x))),1 ≤ m.ID:=fun m hm=>by
  obtain ⟨m0,hm0,rfl⟩:=List.mem_map.1 hm
  rw [xX]; exact hpos m0 hm0
 have hk1:kids1 (some x)=[]:=by
  refine List.eq_nil_iff_forall_not_mem.2 fun p hp=>?_
  obtain ⟨u,n,g1,g2,g3,g4,g5⟩:=c2.up p (c2.kid (some x) p hx hp)
  have hpar:=(yL c2 hpos1 (u:=some x) hx g5).1 (List.mem_map.2 ⟨p,hp,cZ g2⟩)
  rw [hidU] at hpar
  obtain ⟨m0,hm0,e⟩:=List.mem_map.1 g5
  rw [← e] at hpar
  unfold upsN at hpar
  split at hpar
  · exact hvx (yW h hpos hv (v:=some x) hx hpar)
  · rename_i hn
    exact hn ((hkid m0 hm0).2 hpar)
 obtain ⟨ns2,first2,kids2,d1,d2,d3,d4⟩:=gone_ok c2 c3 hx hk1 room keep hcl (S:=sumS N (idP ns x)) (ks:=kids (some x)) (by omega) f1
 refine ⟨L,asN ns nx v,R,ns2,first2,kids2,hN,hyid,?_,?_,d3,fun q=>(d4 q).trans (c4 q)⟩
 · rw [hstep,c1,d1]
 · have hL:(N.map (upsN ((kids (some x)).map (idP ns)) (idU ns v) nx.weight (sumS N (idP ns x)))).filter (fun n=>!decide (n.ID=idP ns1 x))=offS L (asN ns nx v) R:=by
    have hso:=h.so
    rw [hN] at hso
    have hdis:∀ m ∈ L ++ R,m.ID ≠ idP ns x:=fun m hm e=>by
     obtain ⟨s1,s2,s3⟩:=List.pairwise_append.1 hso
     rcases List.mem_append.1 hm with hm | hm
     · have:=s3 m hm _ (List.mem_cons_self ..)
       omega
     · have:=(List.pairwise_cons.1 s2).1 m hm
       omega
    have hmem:∀ m ∈ L ++ R,m ∈ N:=fun m hm=>by
     rw [hN]
     rcases List.mem_append.1 hm with hm | hm
     · exact List.mem_append.2 (.inl hm)
     · exact List.mem_append.2 (.inr (List.mem_cons_of_mem _ hm))
    have hmapN:∀ m ∈ L ++ R,upsN ((kids (some x)).map (idP ns)) (idU ns v) nx.weight (sumS N (idP ns x)) m=offN (asN ns nx v) (sumS (L ++ R) (asN ns nx v).ID) m:=fun m hm=>by
     unfold upsN offN
     rw [hS2]
     by_cases e:m.Parent=idP ns x
     · rw [if_pos ((hkid m (hmem m hm)).2 e),if_pos (e.trans hyid.symm)]; rfl
     · rw [if_neg (fun hc=>e ((hkid m (hmem m hm)).1 hc)),if_neg (fun hc=>e (hc.trans hyid))]
    unfold offS
    rw [c4 x]
    conv=>lhs; rw [hN]
    rw [List.map_append,List.map_cons,List.filter_append,List.filter_cons_of_neg (by rw [xX,hyid]; simp),List.map_append]
    congr 1
    · rw [List.filter_eq_self.2]
      · exact List.map_congr_left fun m hm=>by rw [← hN]; exact hmapN m (List.mem_append.2 (.inl hm))
      · intro a ha
        obtain ⟨m,hm,rfl⟩:=List.mem_map.1 ha
        rw [xX,decide_eq_false (hdis m (List.mem_append.2 (.inl hm)))]; rfl
    · rw [List.filter_eq_self.2]
      · exact List.map_congr_left fun m hm=>by rw [← hN]; exact hmapN m (List.mem_append.2 (.inr hm))
      · intro a ha
        obtain ⟨m,hm,rfl⟩:=List.mem_map.1 ha
        rw [xX,decide_eq_false (hdis m (List.mem_append.2 (.inr hm)))]; rfl
   rw [← hL]; exact d2
end Go.Fn
open Go Go.IL
namespace Go.Fn
theorem new_ok {A:AS} {sp:List Nat} {ns:List Nk} {first:Int} {kids:Option Nat → List Nat} {N:List Nd} (h:RL A sp ns first kids N) (h0:∀ u,¬ hdK A u → kids u=[]) (hu:A.Used < 64) {id:Int} {L R:List Nd} (hN:N=L ++ R) (hso:(L ++ (⟨id,0,16,false⟩:Nd) :: R).Pairwise (fun a b=>a.ID < b.ID)) (room keep:Int) (cl:List Int) :
 ∃ ns' first' kids',gI (takeP A sp:Int) (-1) room keep (takeS A id sp).Cells (takeS A id sp).Free (takeS A id sp).Used (ns.set (takeP A sp) (⟨id,0,-1,-1,16,false⟩:Nk)) first cl=some (room,keep,(takeS A id sp).Cells,(takeS A id sp).Free,(takeS A id sp).Used,ns',first',cl) ∧ RL (takeS A id sp) sp.tail ns' first' kids' (L ++ (⟨id,0,16,false⟩:Nd) :: R) ∧ (∀ u,¬ hdK (takeS A id sp) u → kids' u=[]) ∧ idP ns' (takeP A sp)=id ∧ (∀ p,p ≠ takeP A sp → idP ns' p=idP ns p) ∧ ¬ gK A (takeP A sp) ∧ ∀ p,gK (takeS A id sp) p ↔ gK A p ∨ p=takeP A sp:=by
 obtain ⟨t1,t2,t3,t4,t5,t6⟩:=aBu h.ga id hu
 generalize takeP A sp=q at *
 generalize takeS A id sp=A' at *
 have hal:∀ p,gK A' p ↔ gK A p ∨ p=q:=fun p=>by
  by_cases e:p=q
  · subst e
    exact ⟨fun _=>.inr rfl,fun _=>⟨_,t3,rfl⟩⟩
  · unfold gK
    rw [t4 p e]
    exact ⟨fun h=>.inl h,fun h=>h.elim (fun h=>h) (fun h=>absurd h e)⟩
 have hqn:¬ gK A q:=fun ⟨c,hc,hl⟩=>by rw [t5 c hc] at hl; cases hl
 have hqk:∀ v,q ∉ kids v:=fun v hm=>by
  by_cases hv:hdK A v
  · exact hqn (h.kid v q hv hm)
  · rw [h0 v hv] at hm; cases hm
 have hkq:kids (some q)=[]:=h0 _ hqn
 have hhd:∀ u,hdK A' u ↔ hdK A u ∨ u=some q:=fun u=>by
  cases u with
  | none=>exact ⟨fun h=>.inl h,fun _=>trivial⟩
  | some p =>
    rw [show hdK A' (some p) ↔ _ from hal p]
    exact ⟨fun h=>h.elim .inl (fun e=>.inr (e ▸ rfl)),fun h=>h.elim .inl (fun e=>.inr (Option.some.inj e))⟩
 have hvq:∀ v,hdK A v → v ≠ some q:=fun v hv e=>by subst e; exact hqn hv
 have hq:(ns.set q (⟨id,0,-1,-1,16,false⟩:Nk))[q]? = some (⟨id,0,-1,-1,16,false⟩:Nk):=List.getElem?_set_self (by rw [h.len]; exact t6)
 have hoth:∀ p,p ≠ q → (ns.set q (⟨id,0,-1,-1,16,false⟩:Nk))[p]? = ns[p]?:=fun p e=>List.getElem?_set_ne (Ne.symm e)
 have hlk:Lk (ns.set q (⟨id,0,-1,-1,16,false⟩:Nk)) first (hdK A') kids:=by
  refine ⟨fun u hu=>?_,fun u hu=>?_,fun u v p hu hv hpu hpv=>?_,fun p hp=>?_⟩
  · rcases (hhd u).1 hu with hu | rfl
    · have hc:=(h.lk.ch u hu).other (hqk u) (⟨id,0,-1,-1,16,false⟩:Nk)
      have hf:nT (ns.set q (⟨id,0,-1,-1,16,false⟩:Nk)) first u=nT ns first u:=by
       cases u with
       | none=>rfl
       | some p =>
         have hpq:p ≠ q:=fun e=>hvq _ hu (e ▸ rfl)
         show ((ns.set q _).getD p default).first=(ns.getD p default).first
         rw [List.getD_eq_getElem?_getD,hoth p hpq,← List.getD_eq_getElem?_getD]
      rw [hf]; exact hc
    · rw [hkq,nE hq]; rfl
  · rcases (hhd u).1 hu with hu | rfl
    · exact h.lk.nd u hu
    · rw [hkq]; exact List.nodup_nil
  · rcases (hhd u).1 hu with hu | rfl
    · rcases (hhd v).1 hv with hv | rfl
      · exact h.lk.dj u v p hu hv hpu hpv
      · rw [hkq] at hpv; cases hpv
    · rw [hkq] at hpu; cases hpu
  · rcases (hal p).1 hp with hp | rfl
    · obtain ⟨n,hn⟩:=h.lk.at' p hp
      exact ⟨n,by rw [hoth p (fun e=>hqn (e ▸ hp))]; exact hn⟩
    · exact ⟨_,hq⟩
 obtain ⟨ns',first',e1,e2,e3,e4,e5⟩:=aCt (by rw [List.length_set]; exact h.len) hlk (u:=none) trivial hq (fun v _=>hqk v) nofun room keep A'.Cells A'.Free A'.Used cl
 have hv1:∀ p,p ≠ q → nU ns' p=nU ns p:=fun p e=>by
  rw [e4 p e]
  unfold nU
  rw [hoth p e]
 have hn2:∃ n2,ns'[q]? = some n2 ∧ n2.id=id ∧ n2.up = -1 ∧ n2.weight=16 ∧ n2.closed=false:=by
  have:=e5 _ hq
  unfold nU at this
  cases h2:ns'[q]? with
  | none=>rw [h2] at this; cases this
  | some n2 =>
    rw [h2] at this
    injection this with this
    exact ⟨n2,rfl,congrArg (·.1) this,congrArg (·.2.1) this,congrArg (·.2.2.1) this,congrArg (·.2.2.2) this⟩
 obtain ⟨n2,f1,f2,f3,f4,f5⟩:=hn2
 have hidq:idP ns' q=id:=by rw [cZ f1,f2]
 have hid:∀ p,p ≠ q → idP ns' p=idP ns p:=fun p e=>xU (hv1 p e)
 have hidU:∀ v,hdK A v → idU ns' v=idU ns v:=fun v hv=>by
  cases v with
  | none=>rfl
  | some p=>exact hid p (fun e=>hvq _ hv (e ▸ rfl))
 have has:asN ns' n2 none=(⟨id,0,16,false⟩:Nd):=by unfold asN; rw [f2,f4,f5]; rfl
 have hmem:∀ m,m ∈ L ++ (⟨id,0,16,false⟩:Nd) :: R ↔ m=⟨id,0,16,false⟩ ∨ m ∈ N:=fun m=>by
  rw [hN]; simp only [List.mem_append,List.mem_cons]
  constructor
  · rintro (a | a | a)
    · exact .inr (.inl a)
    · exact .inl a
    · exact .inr (.inr a)
  · rintro (a | a | a)
    · exact .inr (.inl a)
    · exact .inl a
    · exact .inr (.inr a)
 have hne:∀ m ∈ N,m.ID ≠ id:=fun m hm e=>by
  obtain ⟨s1,s2,s3⟩:=List.pairwise_append.1 hso
  rw [hN] at hm
  rcases List.mem_append.1 hm with hm | hm
  · have:=s3 m hm _ (List.mem_cons_self ..)
    have:m.ID < id:=this
    omega
  · have:=(List.pairwise_cons.1 s2).1 m hm
    have:id < m.ID:=this
    omega
 have hida:∀ p,gK A p → idP ns' p=idP ns p ∧ idP ns p ≠ id:=fun p hp=>by
  refine ⟨hid p (fun e=>hqn (e ▸ hp)),fun e=>?_⟩
  obtain ⟨v,n,k1,k2,k3,k4,k5⟩:=h.up p hp
  exact hne _ k5 (by rw [cZ k2] at e; exact e)
 refine ⟨ns',first',_,e1,⟨t2,e2,e3,fun p hp=>?_,fun u p hu hm=>?_,fun m hm=>?_,fun p r hp hr e=>?_,hso⟩,fun v hv=>?_,hidq,hid,hqn,hal⟩
 · by_cases e:p=q
   · subst e
     refine ⟨none,n2,trivial,f1,f3,?_,(hmem _).2 (.inl has)⟩
     unfold rV; rw [if_pos rfl]; exact List.mem_cons_self ..
   · have hp:gK A p:=((hal p).1 hp).elim (fun h=>h) (fun h=>absurd h e)
     obtain ⟨v,n,k1,k2,k3,k4,k5⟩:=h.up p hp
     obtain ⟨n',q1,q2⟩:=nY (hv1 p e) k2
     obtain ⟨q3,q4,q5,q6⟩:=pZ q2
     refine ⟨v,n',(hhd v).2 (.inl k1),q1,q4.trans k3,?_,(hmem _).2 (.inr ?_)⟩
     · unfold rV
       split
       · rename_i e; subst e; exact List.mem_cons_of_mem _ k4
       · exact k4
     · have e:asN ns' n' v=asN ns n v:=by unfold asN; rw [q3,q5,q6,hidU v k1]
       rw [e]; exact k5
 · unfold rV at hm
   split at hm
   · rcases List.mem_cons.1 hm with e | hm
     · exact (hal p).2 (.inr e)
     · exact (hal p).2 (.inl (h.kid none p trivial hm))
   · rcases (hhd u).1 hu with hu | rfl
     · exact (hal p).2 (.inl (h.kid u p hu hm))
     · rw [hkq] at hm; cases hm
 · rcases (hmem m).1 hm with rfl | hm
   · exact ⟨q,n2,none,(hal q).2 (.inr rfl),trivial,f1,f3,has.symm⟩
   · obtain ⟨p,n,v,k1,k2,k3,k4,rfl⟩:=h.bw m hm
     obtain ⟨n',q1,q2⟩:=nY (hv1 p (fun e=>hqn (e ▸ k1))) k3
     obtain ⟨q3,q4,q5,q6⟩:=pZ q2
     refine ⟨p,n',v,(hal p).2 (.inl k1),(hhd v).2 (.inl k2),q1,q4.trans k4,?_⟩
     unfold asN; rw [q3,q5,q6,hidU v k2]
 · rcases (hal p).1 hp with hp | rfl
   · rcases (hal r).1 hr with hr | rfl
     · exact h.inj p r hp hr (by rw [← (hida p hp).1,← (hida r hr).1]; exact e)
     · exact absurd (((hida p hp).1.symm.trans e).trans hidq) (hida p hp).2
   · rcases (hal r).1 hr with hr | rfl
     · exact absurd (((hida r hr).1.symm.trans e.symm).trans hidq) (hida r hr).2
     · rfl
 · have hv2:¬ hdK A v:=fun hh=>hv ((hhd v).2 (.inl hh))
   unfold rV
   split
   · rename_i e; subst e; exact absurd trivial hv
   · exact h0 v hv2
end Go.Fn
open Go Go.IL
namespace Go.Fn
def lowN (N:List Nd) (id:Int):List Nd:=N.filter fun n=>decide (n.ID < id)
def aAL (N:List Nd) (id:Int):List Nd:=N.filter fun n=>decide (id < n.ID)
def newS (N:List Nd) (id:Int):List Nd:=lowN N id ++ (⟨id,0,16,false⟩:Nd) :: aAL N id
theorem sS {id:Int}:∀ {N:List Nd},N.Pairwise (fun a b=>a.ID < b.ID) → (∀ m ∈ N,m.ID ≠ id) → N=lowN N id ++ aAL N id
 | [],_,_=>rfl
 | n :: N,hs,hn=>by
   obtain ⟨s1,s2⟩:=List.pairwise_cons.1 hs
   have ih:=sS s2 fun m hm=>hn m (List.mem_cons_of_mem _ hm)
   have hne:=hn n (List.mem_cons_self ..)
   unfold lowN aAL at *
   by_cases h:n.ID < id
   · rw [List.filter_cons_of_pos (by simp [h]),List.filter_cons_of_neg (by simp; omega),List.cons_append,← ih]
   · have hl:N.filter (fun n=>decide (n.ID < id))=[]:=List.filter_eq_nil_iff.2 fun m hm=>by have:=s1 m hm; simp; omega
     rw [hl,List.nil_append] at ih
     rw [List.filter_cons_of_neg (by simp [h]),List.filter_cons_of_pos (by simp; omega),hl,List.nil_append,← ih]
theorem xJ {id:Int} {N:List Nd} (hs:N.Pairwise (fun a b=>a.ID < b.ID)):(newS N id).Pairwise (fun a b=>a.ID < b.ID):=by
 unfold newS lowN aAL
 refine List.pairwise_append.2 ⟨hs.filter _,List.pairwise_cons.2 ⟨fun m hm=>of_decide_eq_true (List.mem_filter.1 hm).2,hs.filter _⟩,fun a ha b hb=>?_⟩
 have h1:a.ID < id:=of_decide_eq_true (List.mem_filter.1 ha).2
 rcases List.mem_cons.1 hb with rfl | hb
 · exact h1
 · have h2:id < b.ID:=of_decide_eq_true (List.mem_filter.1 hb).2
   omega
theorem aAj {id:Int} {N:List Nd} (hs:N.Pairwise (fun a b=>a.ID < b.ID)) (hn:∀ m ∈ N,m.ID ≠ id) (m:Nd):m ∈ newS N id ↔ m=⟨id,0,16,false⟩ ∨ m ∈ N:=by
 conv=>rhs; rw [sS hs hn]
 unfold newS
 simp only [List.mem_append,List.mem_cons]
 constructor
 · rintro (a | a | a)
   · exact .inr (.inl a)
   · exact .inl a
   · exact .inr (.inr a)
 · rintro (a | a | a)
   · exact .inr (.inl a)
   · exact .inl a
   · exact .inr (.inr a)
theorem aAi {id:Int} {N:List Nd} (hs:N.Pairwise (fun a b=>a.ID < b.ID)) (hn:∀ m ∈ N,m.ID ≠ id):(newS N id).length=N.length + 1:=by
 conv=>rhs; rw [sS hs hn]
 unfold newS
 simp; omega
theorem aDg {A:AS} {sp:List Nat} {ns:List Nk} {first:Int} {kids:Option Nat → List Nat} {N:List Nd} (h:RL A sp ns first kids N) (h0:∀ u,¬ hdK A u → kids u=[]) (hpos:∀ m ∈ N,1 ≤ m.ID) (hu:A.Used < 64) (hN:N.length < 64) {r:Int → Nat} (hr:∀ m ∈ N,m.Parent ≠ 0 → r m.Parent < r m.ID) (hpa:∀ m ∈ N,m.Parent=0 ∨ ∃ x ∈ N,x.ID=m.Parent) {id:Int} (hid:1 ≤ id) (hno:∀ m ∈ N,m.ID ≠ id) (w:Ws) (hw:w.dep ≠ id) (hw0:0 ≤ w.dep) (room keep:Int) (cl:List Int) :
 ∃ A' sp' ns' first' kids',fV id w room keep A.Cells A.Free A.Used ns first cl=some (0,room,keep,A'.Cells,A'.Free,A'.Used,ns',first',cl) ∧ RL A' sp' ns' first' kids' (mV (newS N id) id w) ∧ (∀ u,¬ hdK A' u → kids' u=[]) ∧ ∀ p,gK A p → gK A' p ∧ idP ns' p=idP ns p:=by
 obtain ⟨t1,_,_,_,_,t6⟩:=aBu h.ga id hu
 obtain ⟨ns1,first1,kids1,e1,e2,e3,e4,e5,e6,e7⟩:=new_ok h h0 hu (sS h.so hno) (xJ h.so) room keep cl
 have e2:RL (takeS A id sp) sp.tail ns1 first1 kids1 (newS N id):=e2
 have hmem:=aAj h.so hno
 obtain ⟨ns',first',kids',g1,g2,g3,g4⟩:=aBF e2 e3 (fun m hm=>by
  rcases (hmem m).1 hm with rfl | hm
  · exact hid
  · exact hpos m hm) (by rw [aAi h.so hno]; omega) (r:=r) (fun m hm hp=>by
  rcases (hmem m).1 hm with rfl | hm
  · exact absurd rfl hp
  · exact hr m hm hp) (fun m hm=>by
  rcases (hmem m).1 hm with rfl | hm
  · exact .inl rfl
  · rcases hpa m hm with e | ⟨x,hx,e⟩
    · exact .inl e
    · exact .inr ⟨x,(hmem x).2 (.inr hx),e⟩) (x:=takeP A sp) ((e7 _).2 (.inr rfl)) w (by rw [e4]; exact hw) hw0 room keep cl
 rw [e4] at g2
 obtain ⟨n0,hn0⟩:∃ n,ns[takeP A sp]? = some n:=⟨_,List.getElem?_eq_getElem (by rw [h.len]; exact t6)⟩
 refine ⟨takeS A id sp,sp.tail,ns',first',kids',?_,g2,g3,fun p hp=>⟨(e7 p).2 (.inl hp),(g4 p).trans (e5 p fun e=>e6 (e ▸ hp))⟩⟩
 unfold fV
 rw [show nV (⟨A.Cells,A.Free,A.Used⟩:AS) id=_ from t1,bnoS,bndD]
 show (bif (!decide ((0:Int)=0)) then _ else _)=_
 rw [decide_eq_true rfl,Bool.not_true,bD]
 show (bno (gix ns (takeP A sp:Int)) _)=_
 rw [eT,hn0,bnoS,chk,if_pos h.len]
 show (bno (ns[((takeP A sp:Nat):Int).toNat]?) _)=_
 rw [Int.toNat_natCast,hn0,bnoS,bndD]
 show (bno (gI (takeP A sp:Int) (-1) room keep (takeS A id sp).Cells (takeS A id sp).Free (takeS A id sp).Used (ns.set (((takeP A sp:Nat):Int).toNat) (⟨id,0,-1,-1,16,false⟩:Nk)) first cl) _)=_
 rw [Int.toNat_natCast,e1,bnoS]
 show (bno (gQ (takeP A sp:Int) w room keep (takeS A id sp).Cells (takeS A id sp).Free (takeS A id sp).Used ns1 first1 cl) _)=_
 rw [g1,bnoS]
end Go.Fn
open Go Go.IL
namespace Go.Fn
theorem aBi {N:List Nd} {x:Int} {w:Ws} {r:Int → Nat} (h:HP N x r) (hf:(∀ n ∈ N,n.Parent ≠ 0 → r n.Parent < r n.ID) ∧ ∀ n ∈ N,n.Parent=0 ∨ ∃ m ∈ N,m.ID=n.Parent) (hne:w.dep ≠ x) (hw:1 ≤ w.weight ∧ w.weight ≤ 256):∃ g,mV N x w=N.map g ∧ Hung N g:=by
 unfold mV
 by_cases hc:w.dep ≠ 0 ∧ ∀ m ∈ N,m.ID ≠ w.dep
 · have hws:mR N w=⟨0,16,false⟩:=if_pos hc
   rw [hws]
   have:upN N x 0=N:=if_neg (fun hh=>hh.1 rfl)
   exact ⟨iJ x 0 16 false,by show (upN N x 0).map _=_; rw [this],yX h (by decide) (fun hh=>absurd rfl hh)⟩
 · have hws:mR N w=w:=if_neg hc
   rw [hws]
   by_cases h0:w.dep=0
   · have:upN N x w.dep=N:=if_neg (fun hh=>hh.1 h0)
     exact ⟨iJ x w.dep w.weight w.only,by rw [this],yX h hw (fun hh=>absurd h0 hh)⟩
   · have hex:∃ k ∈ N,k.ID=w.dep:=by
      refine Classical.byContradiction fun hn=>hc ⟨h0,fun m hm e=>hn ⟨m,hm,e⟩⟩
     obtain ⟨k,hkm,hk⟩:=hex
     obtain ⟨y,hy,hyx⟩:=h.xm
     have hkx:k.ID ≠ x:=by rw [hk]; exact hne
     by_cases hin:x ∈ fO N N.length w.dep
     · have hanc:Anc N x k.ID:=by rw [hk]; exact aA5 h.ok.so _ _ hne hin (by have:=h.ok.ra y hy; omega)
       obtain ⟨h1,h2⟩:=hp_move h hy hyx hkm hkx hanc hf
       have hu:=yX (d:=w.dep) (w:=w.weight) (o:=w.only) h1 hw (fun _=>⟨⟨_,List.mem_map.2 ⟨k,hkm,rfl⟩,(lE _ _ _).trans hk⟩,by rw [← hk]; exact h2⟩)
       have hpar:oI N x=some y.Parent:=by rw [← hyx]; exact vO h.ok.so hy
       have hup:upN N x w.dep=N.map (mvN k.ID y.Parent):=by
        unfold upN
        rw [if_pos ⟨h0,hin⟩,hpar,hk]; rfl
       refine ⟨iJ x w.dep w.weight w.only ∘ mvN k.ID y.Parent,by rw [hup,List.map_map],⟨fun n=>(hu.id _).trans (lE _ _ _),fun n=>(hu.cl _).trans ?_,fun n hn=>hu.ra _ (List.mem_map.2 ⟨n,hn,rfl⟩),fun n hn=>?_,?_⟩⟩
       · unfold mvN; split <;> rfl
       · rcases hu.pa _ (List.mem_map.2 ⟨n,hn,rfl⟩) with e | ⟨m,hm,e⟩
         · exact .inl e
         · obtain ⟨z,hz,ez⟩:=List.mem_map.1 hm
           have e2:z.ID=m.ID:=by rw [← ez,lE]
           exact .inr ⟨z,hz,e2.trans e⟩
       · obtain ⟨r',hr'⟩:=hu.rk
         rw [List.map_map] at hr'
         exact ⟨r',hr'⟩
     · have hna:¬ Anc N x w.dep:=not_anc h.ok.so hf.1 hf.2 ⟨k,hkm,hk⟩ hne hin
       have hup:upN N x w.dep=N:=if_neg (fun hh=>hin hh.2)
       exact ⟨iJ x w.dep w.weight w.only,by rw [hup],yX h hw (fun _=>⟨⟨k,hkm,hk⟩,hna⟩)⟩
theorem aBG {K:Int} {N:List Nd} {E:List Int} (h:FV K ⟨24,K,N,E⟩) {x:Int} (hx:∃ n ∈ N,n.ID=x) {w:Ws} (hne:w.dep ≠ x) (hw:1 ≤ w.weight ∧ w.weight ≤ 256):FV K ⟨24,K,mV N x w,E⟩ ∧ (mV N x w).length=N.length:=by
 obtain ⟨r,hr⟩:=h.rk
 have hp:HP N x r:=⟨h.ok,hx,fun n hn=>(h.ra n hn).2,fun n hn _=>h.pa n hn,fun n hn _ hz=>hr n hn hz,.inl ⟨hr,h.pa⟩⟩
 obtain ⟨g,e,hg⟩:=aBi hp ⟨hr,h.pa⟩ hne hw
 rw [e]
 exact ⟨fv_hung h.bs hg,List.length_map ..⟩
theorem fv_new {K:Int} {N:List Nd} {E:List Int} (h:FV K ⟨24,K,N,E⟩) {id:Int} (hid:1 ≤ id ∧ id ≤ 1048576) (hno:∀ m ∈ N,m.ID ≠ id) (hlt:N.length < 24):FV K ⟨24,K,newS N id,E⟩:=by
 have hmem:=aAj h.so hno
 obtain ⟨r,hr⟩:=h.rk
 refine ⟨rfl,h.kp,by show (newS N id).length ≤ 24; rw [aAi (N:=N) h.so hno]; exact hlt,h.el,xJ h.so,fun n hn=>?_,fun n hn=>?_,⟨r,fun n hn hp=>?_⟩,fun n hn=>?_,h.nd,fun e he=>?_⟩
 · rcases (hmem n).1 hn with rfl | hn
   · exact ⟨hid,by show (1:Int) ≤ 16; decide,by show (16:Int) ≤ 256; decide⟩
   · exact h.ra n hn
 · rcases (hmem n).1 hn with rfl | hn
   · exact .inl rfl
   · rcases h.pa n hn with e | ⟨m,hm,e⟩
     · exact .inl e
     · exact .inr ⟨m,(hmem m).2 (.inr hm),e⟩
 · rcases (hmem n).1 hn with rfl | hn
   · exact absurd rfl hp
   · exact hr n hn hp
 · rcases (hmem n).1 hn with rfl | hn
   · refine ⟨fun hc=>(by cases hc),fun hc=>?_⟩
     obtain ⟨m,hm,e2⟩:=h.es _ hc
     exact absurd e2 (hno m hm)
   · exact h.en n hn
 · obtain ⟨n,hn,e2⟩:=h.es e he
   exact ⟨n,(hmem n).2 (.inr hn),e2⟩
end Go.Fn
open Go Go.IL
namespace Go.Fn
structure TS (A:AS) (ns:List Nk) (first:Int) (cl:List Int) (R K:Int) (N:List Nd) (E:List Int):Prop where
 rl:∃ sp kids,RL A sp ns first kids N ∧ ∀ u,¬ hdK A u → kids u=[]
 cn:∃ cN:List Nat,cl=toI cN ∧ (∀ p ∈ cN,gK A p) ∧ E=cN.map (idP ns)
 fv:FV K ⟨24,K,N,E⟩
 ln:(N.length:Int) ≤ R
 rm:R ≤ 24
theorem xW {A:AS} {sp:List Nat} {ns:List Nk} {first:Int} {kids:Option Nat → List Nat} {N:List Nd} (h:RL A sp ns first kids N):A.Used=(N.length:Int):=by
 rw [h.ga.used]
 have hl:=sU A.Cells 0
 rw [← hl]
 have hp:((nB A.Cells 0).map (idP ns)).Perm (N.map (·.ID)):=by
  refine (List.perm_ext_iff_of_nodup ?_ (tA h.so)).2 fun i=>?_
  · refine List.pairwise_map.2 ((sA A.Cells 0).imp_of_mem fun {p q} hp hq hne e=>hne (h.inj p q (nR.2 hp) (nR.2 hq) e))
  · constructor
    · intro hi
      obtain ⟨p,hp,rfl⟩:=List.mem_map.1 hi
      obtain ⟨v,n,k1,k2,k3,k4,k5⟩:=h.up p (nR.2 hp)
      exact List.mem_map.2 ⟨_,k5,(cZ k2).symm⟩
    · intro hi
      obtain ⟨m,hm,rfl⟩:=List.mem_map.1 hi
      obtain ⟨p,n,v,k1,k2,k3,k4,rfl⟩:=h.bw m hm
      exact List.mem_map.2 ⟨p,nR.1 k1,cZ k3⟩
 have:=hp.length_eq
 rw [List.length_map,List.length_map] at this
 rw [this]
theorem wZ (x:Nat):∀ (l:List Nat),(toI l).filter (fun y=>!decide (y=(x:Int)))=toI (l.filter fun p=>!decide (p=x))
 | []=>rfl
 | p :: l=>by
   have ih:=wZ x l
   rw [show toI (p :: l)=(p:Int) :: toI l from rfl]
   by_cases e:p=x
   · rw [List.filter_cons_of_neg (by simp [e]),List.filter_cons_of_neg (by simp [e]),ih]
   · rw [List.filter_cons_of_pos (by simp; omega),List.filter_cons_of_pos (by simp [e]),ih]; rfl
theorem aCT {A:AS} {ns:List Nk} {first:Int} {cl:List Int} {R K:Int} {N:List Nd} {E:List Int} (h:TS A ns first cl R K N E) {x:Nat} (hx:gK A x) (room keep:Int) :
 ∃ L y Rr ns' first' cl',N=L ++ y :: Rr ∧ y.ID=idP ns x ∧ fM (x:Int) room keep A.Cells A.Free A.Used ns first cl=some (room,keep,(pJ A x).Cells,(pJ A x).Free,(pJ A x).Used,ns',first',cl') ∧ TS (pJ A x) ns' first' cl' R K (offS L y Rr) (E.filter fun e=>!decide (e=y.ID)) ∧ ∀ q,idP ns' q=idP ns q:=by
 obtain ⟨sp,kids,hR,h0⟩:=h.rl
 obtain ⟨cN,c1,c2,c3⟩:=h.cn
 obtain ⟨r,hr⟩:=h.fv.rk
 have hEl:(E.length:Int) ≤ K:=h.fv.el
 have hK:K ≤ 24:=h.fv.kp.2.2
 have hcl:cl.length ≤ 100000:=by
  rw [c1]
  rw [c3,List.length_map] at hEl
  unfold toI
  rw [List.length_map]; omega
 obtain ⟨L,y,Rr,ns',first',kids',g1,g2,g3,g4,g5,g6⟩:=off_ok hR h0 (fun m hm=>(h.fv.ra m hm).1.1) (fun m hm=>(h.fv.ra m hm).2) hr hx room keep hcl
 refine ⟨L,y,Rr,ns',first',_,g1,g2,g3,⟨⟨_,kids',g4,g5⟩,⟨cN.filter fun p=>!decide (p=x),by rw [c1,wZ],fun p hp=>?_,?_⟩,aCy h.fv g1,?_,h.rm⟩,g6⟩
 · obtain ⟨h1,h2⟩:=List.mem_filter.1 hp
   exact (mQ hx p).2 ⟨c2 p h1,fun e=>by rw [decide_eq_true e] at h2; cases h2⟩
 · rw [g2,c3,List.filter_map,List.map_congr_left (fun p _=>g6 p)]
   congr 1
   refine List.filter_congr fun p hp=>?_
   show (!decide (idP ns p=idP ns x)) = !decide (p=x)
   congr 1
   by_cases e:p=x
   · rw [decide_eq_true e,decide_eq_true (by rw [e])]
   · rw [decide_eq_false e,decide_eq_false (fun hh=>e (hR.inj p x (c2 p hp) hx hh))]
 · have:=h.ln
   rw [g1] at this
   unfold offS
   rw [List.length_map]
   simp at this ⊢
   omega
end Go.Fn
open Go Go.IL
namespace Go.Fn
def offT (N:List Nd) (e:Int):List Nd:=match N.find? (fun n=>decide (n.ID=e)) with
 | some y=>(N.filter fun n=>!decide (n.ID=e)).map (offN y (sumS (N.filter fun n=>!decide (n.ID=e)) y.ID))
 | none=>N
theorem aCV {N L Rr:List Nd} {y:Nd} {e:Int} (hs:N.Pairwise (fun a b=>a.ID < b.ID)) (hN:N=L ++ y :: Rr) (he:y.ID=e):offS L y Rr=offT N e:=by
 rw [hN] at hs
 obtain ⟨s1,s2,s3⟩:=List.pairwise_append.1 hs
 have hL:∀ m ∈ L,m.ID ≠ e:=fun m hm hh=>by
  have:=s3 m hm y (List.mem_cons_self ..)
  omega
 have hR:∀ m ∈ Rr,m.ID ≠ e:=fun m hm hh=>by
  have:=(List.pairwise_cons.1 s2).1 m hm
  omega
 have hf:N.find? (fun n=>decide (n.ID=e))=some y:=by
  rw [hN,List.find?_append,List.find?_eq_none.2 (fun m hm=>by simp [hL m hm]),Option.none_or,List.find?_cons_of_pos (by simp [he])]
 have hfl:N.filter (fun n=>!decide (n.ID=e))=L ++ Rr:=by
  rw [hN,List.filter_append,List.filter_cons_of_neg (by simp [he]),List.filter_eq_self.2 (fun m hm=>by simp [hL m hm]),List.filter_eq_self.2 (fun m hm=>by simp [hR m hm])]
 unfold offT offS
 rw [hf,hfl]
def aDm (id:Int) (w:Ws):Prop:=(1 ≤ id ∧ id ≤ 1048576) ∧ w.dep ≠ id ∧ 0 ≤ w.dep ∧ 1 ≤ w.weight ∧ w.weight ≤ 256
def fullS (N:List Nd) (id:Int) (w:Ws):List Int → Int × List Nd × List Int
 | []=>(7,N,[])
 | e :: E=>(0,mV (newS (offT N e) id) id w,(e :: E).filter fun z=>!decide (z=e))
def insS (R:Int) (N:List Nd) (E:List Int) (id:Int) (w:Ws):Int × List Nd × List Int :=
 if (N.length:Int) < R then (0,mV (newS N id) id w,E) else fullS N id w E
theorem aBC {A:AS} {ns:List Nk} {first:Int} {cl:List Int} {R K:Int} {N:List Nd} {E:List Int} (h:TS A ns first cl R K N E) (hlt:(N.length:Int) < R) {id:Int} {w:Ws} (hw:aDm id w) (hno:∀ m ∈ N,m.ID ≠ id) (room keep:Int) :
 ∃ A' ns' first',fV id w room keep A.Cells A.Free A.Used ns first cl=some (0,room,keep,A'.Cells,A'.Free,A'.Used,ns',first',cl) ∧ TS A' ns' first' cl R K (mV (newS N id) id w) E:=by
 obtain ⟨sp,kids,hR,h0⟩:=h.rl
 obtain ⟨cN,c1,c2,c3⟩:=h.cn
 obtain ⟨r,hr⟩:=h.fv.rk
 have hrm:=h.rm
 obtain ⟨w1,w2,w3,w4⟩:=hw
 have hul:=xW hR
 obtain ⟨A',sp',ns',first',kids',g1,g2,g3,g4⟩:=aDg hR h0 (fun m hm=>(h.fv.ra m hm).1.1) (by omega) (by omega) hr h.fv.pa w1.1 hno w w2 w3 room keep cl
 have hfn:=fv_new h.fv w1 hno (by omega)
 obtain ⟨f1,f2⟩:=aBG hfn (x:=id) ⟨_,(aAj h.fv.so hno _).2 (.inl rfl),rfl⟩ w2 w4
 refine ⟨A',ns',first',g1,⟨⟨sp',kids',g2,g3⟩,⟨cN,c1,fun p hp=>(g4 p (c2 p hp)).1,?_⟩,f1,?_,hrm⟩⟩
 · rw [c3]
   exact List.map_congr_left fun p hp=>((g4 p (c2 p hp)).2).symm
 · rw [f2,aAi (N:=N) h.fv.so hno]; omega
theorem aAJ {A:AS} {ns:List Nk} {first:Int} {cl:List Int} {R K:Int} {N:List Nd} {E:List Int} (h:TS A ns first cl R K N E) {id:Int} {w:Ws} (hw:aDm id w) (hno:∀ m ∈ N,m.ID ≠ id) :
 ∃ A' ns' first' cl',iO id w R K A.Cells A.Free A.Used ns first cl=some ((insS R N E id w).1,R,K,A'.Cells,A'.Free,A'.Used,ns',first',cl') ∧ TS A' ns' first' cl' R K (insS R N E id w).2.1 (insS R N E id w).2.2:=by
 obtain ⟨sp,kids,hR,h0⟩:=h.rl
 obtain ⟨cN,c1,c2,c3⟩:=h.cn
 have hul:=xW hR
 have hln:=h.ln
 unfold iO mZ
 rw [bnoS,bndD,hul]
 by_cases hlt:(N.length:Int) < R
 · rw [decide_eq_false (by omega),bD]
   obtain ⟨A',ns',first',g1,g2⟩:=aBC h hlt hw hno R K
   rw [hul] at g1
   have e:insS R N E id w=(0,mV (newS N id) id w,E):=if_pos hlt
   rw [e]
   exact ⟨A',ns',first',cl,g1,g2⟩
 · rw [decide_eq_true (by omega),bM,chk,if_pos hR.len,bndD]
   have e:insS R N E id w=fullS N id w E:=if_neg hlt
   rw [e]
   cases cN with
   | nil =>
     have hc:cl=[]:=c1
     have hE:E=[]:=c3
     subst hc
     subst hE
     refine ⟨A,ns,first,[],?_,h⟩
     rw [← hul]; rfl
   | cons p cN =>
     have hE:E=idP ns p :: cN.map (idP ns):=c3
     have hc:cl=(p:Int) :: toI cN:=c1
     obtain ⟨L,y,Rr,ns1,first1,cl1,g1,g2,g3,g4,g5⟩:=aCT h (c2 p (by simp)) R K
     rw [hul] at g3
     have hT:offS L y Rr=offT N (idP ns p):=aCV h.fv.so g1 g2
     rw [hT,g2] at g4
     have hno1:∀ m ∈ offT N (idP ns p),m.ID ≠ id:=fun m hm=>by
      rw [← hT] at hm
      unfold offS at hm
      obtain ⟨m0,hm0,rfl⟩:=List.mem_map.1 hm
      rw [qF]
      refine hno m0 ?_
      rw [g1]
      rcases List.mem_append.1 hm0 with hm | hm
      · exact List.mem_append.2 (.inl hm)
      · exact List.mem_append.2 (.inr (List.mem_cons_of_mem _ hm))
     have hl1:((offT N (idP ns p)).length:Int) < R:=by
      rw [← hT]
      rw [g1] at hln
      unfold offS
      rw [List.length_map]
      simp at hln ⊢
      omega
     obtain ⟨A',ns',first',k1,k2⟩:=aBC g4 hl1 hw hno1 R K
     rw [hE] at k2 ⊢
     refine ⟨A',ns',first',cl1,?_,k2⟩
     rw [hc]
     rw [show decide ((((p:Int) :: toI cN).length:Int)=0)=false from decide_eq_false (by simp; omega),bD]
     show (bno (fM (p:Int) R K A.Cells A.Free (N.length:Int) ns first ((p:Int) :: toI cN)) _)=_
     rw [← hc,g3,bnoS]
     exact k1
end Go.Fn
