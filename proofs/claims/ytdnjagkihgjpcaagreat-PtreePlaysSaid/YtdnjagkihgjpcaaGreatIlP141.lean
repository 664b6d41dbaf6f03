/-
  A part of the proof: rules and plain facts. No condition.
-/
import Derived.Test.YtdnjagkihgjpcaaGreatIlSo
import Derived.KernelRfl
import Derived.Test.YtdnjagkihgjpcaaGreatIlA19zD
set_option linter.all false
open Go Go.IL
namespace Go.Fn
theorem gY {α:Type} {l p r:List α} {x:α} (h:l=p ++ x :: r):gix l (p.length:Int)=some x:=by
 subst h; rw [dS,List.getElem?_append_right (Nat.le_refl _)]; simp
theorem mM {α:Type} {l p r:List α} {x:α} (h:l=p ++ x :: r):decide ((p.length:Int) < (l.length:Int))=true:=by
 subst h; simp; omega
theorem mG {α:Type} {l:List α}:decide ((l.length:Int) < (l.length:Int))=false:=by simp
theorem w_at {α:Type} {l p r:List α} {x:α} (h:l=p ++ x :: r) (hl:l.length ≤ 1000000):IntKind.wrap .i64 ((p.length:Int) + 1)=((p ++ [x]).length:Int):=by
 subst h; simp only [List.length_append,List.length_cons,List.length_nil] at hl ⊢; rw [w64 (by omega) (by omega)]; omega
theorem kI {α:Type} {l p r:List α} {x:α} (h:l=p ++ x :: r):l=(p ++ [x]) ++ r:=by rw [h]; simp
theorem ft:(false == true)=false:=rfl
theorem aBo {α:Type} {l p r:List α} (h:l=p ++ r):cut l 0 (p.length:Int)=some p:=by
 subst h; unfold cut; rw [if_pos (by simp; omega)]; simp
theorem aCM {α:Type} {l p r:List α} (h:l=p ++ r):cut l (p.length:Int) (l.length:Int)=some r:=by
 subst h; unfold cut; rw [if_pos (by simp; omega),Int.toNat_natCast,Int.toNat_natCast,List.take_length,List.drop_left]
theorem zY {α:Type} {L:Nat → Int → Option Int} {l:List α} {q:α → Bool}
 (h1:∀ p x r f,l=p ++ x :: r → L (f + 1) (p.length:Int)=bif q x then some (p.length:Int) else L f ((p ++ [x]).length:Int)) (h0:∀ f,L (f + 1) (l.length:Int)=some (-1)) :
 ∀ (r p:List α) (f:Nat),l=p ++ r → r.length < f → (∀ y ∈ p,q y=false) →
   (L f (p.length:Int)=some (-1) ∧ ∀ y ∈ l,q y=false) ∨ ∃ a x t,l=a ++ x :: t ∧ (∀ y ∈ a,q y=false) ∧ q x=true ∧ L f (p.length:Int)=some (a.length:Int)
 | [],p,f + 1,h,_,ha=>by
   left
   rw [List.append_nil] at h
   subst h
   exact ⟨h0 f,ha⟩
 | y :: r,p,f + 1,h,hf,ha=>by
   rw [h1 p y r f h]
   rcases Bool.eq_false_or_eq_true (q y) with hb | hb
   · right; exact ⟨p,y,r,h,ha,hb,by rw [hb]; rfl⟩
   · rw [hb,bG]
     exact zY h1 h0 r (p ++ [y]) f (kI h) (by simpa using hf) (fun z hz=>by
      rcases List.mem_append.1 hz with hz | hz
      · exact ha z hz
      · rw [List.mem_singleton.1 hz]; exact hb)
theorem wJ {α:Type} {L:Nat → List α → Int → Int → Option (List α)} {q:α → Bool}
 (h1:∀ (f:Nat) (l:List α) (i j:Nat) (x:α),l.length ≤ 100000 → i ≤ j → j < l.length → l[j]? = some x → L (f + 1) l (i:Int) (j:Int)=bif !q x then L f (l.set i x) ((i + 1:Nat):Int) ((j + 1:Nat):Int) else L f l (i:Int) ((j + 1:Nat):Int))
 (h0:∀ (f:Nat) (l:List α) (i:Nat),i ≤ l.length → L (f + 1) l (i:Int) (l.length:Int)=some (l.take i)) :
 ∀ (r k m:List α) (f:Nat),k.length + m.length + r.length ≤ 100000 → r.length < f →
   L f (k ++ m ++ r) (k.length:Int) ((k.length + m.length:Nat):Int)=some (k ++ r.filter fun y=>!q y)
 | [],k,m,f + 1,hl,_=>by
   have:=h0 f (k ++ m) k.length (by simp)
   rw [List.append_nil,show ((k.length + m.length:Nat):Int)=((k ++ m).length:Int) by simp,this]; simp
 | y :: r,k,m,f + 1,hl,hf=>by
   simp only [List.length_cons] at hl hf
   have hy:(k ++ m ++ y :: r)[k.length + m.length]? = some y:=by
    rw [List.getElem?_append_right (by simp)]; simp
   have hlen:(k ++ m ++ y :: r).length=k.length + m.length + (r.length + 1):=by simp; omega
   rw [h1 f (k ++ m ++ y :: r) k.length (k.length + m.length) y (by omega) (by omega) (by omega) hy]
   rcases Bool.eq_false_or_eq_true (q y) with hb | hb
   · rw [hb,Bool.not_true,bG,List.filter_cons_of_neg (by simp [hb])]
     have:=wJ h1 h0 r k (m ++ [y]) f (by simp; omega) (by omega)
     rw [show k ++ m ++ y :: r=k ++ (m ++ [y]) ++ r by simp,← this]; congr 1; simp; omega
   · rw [hb,Bool.not_false,bX,List.filter_cons_of_pos (by simp [hb])]
     obtain ⟨m2,h3,h2⟩:∃ m2:List α,m2.length=m.length ∧ (k ++ m ++ y :: r).set k.length y=k ++ [y] ++ m2 ++ r:=by
      rw [List.append_assoc k m,List.set_append_right _ _ (Nat.le_refl _),Nat.sub_self]
      cases m with
      | nil=>exact ⟨[],rfl,by simp⟩
      | cons a m=>exact ⟨m ++ [y],by simp,by simp⟩
     rw [h2]
     have:=wJ h1 h0 r (k ++ [y]) m2 f (by simp; omega) (by omega)
     rw [show k ++ y :: List.filter (fun y=>!q y) r=k ++ [y] ++ List.filter (fun y=>!q y) r by simp,← this]
     congr 1 <;> simp <;> omega
theorem aCL {α:Type} {I:Nat → Int → Option Int} {L:Nat → List α → Int → Int → Option (List α)} {l:List α} {q:α → Bool} (hl:l.length ≤ 100000)
 (i1:∀ p x r f,l=p ++ x :: r → I (f + 1) (p.length:Int)=bif q x then some (p.length:Int) else I f ((p ++ [x]).length:Int)) (i0:∀ f,I (f + 1) (l.length:Int)=some (-1))
 (h1:∀ (f:Nat) (l:List α) (i j:Nat) (x:α),l.length ≤ 100000 → i ≤ j → j < l.length → l[j]? = some x → L (f + 1) l (i:Int) (j:Int)=bif !q x then L f (l.set i x) ((i + 1:Nat):Int) ((j + 1:Nat):Int) else L f l (i:Int) ((j + 1:Nat):Int))
 (h0:∀ (f:Nat) (l:List α) (i:Nat),i ≤ l.length → L (f + 1) l (i:Int) (l.length:Int)=some (l.take i)) :
 (bno (I fuel 0) fun x1=>bnd (decide (x1=(-1))) fun x2=>bif x2 then some l else bnd (IntKind.wrap .i64 (x1 + 1)) fun x4=>L fuel l x1 x4)=some (l.filter fun y=>!q y):=by
 rcases zY i1 i0 l [] fuel rfl (eS (by omega)) (fun _ h=>(List.not_mem_nil h).elim) with ⟨e1,e2⟩ | ⟨a,x,t,e1,e2,e3,e4⟩
 · have e1:I fuel 0=some (-1):=e1
   rw [e1,bnoS]
   simp only [bndD,decide_true,bX]
   rw [List.filter_eq_self.2 (fun y hy=>by rw [e2 y hy]; rfl)]
 · have e4:I fuel 0=some (a.length:Int):=e4
   have hql:a.length + (t.length + 1) ≤ 100000:=by rw [e1] at hl; simpa using hl
   rw [e4,bnoS]
   simp only [bndD,decide_eq_false (show ¬ (a.length:Int) = -1 by omega),bG]
   rw [w64 (by omega) (by omega)]
   have:=wJ h1 h0 t a [x] fuel (by simp; omega) (eS (by omega))
   rw [e1,List.filter_append,List.filter_cons_of_neg (by simp [e3]),List.filter_eq_self.2 (fun y hy=>by rw [e2 y hy]; rfl),← this]
   congr 1; simp
theorem xV {α:Type} [DecidableEq α] {L:Nat → Int → Option Bool} {l m:List α} (hm:l.length=m.length)
 (h1:∀ p x r s y t f,l=p ++ x :: r → m=s ++ y :: t → p.length=s.length → L (f + 1) (p.length:Int)=bif !decide (x=y) then some false else L f ((p ++ [x]).length:Int)) {z:Bool} (h0:∀ f,L (f + 1) (l.length:Int)=some z) :
 ∀ (r t p s:List α) (f:Nat),l=p ++ r → m=s ++ t → p.length=s.length → r.length < f → L f (p.length:Int)=some (decide (r=t) && z)
 | [],[],p,s,f + 1,h,k,e,_=>by
   rw [List.append_nil] at h
   subst h
   rw [h0]; simp
 | [],y :: t,p,s,f + 1,h,k,e,_=>by rw [h,k] at hm; simp at hm; omega
 | x :: r,[],p,s,f + 1,h,k,e,_=>by rw [h,k] at hm; simp at hm; omega
 | x :: r,y :: t,p,s,f + 1,h,k,e,hf=>by
   rw [h1 p x r s y t f h k e]
   by_cases hx:x=y
   · subst hx
     rw [decide_eq_true rfl,Bool.not_true,bG]
     have:=xV hm h1 h0 r t (p ++ [x]) (s ++ [x]) f (kI h) (kI k) (by simp [e]) (by simpa using hf)
     rw [this]; simp
   · rw [decide_eq_false hx,Bool.not_false,bX]; simp [hx]
theorem xW {α:Type} [DecidableEq α] {L:Nat → Int → Option Bool} {l m:List α} (hl:l.length ≤ 1000000)
 (h1:∀ p x r s y t f,l=p ++ x :: r → m=s ++ y :: t → p.length=s.length → L (f + 1) (p.length:Int)=bif !decide (x=y) then some false else L f ((p ++ [x]).length:Int)) {z:Bool} (h0:l.length=m.length → ∀ f,L (f + 1) (l.length:Int)=some z) :
 (bnd (!decide ((l.length:Int)=(m.length:Int))) fun x1=>bif x1 then some false else L fuel 0)=some (decide (l=m) && z):=by
 by_cases hm:l.length=m.length
 · simp only [bndD,decide_eq_true (show (l.length:Int)=(m.length:Int) by omega),Bool.not_true,bG]
   exact xV hm h1 (h0 hm) l m [] [] fuel rfl rfl rfl (eS (by omega))
 · simp only [bndD,decide_eq_false (show ¬ (l.length:Int)=(m.length:Int) by omega),Bool.not_false,bX]
   rw [decide_eq_false (fun h=>hm (by rw [h]))]; rfl
theorem uM {α:Type} {P:α → Option Bool} {q:α → Bool} (hP:∀ x,P x=some (q x)) {I:Nat → Int → Option Int} {L:Nat → List α → Int → Int → Option (List α)} {l:List α}
 (hI:∀ f v,I (f + 1) v=bnd (decide (v < (l.length:Int))) fun x14=>bif x14 then (bno (gix l v) fun x16=>bno (P x16) fun x17=>bif x17 then some v else (bnd (IntKind.wrap .i64 (v + 1)) fun x19=>I f x19)) else some (-1))
 (hL:∀ f a b c,L (f + 1) a b c=bnd (decide (c < (a.length:Int))) fun x32=>bif x32 then (bno (gix a c) fun x34=>bno (a[(c:Int).toNat]?) fun x35=>bno (P x35) fun x36=>bif (!x36) then (bno (gix a b) fun x38=>bno (a[(b:Int).toNat]?) fun x39 =>
   bnd (a.set ((b:Int).toNat) x35) fun x40=>bnd (IntKind.wrap .i64 (b + 1)) fun x41=>bnd (IntKind.wrap .i64 (c + 1)) fun x42=>L f x40 x41 x42) else (bnd (IntKind.wrap .i64 (c + 1)) fun x43=>L f a b x43)) else (bno (cut a 0 b) fun x44=>bno (cut x44 0 b) fun x45=>some x45))
 (hl:l.length ≤ 100000):(bno (I fuel 0) fun x1=>bnd (decide (x1=(-1))) fun x2=>bif x2 then some l else bnd (IntKind.wrap .i64 (x1 + 1)) fun x4=>L fuel l x1 x4)=some (l.filter fun y=>!q y):=by
 refine aCL hl (fun p x r f h=>by
  rw [hI]; simp only [bndD,mM h,bX,gY h,bnoS,hP,w_at h (show l.length ≤ 1000000 by omega)]) (fun f=>by rw [hI]; simp only [bndD,mG,bG]) (fun f a i j x ha hij hj hx=>?_) (fun f a i hi=>?_)
 · rw [hL]
   have hi:i < a.length:=by omega
   simp only [bndD,decide_eq_true (show (j:Int) < (a.length:Int) by omega),bX,dS,hx,bnoS,Int.toNat_natCast,hP,List.getElem?_eq_getElem hi,w64 (show -9223372036854775808 ≤ (j:Int) + 1 by omega) (by omega),w64 (show -9223372036854775808 ≤ (i:Int) + 1 by omega) (by omega)]
   rfl
 · rw [hL]
   have e:(a.take i).length=i:=by rw [List.length_take]; omega
   simp only [bndD,mG,bG]
   have h1:=aBo (l:=a) (List.take_append_drop i a).symm
   have h2:=aBo (l:=a.take i) (p:=a.take i) (r:=[]) (by simp)
   rw [e] at h1 h2
   rw [h1,bnoS,h2,bnoS]
end Go.Fn
open Go Go.IL
namespace Go.Fn
abbrev Nd:=aN
abbrev Fs:=xZ
def I64 (n:Int):Prop:=-9223372036854775808 ≤ n ∧ n ≤ 9223372036854775807
inductive Fd (N:List Nd) (id:Int):Int × Bool → Prop
 | yes (A:List Nd) (y:Nd) (C:List Nd) (h:N=A ++ y :: C) (e:y.ID=id) (ha:∀ a ∈ A,a.ID < id) (hc:∀ c ∈ C,id < c.ID):Fd N id ((A.length:Int),true)
 | no (p:Nat) (hp:p ≤ N.length) (h:∀ n ∈ N,n.ID ≠ id) (h2:0 ≤ id → id ≤ 1048576 → (∀ a ∈ N.take p,a.ID < id) ∧ ∀ c ∈ N.drop p,id < c.ID):Fd N id ((p:Int),false)
def nI (N:List Nd) (id:Int):Option Int:=(N.find? fun n=>decide (n.ID=id)).map (·.Parent)
theorem par_yes {N A C:List Nd} {y:Nd} {id:Int} (h:N=A ++ y :: C) (e:y.ID=id) (ha:∀ a ∈ A,a.ID < id):nI N id=some y.Parent:=by
 unfold nI
 rw [h,List.find?_append]
 have h1:A.find? (fun n=>decide (n.ID=id))=none:=List.find?_eq_none.2 (fun a hm=>by have:=ha a hm; simp; omega)
 rw [h1]
 simp [e]
theorem zN {N:List Nd} {id:Int} (h:∀ n ∈ N,n.ID ≠ id):nI N id=none:=by
 unfold nI
 have h1:N.find? (fun n=>decide (n.ID=id))=none:=List.find?_eq_none.2 (fun a hm=>by have:=h a hm; simpa using this)
 rw [h1]; rfl
def fV (N:List Nd):Nat → Int → List Int
 | 0,_=>[]
 | k + 1,id=>match nI N id with
   | some p=>if p=0 then [] else p :: fV N k p
   | none=>[]
structure Ok34 (N:List Nd):Prop where
 ln:N.length ≤ 1000
 ra:∀ n ∈ N,1 ≤ n.ID ∧ n.ID ≤ 1048576
 so:N.Pairwise (fun a b=>a.ID < b.ID)
 pa:∀ n ∈ N,I64 n.Parent
end Go.Fn
open Go Go.IL
namespace Go.Fn
theorem pY:∀ {l m:List Int},l.Nodup → (∀ x ∈ l,x ∈ m) → l.length ≤ m.length
 | [],m,_,_=>Nat.zero_le _
 | x :: l,m,hn,hs=>by
   obtain ⟨h1,h2⟩:=List.nodup_cons.1 hn
   have hx:=hs x (by simp)
   have:=pY (l:=l) (m:=m.erase x) h2 (fun y hy=>by
    have hne:y ≠ x:=fun e=>h1 (e ▸ hy)
    exact (List.mem_erase_of_ne hne).2 (hs y (by simp [hy])))
   rw [List.length_erase_of_mem hx] at this
   have hp:0 < m.length:=List.length_pos_of_mem hx
   simp only [List.length_cons]; omega
theorem rK {N:List Nd} (h:N.Pairwise (fun a b=>a.ID < b.ID)):(N.map (·.ID)).Nodup:=by
 unfold List.Nodup
 rw [List.pairwise_map]
 exact h.imp (fun h=>by omega)
structure FV (K:Int) (st:Fs):Prop where
 rm:st.Room=24
 kp:st.Keep=K ∧ 0 ≤ K ∧ K ≤ 24
 ln:st.Nodes.length ≤ 24
 el:(st.Ended.length:Int) ≤ K
 so:st.Nodes.Pairwise (fun a b=>a.ID < b.ID)
 ra:∀ n ∈ st.Nodes,(1 ≤ n.ID ∧ n.ID ≤ 1048576) ∧ 1 ≤ n.Weight ∧ n.Weight ≤ 256
 pa:∀ n ∈ st.Nodes,n.Parent=0 ∨ ∃ m ∈ st.Nodes,m.ID=n.Parent
 rk:∃ r:Int → Nat,∀ n ∈ st.Nodes,n.Parent ≠ 0 → r n.Parent < r n.ID
 en:∀ n ∈ st.Nodes,(n.Closed=true ↔ n.ID ∈ st.Ended)
 nd:st.Ended.Nodup
 es:∀ e ∈ st.Ended,∃ n ∈ st.Nodes,n.ID=e
theorem FV.ok {K:Int} {st:Fs} (h:FV K st):Ok34 st.Nodes :=
 ⟨by have:=h.ln; omega,fun n hn=>(h.ra n hn).1,h.so,fun n hn=>by
  rcases h.pa n hn with e | ⟨m,hm,e⟩
  · rw [e]; exact ⟨by decide,by decide⟩
  · have:=(h.ra m hm).1; exact ⟨by omega,by omega⟩⟩
theorem nE {N:List Nd} (h:N.Pairwise (fun a b=>a.ID < b.ID)) {a b:Nd} (ha:a ∈ N) (hb:b ∈ N) (e:a.ID=b.ID):a=b:=by
 obtain ⟨A,C,rfl⟩:=List.append_of_mem ha
 have hp:=List.pairwise_append.1 h
 have hp2:=List.pairwise_cons.1 hp.2.1
 rcases List.mem_append.1 hb with hb | hb
 · have:=hp.2.2 b hb a (by simp); omega
 · rcases List.mem_cons.1 hb with hb | hb
   · exact hb.symm
   · have:=hp2.1 b hb; omega
theorem vS {N:List Nd} {id p:Int} (h:nI N id=some p):∃ n ∈ N,n.ID=id ∧ n.Parent=p:=by
 unfold nI at h
 cases hf:N.find? (fun n=>decide (n.ID=id)) with
 | none=>rw [hf] at h; cases h
 | some n =>
   rw [hf] at h
   have h1:=List.find?_some hf
   exact ⟨n,List.mem_of_find?_eq_some hf,by simpa using h1,by simpa using h⟩
theorem tQ {N:List Nd} (h:N.Pairwise (fun a b=>a.ID < b.ID)) {n:Nd} (hn:n ∈ N):nI N n.ID=some n.Parent:=by
 obtain ⟨A,C,rfl⟩:=List.append_of_mem hn
 have hp:=List.pairwise_append.1 h
 exact par_yes rfl rfl (fun a ha=>hp.2.2 a ha n (by simp))
theorem tP {N:List Nd} {r:Int → Nat} (h:∀ n ∈ N,n.Parent ≠ 0 → r n.Parent < r n.ID):∀ (k:Nat) (id x:Int),x ∈ fV N k id → r x < r id
 | 0,_,_,hx=>(List.not_mem_nil hx).elim
 | k + 1,id,x,hx=>by
   unfold fV at hx
   cases hp:nI N id with
   | none=>rw [hp] at hx; exact (List.not_mem_nil hx).elim
   | some p =>
     rw [hp] at hx
     obtain ⟨n,hn,e1,e2⟩:=vS hp
     by_cases hz:p=0
     · simp only [hz,if_true] at hx; exact (List.not_mem_nil hx).elim
     · simp only [if_neg hz] at hx
       have h1:=h n hn (by rw [e2]; exact hz)
       rw [e1,e2] at h1
       rcases List.mem_cons.1 hx with rfl | hx
       · exact h1
       · have:=tP h k p x hx; omega
theorem sU (N:List Nd):∀ (k:Nat) (id:Int),(fV N k id).length ≤ k
 | 0,_=>Nat.le_refl _
 | k + 1,id=>by
   unfold fV
   cases nI N id with
   | none=>exact Nat.zero_le _
   | some p =>
     have:=sU N k p
     simp only
     split
     · exact Nat.zero_le _
     · rw [List.length_cons]; omega
theorem aAd {K:Int} {st:Fs} (h:FV K st):(st.Nodes.filter (·.Closed)).length=st.Ended.length:=by
 have h1:((st.Nodes.filter (·.Closed)).map (·.ID)).Nodup:=rK (List.Pairwise.sublist List.filter_sublist h.so)
 have h2:=pY h1 (m:=st.Ended) (fun x hx=>by
  obtain ⟨n,hn,rfl⟩:=List.mem_map.1 hx
  obtain ⟨hn,hc⟩:=List.mem_filter.1 hn
  exact (h.en n hn).1 hc)
 have h3:=pY h.nd (m:=(st.Nodes.filter (·.Closed)).map (·.ID)) (fun x hx=>by
  obtain ⟨n,hn,e⟩:=h.es x hx
  exact List.mem_map.2 ⟨n,List.mem_filter.2 ⟨hn,(h.en n hn).2 (by rw [e]; exact hx)⟩,e⟩)
 rw [List.length_map] at h2 h3
 omega
end Go.Fn
open Go Go.IL
namespace Go.Fn
theorem get_app {α:Type} {l p r:List α} {x:α} (h:l=p ++ x :: r):l[((p.length:Nat):Int).toNat]? = some x:=by
 rw [Int.toNat_natCast,h,List.getElem?_append_right (Nat.le_refl _)]; simp
theorem set_app {α:Type} {p r:List α} {x y:α}:(p ++ x :: r).set ((p.length:Nat):Int).toNat y=p ++ y :: r:=by
 rw [Int.toNat_natCast,List.set_append_right _ _ (Nat.le_refl _)]; simp
def sumS:List Nd → Int → Int
 | [],_=>0
 | n :: r,id=>(if n.Parent=id then n.Weight else 0) + sumS r id
theorem tE:∀ (a b:List Nd) (id:Int),sumS (a ++ b) id=sumS a id + sumS b id
 | [],b,id=>by show sumS b id=0 + sumS b id; omega
 | n :: a,b,id=>by
   have:=tE a b id
   show _ + sumS (a ++ b) id=_ + sumS a id + sumS b id
   omega
theorem aCc:∀ {N:List Nd},(∀ n ∈ N,1 ≤ n.Weight ∧ n.Weight ≤ 256) → ∀ id,0 ≤ sumS N id ∧ sumS N id ≤ 256 * N.length
 | [],_,_=>⟨Int.le_refl _,Int.le_refl _⟩
 | n :: r,h,id=>by
   have h1:=aCc (N:=r) (fun x hx=>h x (by simp [hx])) id
   have h2:=h n (by simp)
   have e:sumS (n :: r) id=(if n.Parent=id then n.Weight else 0) + sumS r id:=rfl
   rw [e,List.length_cons]
   split <;> omega
theorem wR:∀ {N:List Nd} {n:Nd},(∀ x ∈ N,1 ≤ x.Weight ∧ x.Weight ≤ 256) → n ∈ N → n.Weight ≤ sumS N n.Parent
 | m :: r,n,h,hn=>by
   have h1:=aCc (N:=r) (fun x hx=>h x (by simp [hx])) n.Parent
   have e:sumS (m :: r) n.Parent=(if m.Parent=n.Parent then m.Weight else 0) + sumS r n.Parent:=rfl
   rw [e]
   rcases List.mem_cons.1 hn with rfl | hn
   · rw [if_pos rfl]; omega
   · have h2:=wR (N:=r) (fun x hx=>h x (by simp [hx])) hn
     have h3:=h m (by simp)
     split <;> omega
def offN (y:Nd) (S:Int) (n:Nd):Nd:=if n.Parent=y.ID then ⟨n.ID,y.Parent,max (y.Weight * n.Weight / S) 1,n.Closed⟩ else n
theorem pN (y:Nd) (S:Int) (n:Nd):(offN y S n).ID=n.ID:=by unfold offN; split <;> rfl
theorem yK (y:Nd) (S:Int) (n:Nd):(offN y S n).Closed=n.Closed:=by unfold offN; split <;> rfl
def offS (A:List Nd) (y:Nd) (C:List Nd):List Nd:=(A ++ C).map (offN y (sumS (A ++ C) y.ID))
theorem aCk {K:Int} {st:Fs} (h:FV K st) {A C:List Nd} {y:Nd} (hN:st.Nodes=A ++ y :: C):FV K ⟨st.Room,st.Keep,offS A y C,st.Ended.filter fun e=>!decide (e=y.ID)⟩:=by
 obtain ⟨r,hr⟩:=h.rk
 have hso:=h.so
 rw [hN] at hso
 have hp:=List.pairwise_append.1 hso
 have hp2:=List.pairwise_cons.1 hp.2.1
 have hmem:∀ n,n ∈ A ++ C → n ∈ st.Nodes ∧ n.ID ≠ y.ID:=fun n hn=>by
  rcases List.mem_append.1 hn with hn | hn
  · exact ⟨by rw [hN]; simp [hn],by have:=hp.2.2 n hn y (by simp); omega⟩
  · exact ⟨by rw [hN]; simp [hn],by have:=hp2.1 n hn; omega⟩
 have hback:∀ n ∈ st.Nodes,n.ID ≠ y.ID → n ∈ A ++ C:=fun n hn hne=>by
  rw [hN] at hn
  rcases List.mem_append.1 hn with hn | hn
  · exact List.mem_append.2 (.inl hn)
  · rcases List.mem_cons.1 hn with rfl | hn
    · exact absurd rfl hne
    · exact List.mem_append.2 (.inr hn)
 have hy:y ∈ st.Nodes:=by rw [hN]; simp
 have hw:∀ n ∈ A ++ C,1 ≤ n.Weight ∧ n.Weight ≤ 256:=fun n hn=>(h.ra n (hmem n hn).1).2
 have hln:=h.ln
 have himg:∀ m ∈ offS A y C,∃ n ∈ A ++ C,m=offN y (sumS (A ++ C) y.ID) n:=fun m hm=>by
  obtain ⟨n,hn,e⟩:=List.mem_map.1 hm
  exact ⟨n,hn,e.symm⟩
 have hin:∀ n ∈ A ++ C,∃ m ∈ offS A y C,m.ID=n.ID:=fun n hn=>⟨_,List.mem_map.2 ⟨n,hn,rfl⟩,pN _ _ _⟩
 have hyp:y.Parent ≠ y.ID:=fun e=>by
  have hyr:=(h.ra y hy).1
  have:=hr y hy (by omega)
  rw [e] at this; omega
 refine ⟨h.rm,h.kp,?_,?_,?_,fun m hm=>?_,fun m hm=>?_,⟨r,fun m hm hz=>?_⟩,fun m hm=>?_,?_,fun e he=>?_⟩
 · show (offS A y C).length ≤ 24
   unfold offS; rw [List.length_map,List.length_append]
   rw [hN] at hln; simp at hln; omega
 · show ((st.Ended.filter _).length:Int) ≤ K
   have:=List.length_filter_le (fun e=>!decide (e=y.ID)) st.Ended
   have:=h.el; omega
 · show (offS A y C).Pairwise _
   unfold offS
   rw [List.pairwise_map]
   have:(A ++ C).Pairwise (fun a b=>a.ID < b.ID):=List.pairwise_append.2 ⟨hp.1,hp2.2,fun a ha b hb=>hp.2.2 a ha b (by simp [hb])⟩
   exact this.imp (fun hab=>by rw [pN,pN]; exact hab)
 · obtain ⟨n,hn,rfl⟩:=himg m hm
   have hnr:=h.ra n (hmem n hn).1
   unfold offN
   split
   · rename_i hpar
     refine ⟨hnr.1,?_⟩
     have hge:=wR hw hn
     rw [hpar] at hge
     have hyw:=(h.ra y hy).2
     have hd:y.Weight * n.Weight / sumS (A ++ C) y.ID ≤ y.Weight:=by
      apply Int.ediv_le_of_le_mul (by omega)
      exact Int.mul_le_mul_of_nonneg_left hge (by omega)
     show 1 ≤ max (y.Weight * n.Weight / sumS (A ++ C) y.ID) 1 ∧ max (y.Weight * n.Weight / sumS (A ++ C) y.ID) 1 ≤ 256
     omega
   · exact hnr
 · obtain ⟨n,hn,rfl⟩:=himg m hm
   obtain ⟨hn1,hn2⟩:=hmem n hn
   have key:∀ p:Int,p ≠ y.ID → (p=0 ∨ ∃ m ∈ st.Nodes,m.ID=p) → (p=0 ∨ ∃ m ∈ offS A y C,m.ID=p):=fun p hpy hh=>by
    rcases hh with hh | ⟨q,hq,e⟩
    · exact .inl hh
    · obtain ⟨z,hz,ez⟩:=hin q (hback q hq (by rw [e]; exact hpy))
      exact .inr ⟨z,hz,ez.trans e⟩
   unfold offN
   split
   · exact key y.Parent hyp (h.pa y hy)
   · rename_i hpar
     exact key n.Parent hpar (h.pa n hn1)
 · obtain ⟨n,hn,rfl⟩:=himg m hm
   obtain ⟨hn1,hn2⟩:=hmem n hn
   rw [pN]
   unfold offN at hz ⊢
   split
   · rename_i hpar
     rw [if_pos hpar] at hz
     have hz:y.Parent ≠ 0:=hz
     have h1:=hr y hy hz
     have hyr:=(h.ra y hy).1
     have h2:=hr n hn1 (by rw [hpar]; omega)
     rw [hpar] at h2
     show r y.Parent < r n.ID
     omega
   · rename_i hpar
     rw [if_neg hpar] at hz
     exact hr n hn1 hz
 · obtain ⟨n,hn,rfl⟩:=himg m hm
   obtain ⟨hn1,hn2⟩:=hmem n hn
   rw [yK,pN]
   have:=h.en n hn1
   show _ ↔ n.ID ∈ st.Ended.filter _
   rw [List.mem_filter,this]
   simp [hn2]
 · exact h.nd.filter _
 · obtain ⟨he1,he2⟩:=List.mem_filter.1 he
   have he2:e ≠ y.ID:=by simpa using he2
   obtain ⟨n,hn,en⟩:=h.es e he1
   obtain ⟨z,hz,ez⟩:=hin n (hback n hn (by rw [en]; exact he2))
   exact ⟨z,hz,ez.trans en⟩
end Go.Fn
open Go Go.IL
namespace Go.Fn
inductive Anc (N:List Nd) (x:Int):Int → Prop
 | here:Anc N x x
 | up (n:Nd) (hn:n ∈ N) (hx:n.ID ≠ x) (hp:n.Parent ≠ 0) (h:Anc N x n.Parent):Anc N x n.ID
inductive Blw (N:List Nd) (x d:Int):Int → Prop
 | child (n:Nd) (hn:n ∈ N) (hx:n.ID ≠ x) (hp:n.Parent=d):Blw N x d n.ID
 | up (n:Nd) (hn:n ∈ N) (hx:n.ID ≠ x) (hp:n.Parent ≠ 0) (h:Blw N x d n.Parent):Blw N x d n.ID
def Rk (N:List Nd) (x:Int) (r:Int → Nat):Prop:=∀ n ∈ N,n.ID ≠ x → n.Parent ≠ 0 → r n.Parent < r n.ID
theorem aAF {N:List Nd} {x:Int} {r:Int → Nat} (h:Rk N x r) {z:Int} (ha:Anc N x z):z=x ∨ r x < r z:=by
 induction ha with
 | here=>exact .inl rfl
 | up n hn hx hp _ ih =>
   have:=h n hn hx hp
   rcases ih with e | e
   · rw [e] at this; exact .inr this
   · exact .inr (by omega)
theorem aAG {N:List Nd} {x z:Int} (ha:Anc N x z):z=x ∨ ∃ n ∈ N,n.ID=z:=by
 cases ha with
 | here=>exact .inl rfl
 | up n hn _ _ _=>exact .inr ⟨n,hn,rfl⟩
theorem aCR {N:List Nd} {x d:Int} {r:Int → Nat} (h:Rk N x r) (hd:d ≠ 0) {z:Int} (ha:Blw N x d z):r d < r z:=by
 induction ha with
 | child n hn hx hp=>have:=h n hn hx (by rw [hp]; exact hd); rw [hp] at this; exact this
 | up n hn hx hp _ ih=>have:=h n hn hx hp; omega
theorem yZ {N:List Nd} (hs:N.Pairwise (fun a b=>a.ID < b.ID)) {x:Int} {n:Nd} (hn:n ∈ N) (hx:n.ID ≠ x) (ha:Anc N x n.ID):Anc N x n.Parent:=by
 generalize hz:n.ID=z at ha
 cases ha with
 | here=>exact absurd hz hx
 | up m hm hmx hmp h =>
   have:m=n:=nE hs hm hn hz.symm
   subst this; exact h
theorem blw_par {N:List Nd} (hs:N.Pairwise (fun a b=>a.ID < b.ID)) {x d:Int} {n:Nd} (hn:n ∈ N) (ha:Blw N x d n.ID):n.Parent=d ∨ Blw N x d n.Parent:=by
 generalize hz:n.ID=z at ha
 cases ha with
 | child m hm hmx hmp =>
   have:m=n:=nE hs hm hn hz.symm
   subst this; exact .inl hmp
 | up m hm hmx hmp h =>
   have:m=n:=nE hs hm hn hz.symm
   subst this; exact .inr h
def kU (x d w:Int) (only:Bool) (n:Nd):Nd:=if n.ID=x then ⟨n.ID,d,w,n.Closed⟩ else if only=true ∧ n.Parent=d then ⟨n.ID,x,n.Weight,n.Closed⟩ else n
theorem zZ (x d w:Int) (o:Bool) (n:Nd):(kU x d w o n).ID=n.ID:=by unfold kU; split; rfl; split <;> rfl
theorem xR (x d w:Int) (o:Bool) (n:Nd):(kU x d w o n).Closed=n.Closed:=by unfold kU; split; rfl; split <;> rfl
theorem aBc {N:List Nd} (hs:N.Pairwise (fun a b=>a.ID < b.ID)) {x d w:Int} {o:Bool} {r:Int → Nat} (h:Rk N x r) (hx0:x ≠ 0) (hz:∀ n ∈ N,n.ID ≠ 0) (hd:d ≠ 0 → ¬ Anc N x d):∃ r':Int → Nat,∀ m ∈ N.map (kU x d w o),m.Parent ≠ 0 → r' m.Parent < r' m.ID:=by
 classical
 refine ⟨fun z=>if Anc N x z then r z + (r x + r d + 1) else if Blw N x d z then r z + 2 * (r x + r d + 1) else r z,fun m hm hp=>?_⟩
 obtain ⟨n,hn,rfl⟩:=List.mem_map.1 hm
 rw [zZ]
 have hxa:Anc N x x:=.here
 have hnb:d ≠ 0 → ¬ Blw N x d d:=fun h0 hb=>by have:=aCR h h0 hb; omega
 by_cases hx:n.ID=x
 · -- the node itself
   have e:(kU x d w o n).Parent=d:=by unfold kU; rw [if_pos hx]
   rw [e] at hp ⊢
   rw [hx]
   simp only [if_neg (hd hp),if_neg (hnb hp),if_pos hxa]
   omega
 · by_cases ho:o=true ∧ n.Parent=d
   · have e:(kU x d w o n).Parent=x:=by unfold kU; rw [if_neg hx,if_pos ho]
     rw [e]
     have hb:Blw N x d n.ID:=.child n hn hx ho.2
     have hna:¬ Anc N x n.ID:=fun ha=>by
      have h1:=yZ hs hn hx ha
      rw [ho.2] at h1
      by_cases h0:d=0
      · rw [h0] at h1
        rcases aAG h1 with e | ⟨q,hq,e⟩
        · exact hx0 e.symm
        · exact hz q hq e
      · exact hd h0 h1
     simp only [if_pos hxa,if_neg hna,if_pos hb]
     omega
   · have e:kU x d w o n=n:=by unfold kU; rw [if_neg hx,if_neg ho]
     rw [e] at hp ⊢
     have hr:=h n hn hx hp
     by_cases ha:Anc N x n.ID
     · have h1:=yZ hs hn hx ha
       simp only [if_pos ha,if_pos h1]
       omega
     · have h1:¬ Anc N x n.Parent:=fun h1=>ha (.up n hn hx hp h1)
       by_cases hb:Blw N x d n.ID
       · rcases blw_par hs hn hb with h2 | h2
         · have hd0:d ≠ 0:=by rw [← h2]; exact hp
           have h3:¬ Blw N x d n.Parent:=by rw [h2]; exact hnb hd0
           simp only [if_neg ha,if_neg h1,if_pos hb,if_neg h3]
           omega
         · simp only [if_neg ha,if_neg h1,if_pos hb,if_pos h2]
           omega
       · have h2:¬ Blw N x d n.Parent:=fun h2=>hb (.up n hn hx hp h2)
         simp only [if_neg ha,if_neg h1,if_neg hb,if_neg h2]
         omega
theorem zM {N:List Nd} (hs:N.Pairwise (fun a b=>a.ID < b.ID)) {x:Int}:∀ (k:Nat) (z:Int),z ≠ x → x ∈ fV N k z → x ≠ 0 → Anc N x z
 | 0,_,_,hx,_=>(List.not_mem_nil hx).elim
 | k + 1,z,hzx,hx,h0=>by
   unfold fV at hx
   cases hp:nI N z with
   | none=>rw [hp] at hx; exact (List.not_mem_nil hx).elim
   | some p =>
     rw [hp] at hx
     obtain ⟨n,hn,e1,e2⟩:=vS hp
     by_cases hq:p=0
     · simp only [hq,if_true] at hx; exact (List.not_mem_nil hx).elim
     · simp only [if_neg hq] at hx
       subst e1 e2
       by_cases hpx:n.Parent=x
       · exact .up n hn hzx hq (by rw [hpx]; exact .here)
       · rcases List.mem_cons.1 hx with e | hx
         · exact absurd e.symm hpx
         · exact .up n hn hzx hq (zM hs k n.Parent hpx hx h0)
theorem xA {N:List Nd}:∀ (k:Nat) (z x:Int),x ∈ fV N k z → x ∈ fV N (k + 1) z
 | 0,_,_,hx=>(List.not_mem_nil hx).elim
 | k + 1,z,x,hx=>by
   unfold fV at hx ⊢
   cases hp:nI N z with
   | none=>rw [hp] at hx; exact (List.not_mem_nil hx).elim
   | some p =>
     rw [hp] at hx
     by_cases hq:p=0
     · simp only [hq,if_true] at hx; exact (List.not_mem_nil hx).elim
     · simp only [if_neg hq] at hx ⊢
       rcases List.mem_cons.1 hx with e | hx
       · rw [e]; exact List.mem_cons_self
       · exact List.mem_cons_of_mem _ (xA k p x hx)
theorem wZ {N:List Nd}:∀ (k:Nat) (z:Int),(fV N k z).length < k → fV N (k + 1) z=fV N k z
 | 0,_,h=>absurd h (by omega)
 | k + 1,z,h=>by
   rw [fV] at h
   rw [fV,fV]
   cases hp:nI N z with
   | none=>rfl
   | some p =>
     rw [hp] at h
     by_cases hq:p=0
     · simp only [hq,if_true]
     · simp only [if_neg hq,List.length_cons] at h ⊢
       rw [wZ k p (by omega)]
theorem aCT {N:List Nd} (hs:N.Pairwise (fun a b=>a.ID < b.ID)) {x z:Int} (h:Anc N x z):z=x ∨ ∃ k,x ∈ fV N k z:=by
 induction h with
 | here=>exact .inl rfl
 | up n hn hx hp _ ih =>
   right
   rcases ih with e | ⟨k,hk⟩
   · refine ⟨1,?_⟩
     rw [fV,tQ hs hn]
     simp only [if_neg hp]
     rw [e]; exact List.mem_cons_self
   · refine ⟨k + 1,?_⟩
     rw [fV,tQ hs hn]
     simp only [if_neg hp]
     exact List.mem_cons_of_mem _ hk
theorem pX {N:List Nd} (hs:N.Pairwise (fun a b=>a.ID < b.ID)) {r:Int → Nat} (hr:∀ n ∈ N,n.Parent ≠ 0 → r n.Parent < r n.ID) (hpa:∀ n ∈ N,n.Parent=0 ∨ ∃ m ∈ N,m.ID=n.Parent):∀ (k:Nat) (z:Int),(∃ n ∈ N,n.ID=z) → (z :: fV N k z).Nodup ∧ ∀ y ∈ z :: fV N k z,y ∈ N.map (·.ID)
 | 0,z,⟨n,hn,e⟩=>⟨by simp [fV],fun y hy=>by
   rcases List.mem_cons.1 hy with rfl | hy
   · exact List.mem_map.2 ⟨n,hn,e⟩
   · exact (List.not_mem_nil hy).elim⟩
 | k + 1,z,⟨n,hn,e⟩=>by
   subst e
   have hz:n.ID ∈ N.map (·.ID):=List.mem_map.2 ⟨n,hn,rfl⟩
   have hnot:¬ n.ID ∈ fV N (k + 1) n.ID:=fun hm=>by have:=tP hr (k + 1) _ _ hm; omega
   refine ⟨List.nodup_cons.2 ⟨hnot,?_⟩,fun y hy=>?_⟩
   · rw [fV,tQ hs hn]
     by_cases hq:n.Parent=0
     · simp only [if_pos hq]; exact List.nodup_nil
     · simp only [if_neg hq]
       rcases hpa n hn with e | ⟨m,hm,e⟩
       · exact absurd e hq
       · exact (pX hs hr hpa k n.Parent ⟨m,hm,e⟩).1
   · rcases List.mem_cons.1 hy with rfl | hy
     · exact hz
     · rw [fV,tQ hs hn] at hy
       by_cases hq:n.Parent=0
       · simp only [if_pos hq] at hy; exact (List.not_mem_nil hy).elim
       · simp only [if_neg hq] at hy
         rcases hpa n hn with e | ⟨m,hm,e⟩
         · exact absurd e hq
         · exact (pX hs hr hpa k n.Parent ⟨m,hm,e⟩).2 y hy
theorem qZ {N:List Nd} (hs:N.Pairwise (fun a b=>a.ID < b.ID)) {r:Int → Nat} (hr:∀ n ∈ N,n.Parent ≠ 0 → r n.Parent < r n.ID) (hpa:∀ n ∈ N,n.Parent=0 ∨ ∃ m ∈ N,m.ID=n.Parent) {z:Int} (hz:∃ n ∈ N,n.ID=z):∀ (j:Nat),fV N (N.length + j) z=fV N N.length z
 | 0=>rfl
 | j + 1=>by
   have h1:=qZ hs hr hpa hz j
   obtain ⟨h2,h3⟩:=pX hs hr hpa N.length z hz
   have h4:=pY h2 h3
   rw [List.length_cons,List.length_map] at h4
   have:=wZ (N:=N) (N.length + j) z (by rw [h1]; omega)
   rw [show N.length + (j + 1)=N.length + j + 1 by omega,this,h1]
theorem xB {N:List Nd} (k:Nat) (z x:Int) (h:x ∈ fV N k z):∀ j,x ∈ fV N (k + j) z
 | 0=>h
 | j + 1=>xA _ _ _ (xB k z x h j)
theorem not_anc {N:List Nd} (hs:N.Pairwise (fun a b=>a.ID < b.ID)) {r:Int → Nat} (hr:∀ n ∈ N,n.Parent ≠ 0 → r n.Parent < r n.ID) (hpa:∀ n ∈ N,n.Parent=0 ∨ ∃ m ∈ N,m.ID=n.Parent) {x z:Int} (hz:∃ n ∈ N,n.ID=z) (hzx:z ≠ x) (h:¬ x ∈ fV N N.length z):¬ Anc N x z:=fun ha=>by
 rcases aCT hs ha with e | ⟨k,hk⟩
 · exact hzx e
 · have h1:=xB k z x hk N.length
   rw [show k + N.length=N.length + k by omega,qZ hs hr hpa hz k] at h1
   exact h h1
end Go.Fn
open Go Go.IL
namespace Go.Fn
theorem uF {A C:List Nd} {y:Nd} (hs:(A ++ y :: C).Pairwise (fun a b=>a.ID < b.ID)):(∀ a ∈ A,a.ID ≠ y.ID) ∧ ∀ c ∈ C,c.ID ≠ y.ID:=by
 have hp:=List.pairwise_append.1 hs
 have hp2:=List.pairwise_cons.1 hp.2.1
 exact ⟨fun a ha=>by have:=hp.2.2 a ha y (by simp); omega,fun c hc=>by have:=hp2.1 c hc; omega⟩
def mvN (d p:Int) (n:Nd):Nd:=if n.ID=d then ⟨n.ID,p,n.Weight,n.Closed⟩ else n
theorem kD (d p:Int) (n:Nd):(mvN d p n).ID=n.ID:=by unfold mvN; split <;> rfl
structure HP (N:List Nd) (x:Int) (r:Int → Nat):Prop where
 ok:Ok34 N
 xm:∃ n ∈ N,n.ID=x
 ra:∀ n ∈ N,1 ≤ n.Weight ∧ n.Weight ≤ 256
 pa:∀ n ∈ N,n.ID ≠ x → n.Parent=0 ∨ ∃ m ∈ N,m.ID=n.Parent
 rk:Rk N x r
 xs:((∀ n ∈ N,n.Parent ≠ 0 → r n.Parent < r n.ID) ∧ ∀ n ∈ N,n.Parent=0 ∨ ∃ m ∈ N,m.ID=n.Parent) ∨ ∀ n ∈ N,n.ID ≠ x → n.Parent ≠ x
structure Hung (N:List Nd) (g:Nd → Nd):Prop where
 id:∀ n,(g n).ID=n.ID
 cl:∀ n,(g n).Closed=n.Closed
 ra:∀ n ∈ N,1 ≤ (g n).Weight ∧ (g n).Weight ≤ 256
 pa:∀ n ∈ N,(g n).Parent=0 ∨ ∃ m ∈ N,m.ID=(g n).Parent
 rk:∃ r:Int → Nat,∀ m ∈ N.map g,m.Parent ≠ 0 → r m.Parent < r m.ID
theorem wG {N:List Nd} {x d w:Int} {o:Bool} {r:Int → Nat} (h:HP N x r) (hw:1 ≤ w ∧ w ≤ 256) (hd:d ≠ 0 → (∃ m ∈ N,m.ID=d) ∧ ¬ Anc N x d):Hung N (kU x d w o):=by
 obtain ⟨y,hy,hyx⟩:=h.xm
 have hyr:=h.ok.ra y hy
 refine ⟨zZ x d w o,xR x d w o,fun n hn=>?_,fun n hn=>?_,aBc h.ok.so h.rk (by omega) (fun n hn=>by have:=h.ok.ra n hn; omega) (fun h0=>(hd h0).2)⟩
 · have:=h.ra n hn
   unfold kU
   split
   · exact hw
   · split <;> exact this
 · unfold kU
   split
   · by_cases h0:d=0
     · exact .inl h0
     · exact .inr (hd h0).1
   · rename_i hx
     split
     · exact .inr ⟨y,hy,hyx⟩
     · exact h.pa n hn hx
end Go.Fn
open Go Go.IL
namespace Go.Fn
theorem hp_move {N:List Nd} {x:Int} {r:Int → Nat} (h:HP N x r) {y k:Nd} (hy:y ∈ N) (hyx:y.ID=x) (hk:k ∈ N) (hkx:k.ID ≠ x) (ha:Anc N x k.ID) (hfull:(∀ n ∈ N,n.Parent ≠ 0 → r n.Parent < r n.ID) ∧ ∀ n ∈ N,n.Parent=0 ∨ ∃ m ∈ N,m.ID=n.Parent):HP (N.map (mvN k.ID y.Parent)) x r ∧ ¬ Anc (N.map (mvN k.ID y.Parent)) x k.ID:=by
 obtain ⟨hf1,hf2⟩:=hfull
 have hso:(N.map (mvN k.ID y.Parent)).Pairwise (fun a b=>a.ID < b.ID):=by
  rw [List.pairwise_map]
  exact h.ok.so.imp (fun hab=>by rw [kD,kD]; exact hab)
 have himg:∀ m ∈ N.map (mvN k.ID y.Parent),∃ n ∈ N,m=mvN k.ID y.Parent n:=fun m hm=>by
  obtain ⟨n,hn,e⟩:=List.mem_map.1 hm
  exact ⟨n,hn,e.symm⟩
 have hin:∀ p:Int,(p=0 ∨ ∃ m ∈ N,m.ID=p) → (p=0 ∨ ∃ m ∈ N.map (mvN k.ID y.Parent),m.ID=p):=fun p hp=>hp.imp id (fun ⟨m,hm,e⟩=>⟨_,List.mem_map.2 ⟨m,hm,rfl⟩,(kD _ _ _).trans e⟩)
 have hxk:r x < r k.ID:=by
  rcases aAF h.rk ha with e | e
  · exact absurd e hkx
  · exact e
 have hpar:∀ n ∈ N,(mvN k.ID y.Parent n).Parent ≠ 0 → r (mvN k.ID y.Parent n).Parent < r n.ID:=fun n hn hz=>by
  unfold mvN at hz ⊢
  split
  · rename_i e
    rw [if_pos e] at hz
    have hz:y.Parent ≠ 0:=hz
    have:=hf1 y hy hz
    rw [hyx] at this
    show r y.Parent < r n.ID
    rw [e]; omega
  · rename_i e
    rw [if_neg e] at hz
    exact hf1 n hn hz
 have hpas:∀ n ∈ N,(mvN k.ID y.Parent n).Parent=0 ∨ ∃ m ∈ N.map (mvN k.ID y.Parent),m.ID=(mvN k.ID y.Parent n).Parent:=fun n hn=>by
  apply hin
  unfold mvN
  split
  · exact hf2 y hy
  · exact hf2 n hn
 have hrk:Rk (N.map (mvN k.ID y.Parent)) x r:=fun m hm hx hz=>by
  obtain ⟨n,hn,rfl⟩:=himg m hm
  rw [kD]
  exact hpar n hn hz
 refine ⟨⟨⟨by rw [List.length_map]; exact h.ok.ln,fun m hm=>?_,hso,fun m hm=>?_⟩,?_,fun m hm=>?_,fun m hm _=>?_,hrk,.inl ⟨fun m hm hz=>?_,fun m hm=>?_⟩⟩,fun hb=>?_⟩
 · obtain ⟨n,hn,rfl⟩:=himg m hm
   rw [kD]; exact h.ok.ra n hn
 · obtain ⟨n,hn,rfl⟩:=himg m hm
   unfold mvN
   split
   · exact h.ok.pa y hy
   · exact h.ok.pa n hn
 · exact ⟨_,List.mem_map.2 ⟨y,hy,rfl⟩,(kD _ _ _).trans hyx⟩
 · obtain ⟨n,hn,rfl⟩:=himg m hm
   have:=h.ra n hn
   unfold mvN
   split <;> exact this
 · obtain ⟨n,hn,rfl⟩:=himg m hm
   exact hpas n hn
 · obtain ⟨n,hn,rfl⟩:=himg m hm
   rw [kD]
   exact hpar n hn hz
 · obtain ⟨n,hn,rfl⟩:=himg m hm
   exact hpas n hn
 · have hkm:mvN k.ID y.Parent k ∈ N.map (mvN k.ID y.Parent):=List.mem_map.2 ⟨k,hk,rfl⟩
   have e1:(mvN k.ID y.Parent k).Parent=y.Parent:=by unfold mvN; rw [if_pos rfl]
   have h1:=yZ hso hkm (by rw [kD]; exact hkx) (by rw [kD]; exact hb)
   rw [e1] at h1
   have hyr:=h.ok.ra y hy
   by_cases hz:y.Parent=0
   · rcases aAG h1 with e | ⟨m,hm,e⟩
     · omega
     · obtain ⟨n,hn,rfl⟩:=himg m hm
       rw [kD] at e
       have:=h.ok.ra n hn; omega
   · have h2:=hf1 y hy hz
     rw [hyx] at h2
     rcases aAF hrk h1 with e | e
     · rw [e] at h2; omega
     · omega
end Go.Fn
open Go Go.IL
namespace Go.Fn
structure BS (K:Int) (N:List Nd) (E:List Int):Prop where
 kp:0 ≤ K ∧ K ≤ 24
 ln:N.length ≤ 24
 el:(E.length:Int) ≤ K
 so:N.Pairwise (fun a b=>a.ID < b.ID)
 ra:∀ n ∈ N,1 ≤ n.ID ∧ n.ID ≤ 1048576
 en:∀ n ∈ N,(n.Closed=true ↔ n.ID ∈ E)
 nd:E.Nodup
 es:∀ e ∈ E,∃ n ∈ N,n.ID=e
theorem FV.bs {K:Int} {st:Fs} (h:FV K st):BS K st.Nodes st.Ended:=⟨h.kp.2,h.ln,h.el,h.so,fun n hn=>(h.ra n hn).1,h.en,h.nd,h.es⟩
theorem fv_hung {K:Int} {N:List Nd} {E:List Int} {g:Nd → Nd} (b:BS K N E) (h:Hung N g):FV K ⟨24,K,N.map g,E⟩:=by
 have himg:∀ m ∈ N.map g,∃ n ∈ N,m=g n:=fun m hm=>by
  obtain ⟨n,hn,e⟩:=List.mem_map.1 hm
  exact ⟨n,hn,e.symm⟩
 have hin:∀ p:Int,(∃ m ∈ N,m.ID=p) → ∃ m ∈ N.map g,m.ID=p:=fun p ⟨m,hm,e⟩=>⟨_,List.mem_map.2 ⟨m,hm,rfl⟩,(h.id m).trans e⟩
 refine ⟨rfl,⟨rfl,b.kp⟩,by show (N.map g).length ≤ 24; rw [List.length_map]; exact b.ln,b.el,?_,fun m hm=>?_,fun m hm=>?_,h.rk,fun m hm=>?_,b.nd,fun e he=>hin e (b.es e he)⟩
 · show (N.map g).Pairwise _
   rw [List.pairwise_map]
   exact b.so.imp (fun hab=>by rw [h.id,h.id]; exact hab)
 · obtain ⟨n,hn,rfl⟩:=himg m hm
   rw [h.id]
   exact ⟨b.ra n hn,h.ra n hn⟩
 · obtain ⟨n,hn,rfl⟩:=himg m hm
   exact (h.pa n hn).imp id (hin _)
 · obtain ⟨n,hn,rfl⟩:=himg m hm
   rw [h.id,h.cl]
   exact b.en n hn
end Go.Fn
open Go Go.IL
namespace Go.Fn
end Go.Fn
open Go Go.IL
namespace Go.Fn
abbrev AC:=aH
abbrev AS:=bF
inductive lP (C:List AC):Int → List Nat → Prop
 | nil:lP C (-1) []
 | cons {a:Nat} {c:AC} {sp:List Nat} (h:C[a]? = some c) (hl:c.Live=false) (t:lP C c.Link sp):lP C (a:Int) (a :: sp)
structure sQ (A:AS) (sp:List Nat):Prop where
 len:A.Cells.length ≤ 64
 odd:∀ c ∈ A.Cells,(c.Live=true → c.Link=0) ∧ (c.Live=false → c.Value=0)
 ch:lP A.Cells A.Free sp
 nd:sp.Nodup
 used:A.Used=(A.Cells.countP (fun c=>c.Live):Nat)
 all:A.Cells.countP (fun c=>c.Live) + sp.length=A.Cells.length
 cov:∀ (i:Nat) (c:AC),A.Cells[i]? = some c → c.Live=false → i ∈ sp
theorem lP.place {C:List AC}:∀ {a:Int} {sp:List Nat},lP C a sp → -1 ≤ a ∧ a < (C.length:Int) ∨ a = -1
 | _,_,.nil=>.inr rfl
 | _,_,.cons h _ _=>.inl (by have:=(List.getElem?_eq_some_iff.1 h).1; omega)
theorem lP.ok {C:List AC} {a:Int} {sp:List Nat} (h:lP C a sp) : -1 ≤ a ∧ (a < (C.length:Int)) ∨ a = -1:=h.place
theorem lP.lt {C:List AC} {a:Int} {sp:List Nat} (h:lP C a sp) (i:Nat) (hi:i ∈ sp):∃ c,C[i]? = some c ∧ c.Live=false ∧ ∃ r,lP C c.Link r:=by
 induction h with
 | nil=>cases hi
 | @cons a c sp h hl t ih =>
   rcases List.mem_cons.1 hi with rfl | hi
   · exact ⟨c,h,hl,sp,t⟩
   · exact ih hi
theorem aA8 {A:AS} {n:Int} (h : -1 ≤ n) (h2:n < (A.Cells.length:Int)):iG A n=some true:=by
 unfold iG
 rw [bndD,bndD,bndD,decide_eq_true h,decide_eq_true h2]; rfl
theorem zL {A:AS} {n:Int} {sp:List Nat} (h:lP A.Cells n sp):iG A n=some true:=by
 cases h with
 | nil=>exact aA8 (by decide) (by omega)
 | cons h _ _=>have:=(List.getElem?_eq_some_iff.1 h).1; exact aA8 (by omega) (by omega)
theorem aAn {A:AS} {sp:List Nat} (h:sQ A sp) {i:Nat} {c:AC} (hc:A.Cells[i]? = some c):jV A c=some false:=by
 unfold jV
 cases hl:c.Live with
 | true =>
   rw [show ((!true) == true)=false from rfl,gdff,bnoS,bndD]; rfl
 | false =>
   obtain ⟨c',h1,_,r,h2⟩:=h.ch.lt i (h.cov i c hc hl)
   rw [hc] at h1
   injection h1 with h1
   subst h1
   rw [show ((!false) == true)=true from rfl,gdtt,zL h2,bnoS,bndD]; rfl
theorem aBD {A:AS} {sp:List Nat} (h:sQ A sp) (r:List AC):∀ (p:List AC) (f:Nat),A.Cells=p ++ r → r.length < f → bP A.Cells A f (p.length:Int)=some (-1):=by
 have hlen:=h.len
 induction r with
 | nil =>
   intro p f h1 hf
   obtain ⟨f,rfl⟩:∃ g,f=g + 1:=⟨f - 1,by simp at hf; omega⟩
   rw [List.append_nil] at h1
   rw [bP,bndD,h1,mG,bG]
 | cons c r ih =>
   intro p f h1 hf
   obtain ⟨f,rfl⟩:∃ g,f=g + 1:=⟨f - 1,by simp at hf; omega⟩
   have hc:A.Cells[p.length]? = some c:=by rw [h1,List.getElem?_append_right (Nat.le_refl _)]; simp
   rw [bP,bndD,mM h1,bX,gY h1,bnoS,aAn h hc,bnoS,bG,bndD,w_at h1 (by omega)]
   exact ih (p ++ [c]) f (kI h1) (by simpa using hf)
theorem odd_no {A:AS} {sp:List Nat} (h:sQ A sp) {c:AC} (hc:c ∈ A.Cells):pS c=some false:=by
 obtain ⟨h1,h2⟩:=h.odd c hc
 unfold pS
 cases hl:c.Live with
 | true=>rw [bX,bndD,h1 hl]; rfl
 | false=>rw [bG,bndD,h2 hl]; rfl
theorem noodd_L {A:AS} {sp:List Nat} (h:sQ A sp) (r:List AC):∀ (p:List AC) (f:Nat),A.Cells=p ++ r → r.length < f → bU A.Cells f (p.length:Int)=some (-1):=by
 have hlen:=h.len
 induction r with
 | nil =>
   intro p f h1 hf
   obtain ⟨f,rfl⟩:∃ g,f=g + 1:=⟨f - 1,by simp at hf; omega⟩
   rw [List.append_nil] at h1
   rw [bU,bndD,h1,mG,bG]
 | cons c r ih =>
   intro p f h1 hf
   obtain ⟨f,rfl⟩:∃ g,f=g + 1:=⟨f - 1,by simp at hf; omega⟩
   rw [bU,bndD,mM h1,bX,gY h1,bnoS,odd_no h (by rw [h1]; simp),bnoS,bG,bndD,w_at h1 (by omega)]
   exact ih (p ++ [c]) f (kI h1) (by simpa using hf)
theorem aCH {l:List Int} (hl:l.length ≤ 1000000) {v:Int} (r:List Int):∀ (p:List Int) (f:Nat),l=p ++ r → v ∉ r → r.length < f → dT l v f (p.length:Int)=some (-1):=by
 induction r with
 | nil =>
   intro p f h1 _ hf
   obtain ⟨f,rfl⟩:∃ g,f=g + 1:=⟨f - 1,by simp at hf; omega⟩
   rw [List.append_nil] at h1
   rw [dT,bndD,h1,mG,bG]
 | cons c r ih =>
   intro p f h1 hv hf
   obtain ⟨f,rfl⟩:∃ g,f=g + 1:=⟨f - 1,by simp at hf; omega⟩
   rw [dT,bndD,mM h1,bX,gY h1,bnoS,bndD,decide_eq_false (fun e=>hv (by simp [e])),bG,bndD,w_at h1 hl]
   exact ih (p ++ [c]) f (kI h1) (fun hm=>hv (by simp [hm])) (by simpa using hf)
theorem yX {l:List Int} (hl:l.length ≤ 1000000) {v:Int} (hv:v ∉ l):gU l v=some false:=by
 unfold gU kC
 have h:=aCH hl l [] fuel rfl hv (eS (by omega))
 have h:dT l v fuel 0=some (-1):=h
 rw [h,bnoS,bndD]; rfl
def toI (l:List Nat):List Int:=l.map fun (n:Nat)=>(n:Int)
theorem toI_mem {l:List Nat} {n:Nat}:(n:Int) ∈ toI l ↔ n ∈ l:=by
 unfold toI
 rw [List.mem_map]
 exact ⟨fun ⟨m,h1,h2⟩=>by rw [← Int.ofNat.inj h2]; exact h1,fun h=>⟨n,h,rfl⟩⟩
theorem chain_L {A:AS} (hlen:A.Cells.length ≤ 64) {a:Int} {sp:List Nat} (h:lP A.Cells a sp):∀ (done:List Nat) (f:Nat),(done ++ sp).Nodup → done.length + sp.length ≤ 64 → sp.length < f → fP A f (toI done) a=some (toI (done ++ sp),true):=by
 induction h with
 | nil =>
   intro done f _ _ hf
   obtain ⟨f,rfl⟩:∃ g,f=g + 1:=⟨f - 1,by simp at hf; omega⟩
   rw [fP,bndD,decide_eq_true rfl,bX,List.append_nil]
 | @cons a c sp h hl t ih =>
   intro done f hn hd hf
   obtain ⟨f,rfl⟩:∃ g,f=g + 1:=⟨f - 1,by simp at hf; omega⟩
   have hnm:(a:Int) ∉ toI done:=fun hm=>by
    have h1:=toI_mem.1 hm
    have:=(List.nodup_append.1 hn).2.2 a h1 a (by simp)
    exact this rfl
   have hdl:(toI done).length=done.length:=by unfold toI; simp
   simp at hd
   rw [fP,bndD,decide_eq_false (by omega),bG,dS,h,bnoS,hl,beq_self_eq_true,gdtt,yX (by omega) hnm,bnoS,bndD,Bool.or_self,bG,kH (by simp; omega) (by simp; omega),bnoS,bnoS]
   have:=ih (done ++ [a]) f (by simpa using hn) (by simp; omega) (by simp at hf; omega)
   rw [show toI (done ++ [a])=toI done ++ [(a:Int)] by unfold toI; simp] at this
   rw [this,List.append_assoc]; rfl
theorem count_L {A:AS} {sp:List Nat} (h:sQ A sp) (r:List AC):∀ (p:List AC) (f:Nat),A.Cells=p ++ r → r.length < f → iI A f (p.countP (fun c=>c.Live):Nat) (p.length:Int)=some 0:=by
 have hlen:=h.len
 induction r with
 | nil =>
   intro p f h1 hf
   obtain ⟨f,rfl⟩:∃ g,f=g + 1:=⟨f - 1,by simp at hf; omega⟩
   rw [List.append_nil] at h1
   have hspl:sp.length ≤ 64:=by have:=h.all; omega
   have hch:lG A=some (toI sp,true):=chain_L hlen h.ch [] fuel (by simpa using h.nd) (by simpa using hspl) (eS (by omega))
   have hul:=h.used
   have hal:=h.all
   have htl:(toI sp).length=sp.length:=by unfold toI; simp
   have hw:IntKind.wrap .i64 (((A.Cells.countP (fun c=>c.Live):Nat):Int) + (((toI sp,true):List Int × Bool).1.length:Int))=((A.Cells.countP (fun c=>c.Live):Nat):Int) + ((toI sp).length:Int):=w64 (show _ ≤ ((A.Cells.countP (fun c=>c.Live):Nat):Int) + ((toI sp).length:Int) by omega) (show ((A.Cells.countP (fun c=>c.Live):Nat):Int) + ((toI sp).length:Int) ≤ _ by omega)
   rw [← h1]
   rw [iI,bndD,mG,bG,hch,bnoS,bndD,decide_eq_true (show ((A.Cells.countP (fun c=>c.Live):Nat):Int)=A.Used from hul.symm),bndD,bndD,hw,bndD,bndD,decide_eq_true (show ((A.Cells.countP (fun c=>c.Live):Nat):Int) + ((toI sp).length:Int)=(A.Cells.length:Int) by omega)]
   rfl
 | cons c r ih =>
   intro p f h1 hf
   obtain ⟨f,rfl⟩:∃ g,f=g + 1:=⟨f - 1,by simp at hf; omega⟩
   have hpc:p.countP (fun c=>c.Live) ≤ p.length:=List.countP_le_length
   have hpl:p.length ≤ 64:=by rw [h1] at hlen; simp at hlen; omega
   have:=ih (p ++ [c]) f (kI h1) (by simpa using hf)
   rw [List.countP_append,List.countP_singleton] at this
   rw [iI,bndD,mM h1,bX,gY h1,bnoS,bndD,bndD,bndD,w_at h1 (by omega),w64 (by omega) (by omega)]
   cases hl:c.Live with
   | true =>
     rw [hl] at this
     rw [bX]
     exact this
   | false =>
     rw [hl] at this
     rw [bG]
     exact this
theorem tB {A:AS} {sp:List Nat} (h:sQ A sp):lU A=some 0:=by
 have hlen:=h.len
 have h1:=aBD h A.Cells [] fuel rfl (eS (by omega))
 have h2:=noodd_L h A.Cells [] fuel rfl (eS (by omega))
 have h1:dM A.Cells A=some (-1):=h1
 have h2:eG A.Cells=some (-1):=h2
 unfold lU
 rw [bndD,decide_eq_false (by omega),bG,zL h.ch,bnoS,Bool.not_true,bG]
 unfold dF
 rw [h1,bnoS,bndD,show decide ((0:Int) ≤ -1)=false from rfl,bnoS]
 unfold lO dO
 rw [bG,h2,bnoS,bndD,show decide ((0:Int) ≤ -1)=false from rfl,bnoS,bG]
 exact count_L h A.Cells [] fuel rfl (eS (by omega))
def lR:List AC → Nat → List Nat
 | [],_=>[]
 | c :: r,i=>bif c.Live then i :: lR r (i + 1) else lR r (i + 1)
theorem live_L {A:AS} (hlen:A.Cells.length ≤ 64) (r:List AC):∀ (p:List AC) (acc:List Int) (f:Nat),A.Cells=p ++ r → r.length < f → acc.length ≤ p.length → iU A f acc (p.length:Int)=some (acc ++ toI (lR r p.length)):=by
 induction r with
 | nil =>
   intro p acc f h1 hf _
   obtain ⟨f,rfl⟩:∃ g,f=g + 1:=⟨f - 1,by simp at hf; omega⟩
   rw [List.append_nil] at h1
   rw [iU,bndD,h1,mG,bG]; simp [lR,toI]
 | cons c r ih =>
   intro p acc f h1 hf ha
   obtain ⟨f,rfl⟩:∃ g,f=g + 1:=⟨f - 1,by simp at hf; omega⟩
   have hpl:p.length ≤ 64:=by rw [h1] at hlen; simp at hlen; omega
   rw [iU,bndD,mM h1,bX,gY h1,bnoS,bndD,w_at h1 (by omega)]
   show _=some (acc ++ toI (bif c.Live then p.length :: lR r (p.length + 1) else lR r (p.length + 1)))
   cases hl:c.Live with
   | true =>
     rw [bX,cond_true,kH (by simp; omega) (by simp; omega),bnoS]
     rw [bndD,ih (p ++ [c]) _ f (kI h1) (by simpa using hf) (by simp; omega),List.append_assoc,List.length_append]; rfl
   | false =>
     rw [bG,cond_false,ih (p ++ [c]) _ f (kI h1) (by simpa using hf) (by simp; omega),List.length_append]; rfl
theorem aBK {A:AS} {sp:List Nat} (h:sQ A sp):nN A=some (toI (lR A.Cells 0)):=by
 unfold nN
 rw [tB h,bnoS,bndD,decide_eq_true rfl,Bool.not_true,bG]
 have:=live_L h.len A.Cells [] [] fuel rfl (eS (by have:=h.len; omega)) (Nat.le_refl _)
 exact this
theorem tU:∀ {l:List AC} {i p:Nat},p ∈ lR l i ↔ i ≤ p ∧ ∃ c,l[p - i]? = some c ∧ c.Live=true
 | [],i,p=>by simp [lR]
 | c :: r,i,p=>by
   have ih:=tU (l:=r) (i:=i + 1) (p:=p)
   have hstep:(i ≤ p ∧ ∃ d,(c :: r)[p - i]? = some d ∧ d.Live=true) ↔ (p=i ∧ c.Live=true) ∨ (i + 1 ≤ p ∧ ∃ d,r[p - (i + 1)]? = some d ∧ d.Live=true):=by
    constructor
    · rintro ⟨h1,d,h2,h3⟩
      by_cases hp:p=i
      · left
        rw [hp,Nat.sub_self] at h2
        injection h2 with h2
        exact ⟨hp,by rw [h2]; exact h3⟩
      · right
        rw [show p - i=(p - (i + 1)) + 1 by omega,List.getElem?_cons_succ] at h2
        exact ⟨by omega,d,h2,h3⟩
    · rintro (⟨h1,h2⟩ | ⟨h1,d,h2,h3⟩)
      · exact ⟨by omega,c,by rw [h1,Nat.sub_self]; rfl,h2⟩
      · exact ⟨by omega,d,by rw [show p - i=(p - (i + 1)) + 1 by omega,List.getElem?_cons_succ]; exact h2,h3⟩
   rw [hstep,← ih]
   show p ∈ (bif c.Live then i :: lR r (i + 1) else lR r (i + 1)) ↔ _
   cases hl:c.Live with
   | true=>rw [cond_true]; simp
   | false=>rw [cond_false]; simp
theorem qN:∀ (l:List AC) (i:Nat),(lR l i).Nodup
 | [],_=>by simp [lR]
 | c :: r,i=>by
   have ih:=qN r (i + 1)
   show (bif c.Live then i :: lR r (i + 1) else lR r (i + 1)).Nodup
   cases c.Live with
   | true =>
     rw [cond_true,List.nodup_cons]
     exact ⟨fun hm=>by have:=(tU.1 hm).1; omega,ih⟩
   | false=>rw [cond_false]; exact ih
theorem rI:∀ (l:List AC) (i:Nat),(lR l i).length=l.countP (fun c=>c.Live)
 | [],_=>rfl
 | c :: r,i=>by
   have ih:=rI r (i + 1)
   rw [List.countP_cons]
   show (bif c.Live then i :: lR r (i + 1) else lR r (i + 1)).length=_
   cases c.Live with
   | true=>rw [cond_true,List.length_cons,ih]; simp
   | false=>rw [cond_false,ih]; simp
end Go.Fn
open Go Go.IL
namespace Go.Fn
theorem aCP {l:List AC} (h:l.length ≤ 1000):dY l=some l:=by
 unfold dY
 rw [kH (by simp; omega) (by simp; omega),bnoS,List.nil_append,aAe (fun e=>by rw [e])]
theorem aA9 {A:AS} (h:A.Cells.length ≤ 64):jE A=some (A.Cells,A.Free,A.Used):=by
 unfold jE
 rw [aCP (by omega),bnoS]
theorem xX {C:List AC} {i:Nat} {c c':AC} (h:C[i]? = some c):(C.set i c').countP (fun c=>c.Live) + (if c.Live=true then 1 else 0)=C.countP (fun c=>c.Live) + (if c'.Live=true then 1 else 0):=by
 obtain ⟨hlt,hg⟩:=List.getElem?_eq_some_iff.1 h
 have e:C=C.take i ++ c :: C.drop (i + 1):=by
  conv=>lhs; rw [← List.take_append_drop i C]
  rw [List.drop_eq_getElem_cons hlt,hg]
 have e2:C.set i c'=C.take i ++ c' :: C.drop (i + 1):=by
  conv=>lhs; rw [e]
  rw [List.set_append_right _ _ (by rw [List.length_take]; omega),List.length_take,show i - min i C.length=0 by omega]; rfl
 rw [e2]
 conv=>rhs; rw [e]
 simp only [List.countP_append,List.countP_cons]
 omega
theorem lP.set {C:List AC} {a:Int} {sp:List Nat} (h:lP C a sp) {p:Nat} (hp:p ∉ sp) (c:AC):lP (C.set p c) a sp:=by
 induction h with
 | nil=>exact .nil
 | @cons a d sp h hl t ih =>
   have hpa:p ≠ a:=fun e=>hp (by simp [e])
   exact .cons (by rw [List.getElem?_set_ne hpa]; exact h) hl (ih (fun hm=>hp (by simp [hm])))
theorem lP.app {C:List AC} {a:Int} {sp:List Nat} (h:lP C a sp) (D:List AC):lP (C ++ D) a sp:=by
 induction h with
 | nil=>exact .nil
 | @cons a d sp h hl t ih =>
   exact .cons (by rw [List.getElem?_append_left (List.getElem?_eq_some_iff.1 h).1]; exact h) hl ih
def oQ (A:AS) (p:Nat):AS:=⟨A.Cells.set p ⟨false,0,A.Free⟩,(p:Int),A.Used - 1⟩
theorem aBJ {A:AS} {p:Nat} {c:AC} (hlen:A.Cells.length ≤ 64) (h:A.Cells[p]? = some c) (hl:c.Live=true):kO A (p:Int)=some true:=by
 have hlt:=(List.getElem?_eq_some_iff.1 h).1
 unfold kO
 rw [bndD,bndD,bndD,decide_eq_true (show (0:Int) ≤ (p:Int) by omega),decide_eq_true (show (p:Int) < (A.Cells.length:Int) by omega),Bool.and_self,beq_self_eq_true,gdtt,dS,h,bnoS,bndD,hl]; rfl
theorem give_ok {A:AS} {sp:List Nat} (h:sQ A sp) {p:Nat} {c:AC} (hp:A.Cells[p]? = some c) (hl:c.Live=true):mP A (p:Int)=some (oQ A p,0) ∧ sQ (oQ A p) (p :: sp):=by
 have hlen:=h.len
 have hlt:=(List.getElem?_eq_some_iff.1 hp).1
 have hcs:=xX (c':=⟨false,0,A.Free⟩) hp
 rw [hl] at hcs
 have hcs:(A.Cells.set p ⟨false,0,A.Free⟩).countP (fun c=>c.Live) + 1=A.Cells.countP (fun c=>c.Live):=by simpa using hcs
 have hu:=h.used
 have hal:=h.all
 have hnm:p ∉ sp:=fun hm=>by
  obtain ⟨c',h1,h2,_⟩:=h.ch.lt p hm
  rw [hp] at h1
  injection h1 with h1
  rw [h1,h2] at hl; cases hl
 refine ⟨?_,?_⟩
 · unfold mP
   rw [aA9 hlen,bnoS,tB h,bnoS,bndD,decide_eq_true rfl,Bool.not_true,bG,aBJ hlen hp hl,bnoS,Bool.not_true,bG,dS,hp,bnoS,Int.toNat_natCast,hp,bnoS,bndD,bndD]
   show some ((⟨A.Cells.set p ⟨false,0,A.Free⟩,(p:Int),IntKind.wrap .i64 (A.Used - 1)⟩:AS),(0:Int))=_
   rw [w64 (by omega) (by omega)]; rfl
 · constructor
   · show (A.Cells.set p _).length ≤ 64; rw [List.length_set]; exact hlen
   · intro d hd
     rcases List.mem_or_eq_of_mem_set hd with hd | hd
     · exact h.odd d hd
     · rw [hd]; exact ⟨fun h=>(by cases h),fun _=>rfl⟩
   · exact .cons (c:=⟨false,0,A.Free⟩) (by show (A.Cells.set p _)[p]? = _; rw [List.getElem?_set_self hlt]) rfl (h.ch.set hnm _)
   · exact List.nodup_cons.2 ⟨hnm,h.nd⟩
   · show A.Used - 1=((A.Cells.set p _).countP (fun c=>c.Live):Nat)
     omega
   · show (A.Cells.set p _).countP (fun c=>c.Live) + (p :: sp).length=(A.Cells.set p _).length
     rw [List.length_set,List.length_cons]; omega
   · intro i d hd hdl
     by_cases hip:p=i
     · subst hip; simp
     · have hd:(A.Cells.set p _)[i]? = some d:=hd
       rw [List.getElem?_set_ne hip] at hd
       exact List.mem_cons_of_mem _ (h.cov i d hd hdl)
def takeS (A:AS) (v:Int):List Nat → AS
 | []=>⟨A.Cells ++ [⟨true,v,0⟩],A.Free,A.Used + 1⟩
 | a :: _=>⟨A.Cells.set a ⟨true,v,0⟩,(A.Cells.getD a default).Link,A.Used + 1⟩
def takeP (A:AS):List Nat → Nat
 | []=>A.Cells.length
 | a :: _=>a
theorem aAm {A:AS} {sp:List Nat} (h:sQ A sp) (v:Int) (hu:A.Used < 64):mO A v=some (takeS A v sp,(takeP A sp:Int),0) ∧ sQ (takeS A v sp) sp.tail ∧ (takeS A v sp).Cells[takeP A sp]? = some ⟨true,v,0⟩ ∧ (∀ i,i ≠ takeP A sp → (takeS A v sp).Cells[i]? = A.Cells[i]?) ∧ (∀ c,A.Cells[takeP A sp]? = some c → c.Live=false) ∧ takeP A sp < 64:=by
 have hlen:=h.len
 have hus:=h.used
 have hal:=h.all
 cases sp with
 | nil =>
   have hfree:A.Free = -1:=by
    have hch:=h.ch
    generalize A.Free=F at hch
    cases hch; rfl
   have hal:A.Cells.countP (fun c=>c.Live)=A.Cells.length:=by simpa using hal
   have hl64:A.Cells.length < 64:=by omega
   refine ⟨?_,?_,?_,?_,?_,?_⟩
   · unfold mO
     rw [aA9 hlen,bnoS,tB h,bnoS,bndD,decide_eq_true rfl,Bool.not_true,bG,bndD,decide_eq_false (by omega),bG,bndD,bndD]
     show (bif decide (A.Free = -1) then _ else _)=_
     rw [decide_eq_true hfree,bX]
     show (bno (app 24 A.Cells [(⟨true,v,0⟩:AC)]) fun x10=>some ((⟨x10,A.Free,IntKind.wrap .i64 (A.Used + 1)⟩:AS),(A.Cells.length:Int),(0:Int)))=_
     rw [kH (by simp; omega) (by simp; omega),bnoS,w64 (by omega) (by omega)]; rfl
   · constructor
     · show (A.Cells ++ [_]).length ≤ 64; simp; omega
     · intro d hd
       rcases List.mem_append.1 hd with hd | hd
       · exact h.odd d hd
       · rw [List.mem_singleton.1 hd]; exact ⟨fun _=>rfl,fun h=>(by cases h)⟩
     · exact h.ch.app _
     · exact h.nd
     · show A.Used + 1=((A.Cells ++ [(⟨true,v,0⟩:AC)]).countP (fun c=>c.Live):Nat)
       rw [List.countP_append,List.countP_singleton]; simp; omega
     · show (A.Cells ++ [(⟨true,v,0⟩:AC)]).countP (fun c=>c.Live) + 0=(A.Cells ++ [(⟨true,v,0⟩:AC)]).length
       rw [List.countP_append,List.countP_singleton,List.length_append,hal]; simp
     · intro i d hd hdl
       have hd:(A.Cells ++ [(⟨true,v,0⟩:AC)])[i]? = some d:=hd
       by_cases hi:i < A.Cells.length
       · rw [List.getElem?_append_left hi] at hd
         exact h.cov i d hd hdl
       · rw [List.getElem?_append_right (by omega)] at hd
         have:=List.mem_of_getElem? hd
         rw [List.mem_singleton.1 this] at hdl; cases hdl
   · show (A.Cells ++ [_])[A.Cells.length]? = _
     rw [List.getElem?_append_right (Nat.le_refl _)]; simp
   · intro i hi
     show (A.Cells ++ [_])[i]? = _
     have hi:i ≠ A.Cells.length:=hi
     by_cases hlt:i < A.Cells.length
     · rw [List.getElem?_append_left hlt]
     · rw [List.getElem?_eq_none (by simp; omega),List.getElem?_eq_none (by omega)]
   · intro c hc
     have hc:A.Cells[A.Cells.length]? = some c:=hc
     simp at hc
   · exact hl64
 | cons a sp =>
   have hch:=h.ch
   generalize hF:A.Free=F at hch
   cases hch with
   | @cons _ c _ hc hcl t =>
     have hlt:=(List.getElem?_eq_some_iff.1 hc).1
     have hgd:A.Cells.getD a default=c:=by rw [List.getD_eq_getElem?_getD,hc]; rfl
     have hcs:=xX (c':=⟨true,v,0⟩) hc
     rw [hcl] at hcs
     have hcs:(A.Cells.set a ⟨true,v,0⟩).countP (fun c=>c.Live)=A.Cells.countP (fun c=>c.Live) + 1:=by simpa using hcs
     have hnd:=List.nodup_cons.1 h.nd
     simp at hal
     refine ⟨?_,?_,?_,?_,?_,?_⟩
     · unfold mO
       rw [aA9 hlen,bnoS,tB h,bnoS,bndD,decide_eq_true rfl,Bool.not_true,bG,bndD,decide_eq_false (by omega),bG,bndD,bndD]
       show (bif decide (A.Free = -1) then _ else _)=_
       rw [hF,decide_eq_false (by omega),bG,dS,hc,bnoS,Int.toNat_natCast,hc,bnoS,bnoS,bnoS,bndD]
       show some ((⟨A.Cells.set a ⟨true,v,0⟩,c.Link,IntKind.wrap .i64 (A.Used + 1)⟩:AS),(a:Int),(0:Int))=some ((⟨A.Cells.set a ⟨true,v,0⟩,(A.Cells.getD a default).Link,A.Used + 1⟩:AS),(a:Int),0)
       rw [w64 (by omega) (by omega),hgd]
     · constructor
       · show (A.Cells.set a _).length ≤ 64; rw [List.length_set]; exact hlen
       · intro d hd
         rcases List.mem_or_eq_of_mem_set hd with hd | hd
         · exact h.odd d hd
         · rw [hd]; exact ⟨fun _=>rfl,fun h=>(by cases h)⟩
       · show lP (A.Cells.set a _) (A.Cells.getD a default).Link sp
         rw [hgd]; exact t.set hnd.1 _
       · exact hnd.2
       · show A.Used + 1=((A.Cells.set a _).countP (fun c=>c.Live):Nat)
         omega
       · show (A.Cells.set a _).countP (fun c=>c.Live) + sp.length=(A.Cells.set a _).length
         rw [List.length_set]; omega
       · intro i d hd hdl
         have hd:(A.Cells.set a _)[i]? = some d:=hd
         by_cases hia:a=i
         · subst hia
           rw [List.getElem?_set_self hlt] at hd
           injection hd with hd
           rw [← hd] at hdl; cases hdl
         · rw [List.getElem?_set_ne hia] at hd
           exact (List.mem_cons.1 (h.cov i d hd hdl)).resolve_left (fun e=>hia e.symm)
     · show (A.Cells.set a _)[a]? = _
       rw [List.getElem?_set_self hlt]
     · intro i hi
       have hi:i ≠ a:=hi
       show (A.Cells.set a _)[i]? = _
       rw [List.getElem?_set_ne (fun e=>hi e.symm)]
     · intro d hd
       have hd:A.Cells[a]? = some d:=hd
       rw [hc] at hd
       injection hd with hd
       rw [← hd]; exact hcl
     · show a < 64; omega
end Go.Fn
open Go Go.IL
namespace Go.Fn
abbrev Nk:=aG
def iQ (ns:List Nk):Int → List Nat → Prop
 | a,[]=>a = -1
 | a,p :: l=>a=(p:Int) ∧ ∃ n,ns[p]? = some n ∧ iQ ns n.next l
theorem iQ.same {ns ns':List Nk}:∀ {l:List Nat} {a:Int},(∀ q ∈ l,∀ n,ns[q]? = some n → ∃ n',ns'[q]? = some n' ∧ n'.next=n.next) → iQ ns a l → iQ ns' a l
 | [],_,_,h=>h
 | p :: l,a,hs,⟨h1,n,h2,h3⟩=>by
   obtain ⟨n',g1,g2⟩:=hs p (by simp) n h2
   exact ⟨h1,n',g1,by rw [g2]; exact h3.same fun q hq=>hs q (by simp [hq])⟩
theorem iQ.other {ns:List Nk} {a:Int} {l:List Nat} (h:iQ ns a l) {p:Nat} (hp:p ∉ l) (n:Nk):iQ (ns.set p n) a l :=
 h.same fun q hq m hm=>⟨m,by rw [List.getElem?_set_ne (show p ≠ q from fun e=>hp (by rw [e]; exact hq))]; exact hm,rfl⟩
theorem iQ.keep {ns:List Nk} {p:Nat} {n n':Nk} (hp:ns[p]? = some n) (hn:n'.next=n.next) {a:Int} {l:List Nat} (h:iQ ns a l):iQ (ns.set p n') a l:=by
 refine h.same fun q hq m hm=>?_
 by_cases e:p=q
 · subst e
   rw [hp] at hm
   injection hm with hm
   exact ⟨n',by rw [List.getElem?_set_self (List.getElem?_eq_some_iff.1 hp).1],by rw [← hm]; exact hn⟩
 · exact ⟨m,by rw [List.getElem?_set_ne e]; exact hm,rfl⟩
theorem iQ.mem {ns:List Nk}:∀ {l:List Nat} {a:Int},iQ ns a l → ∀ p ∈ l,∃ n,ns[p]? = some n
 | q :: l,a,⟨_,n,h2,h3⟩,p,hp=>by
   rcases List.mem_cons.1 hp with rfl | hp
   · exact ⟨n,h2⟩
   · exact h3.mem p hp
theorem iQ.cut {ns:List Nk} {p q:Nat} {np nq:Nk} (hp:ns[p]? = some np) (hq:ns[q]? = some nq) {l2:List Nat}:∀ {l1:List Nat} {a:Int},iQ ns a (l1 ++ q :: p :: l2) → (l1 ++ q :: p :: l2).Nodup →
 iQ (ns.set q { nq with next:=np.next }) a (l1 ++ q :: l2)
 | [],a,⟨h1,n,h2,h3,m,h4,h5⟩,hnd=>by
   rw [hp] at h4
   injection h4 with h4
   subst h4
   have hnd:(q :: p :: l2).Nodup:=hnd
   have hq2:q ∉ l2:=fun hm=>(List.nodup_cons.1 hnd).1 (by simp [hm])
   exact ⟨h1,{ nq with next:=np.next },by rw [List.getElem?_set_self (List.getElem?_eq_some_iff.1 hq).1],h5.other hq2 _⟩
 | b :: l1,a,⟨h1,n,h2,h3⟩,hnd=>by
   have hnd:(b :: (l1 ++ q :: p :: l2)).Nodup:=hnd
   have hbq:q ≠ b:=fun e=>(List.nodup_cons.1 hnd).1 (by simp [e])
   exact ⟨h1,n,by rw [List.getElem?_set_ne hbq]; exact h2,iQ.cut hp hq h3 (List.nodup_cons.1 hnd).2⟩
theorem seek {ns:List Nk} (hlen:ns.length=64) {p:Nat} {room keep:Int} {C:List AC} {F U first:Int} {cl:List Int} {np:Nk} (hp:ns[p]? = some np) {l2:List Nat}:∀ (l1:List Nat) (q:Nat) (nq:Nk) (f:Nat),ns[q]? = some nq → iQ ns nq.next (l1 ++ p :: l2) → p ∉ l1 → l1.length < f →
 ∃ (r:Nat) (nr:Nk),(q :: l1).getLast? = some r ∧ ns[r]? = some nr ∧ eU (p:Int) room keep C F U ns first cl f q=some (room,keep,C,F,U,ns.set r { nr with next:=np.next },first,cl)
 | [],q,nq,f + 1,hq,h,_,_=>by
   obtain ⟨h1,_⟩:=h
   refine ⟨q,nq,rfl,hq,?_⟩
   rw [eU,hq,bnoS,bndD,decide_eq_true h1,Bool.not_true,bG,dS,hp,bnoS,Int.toNat_natCast,hp,bnoS,bnoS,bndD]
 | b :: l1,q,nq,f + 1,hq,⟨h1,nb,h2,h3⟩,hn,hf=>by
   have hpb:p ≠ b:=fun e=>hn (by simp [e])
   obtain ⟨r,nr,g1,g2,g3⟩:=seek hlen hp l1 b nb f h2 h3 (fun hm=>hn (by simp [hm])) (by simpa using hf)
   refine ⟨r,nr,by rw [List.getLast?_cons_cons]; exact g1,g2,?_⟩
   rw [eU,hq,bnoS,bndD,h1,decide_eq_false (show ¬ (b:Int)=(p:Int) by omega),Bool.not_false,bX,bnoS,h1,dS,h2,bnoS,Int.toNat_natCast]
   exact g3
theorem seek1 {ns:List Nk} (hlen:ns.length=64) {p:Nat} {room keep:Int} {C:List AC} {F U first:Int} {cl:List Int} {np:Nk} (hp:ns[p]? = some np) {l2:List Nat}:∀ (l1:List Nat) (q:Nat) (nq:Nk) (f:Nat),ns[q]? = some nq → iQ ns nq.next (l1 ++ p :: l2) → p ∉ l1 → l1.length < f →
 ∃ (r:Nat) (nr:Nk),(q :: l1).getLast? = some r ∧ ns[r]? = some nr ∧ eT (p:Int) room keep C F U ns first cl f q=some (room,keep,C,F,U,ns.set r { nr with next:=np.next },first,cl)
 | [],q,nq,f + 1,hq,h,_,_=>by
   obtain ⟨h1,_⟩:=h
   refine ⟨q,nq,rfl,hq,?_⟩
   rw [eT,hq,bnoS,bndD,decide_eq_true h1,Bool.not_true,bG,dS,hp,bnoS,Int.toNat_natCast,hp,bnoS,bnoS,bndD]
 | b :: l1,q,nq,f + 1,hq,⟨h1,nb,h2,h3⟩,hn,hf=>by
   have hpb:p ≠ b:=fun e=>hn (by simp [e])
   obtain ⟨r,nr,g1,g2,g3⟩:=seek1 hlen hp l1 b nb f h2 h3 (fun hm=>hn (by simp [hm])) (by simpa using hf)
   refine ⟨r,nr,by rw [List.getLast?_cons_cons]; exact g1,g2,?_⟩
   rw [eT,hq,bnoS,bndD,h1,decide_eq_false (show ¬ (b:Int)=(p:Int) by omega),Bool.not_false,bX,bnoS,h1,dS,h2,bnoS,Int.toNat_natCast]
   exact g3
def upI:Option Nat → Int
 | none=>-1
 | some p=>(p:Int)
def mH (ns:List Nk) (first:Int):Option Nat → Int
 | none=>first
 | some p=>(ns.getD p default).first
theorem kY {ns:List Nk} {first:Int} {p:Nat} {n:Nk} (h:ns[p]? = some n):mH ns first (some p)=n.first:=by
 show (ns.getD p default).first=_
 rw [List.getD_eq_getElem?_getD,h]; rfl
structure Lk (ns:List Nk) (first:Int) (hd:Option Nat → Prop) (kids:Option Nat → List Nat):Prop where
 ch:∀ u,hd u → iQ ns (mH ns first u) (kids u)
 nd:∀ u,hd u → (kids u).Nodup
 dj:∀ u v p,hd u → hd v → p ∈ kids u → p ∈ kids v → u=v
 at':∀ p,hd (some p) → ∃ n,ns[p]? = some n
def vG (n:Nk):Int × Int × Int × Bool:=(n.id,n.up,n.weight,n.closed)
def mI (ns:List Nk) (q:Nat):Option (Int × Int × Int × Bool):=(ns[q]?).map vG
theorem qT {ns:List Nk} {p:Nat} {n n':Nk} (hp:ns[p]? = some n) (hv:vG n'=vG n) (q:Nat):mI (ns.set p n') q=mI ns q:=by
 unfold mI
 by_cases e:p=q
 · subst e
   rw [List.getElem?_set_self (List.getElem?_eq_some_iff.1 hp).1,hp]
   show some (vG n')=some (vG n)
   rw [hv]
 · rw [List.getElem?_set_ne e]
def nM (kids:Option Nat → List Nat) (u:Option Nat) (p:Nat):Option Nat → List Nat:=fun v=>if v=u then (kids u).erase p else kids v
theorem aBl {l1 l2:List Nat} {p:Nat} (h:p ∉ l1):(l1 ++ p :: l2).erase p=l1 ++ l2:=by
 rw [List.erase_append_right _ h,List.erase_cons_head]
theorem aAp {l:List Nat} {p:Nat} (h:p ∈ l) (hn:l.Nodup):∃ l1 l2,l=l1 ++ p :: l2 ∧ p ∉ l1:=by
 obtain ⟨l1,l2,rfl⟩:=List.append_of_mem h
 exact ⟨l1,l2,rfl,fun hm=>(List.nodup_append.1 hn).2.2 p hm p (by simp) rfl⟩
theorem uZ {l:List Nat} {r:Nat} (h:l.getLast? = some r):∃ m,l=m ++ [r]:=by
 obtain ⟨m,hm⟩:=List.getLast?_eq_some_iff.1 h
 exact ⟨m,hm⟩
theorem Lk.skip {ns:List Nk} {first:Int} {hd:Option Nat → Prop} {kids:Option Nat → List Nat} (h:Lk ns first hd kids) {u:Option Nat} (hu:hd u) {p r:Nat} {np nr:Nk} {m l2:List Nat} (hk:kids u=m ++ r :: p :: l2) (hp:ns[p]? = some np) (hr:ns[r]? = some nr) :
 Lk (ns.set r { nr with next:=np.next }) first hd (nM kids u p):=by
 have hnd:=h.nd u hu
 rw [hk] at hnd
 have hpm:p ∉ m ++ [r]:=fun hm=>by
  have:(m ++ [r] ++ p :: l2).Nodup:=by simpa using hnd
  exact (List.nodup_append.1 this).2.2 p hm p (by simp) rfl
 have her:(kids u).erase p=m ++ r :: l2:=by
  rw [hk,show m ++ r :: p :: l2=(m ++ [r]) ++ p :: l2 by simp,aBl hpm]; simp
 have hf:∀ v,mH (ns.set r { nr with next:=np.next }) first v=mH ns first v:=fun v=>by
  cases v with
  | none=>rfl
  | some q =>
    show ((ns.set r _).getD q default).first=(ns.getD q default).first
    rw [List.getD_eq_getElem?_getD,List.getD_eq_getElem?_getD]
    by_cases e:r=q
    · subst e
      rw [List.getElem?_set_self (List.getElem?_eq_some_iff.1 hr).1,hr]; rfl
    · rw [List.getElem?_set_ne e]
 have hsub:∀ v q,q ∈ nM kids u p v → q ∈ kids v:=fun v q hq=>by
  unfold nM at hq
  split at hq
  · rename_i e; rw [e]; exact List.mem_of_mem_erase hq
  · exact hq
 refine ⟨fun v hv=>?_,fun v hv=>?_,fun v w q hv hw h1 h2=>h.dj v w q hv hw (hsub v q h1) (hsub w q h2),fun q hq=>?_⟩
 · rw [hf]
   have hc:=h.ch v hv
   unfold nM
   by_cases e:v=u
   · rw [if_pos e,her]
     rw [e,hk] at hc
     rw [e]
     exact hc.cut hp hr hnd
   · rw [if_neg e]
     refine hc.other (fun hm=>e ?_) _
     exact h.dj v u r hv hu hm (by rw [hk]; simp)
 · unfold nM
   split
   · exact (h.nd u hu).erase p
   · exact h.nd v hv
 · obtain ⟨n,hn⟩:=h.at' q hq
   by_cases e:r=q
   · subst e
     exact ⟨_,List.getElem?_set_self (List.getElem?_eq_some_iff.1 hr).1⟩
   · exact ⟨n,by rw [List.getElem?_set_ne e]; exact hn⟩
end Go.Fn
open Go Go.IL
namespace Go.Fn
theorem tS {α:Type} [DecidableEq α]:∀ {l m:List α},l.Nodup → (∀ x ∈ l,x ∈ m) → l.length ≤ m.length
 | [],_,_,_=>Nat.zero_le _
 | x :: l,m,hn,hs=>by
   have hn:=List.nodup_cons.1 hn
   have hx:=hs x (by simp)
   have:=tS (l:=l) (m:=m.erase x) hn.2 (fun y hy=>(List.mem_erase_of_ne (by rintro rfl; exact hn.1 hy)).2 (hs y (by simp [hy])))
   rw [List.length_erase_of_mem hx] at this
   have:0 < m.length:=List.length_pos_of_mem hx
   rw [List.length_cons]; omega
theorem aB8 {l:List Nat} {n:Nat} (hn:l.Nodup) (h:∀ p ∈ l,p < n):l.length ≤ n:=by
 have:=tS (m:=List.range n) hn (fun p hp=>List.mem_range.2 (h p hp))
 rwa [List.length_range] at this
theorem Lk.size {ns:List Nk} {first:Int} {hd:Option Nat → Prop} {kids:Option Nat → List Nat} (hlen:ns.length=64) (h:Lk ns first hd kids) {u:Option Nat} (hu:hd u):(kids u).length ≤ 64 :=
 aB8 (h.nd u hu) fun p hp=>by
  obtain ⟨n,hn⟩:=(h.ch u hu).mem p hp
  have:=(List.getElem?_eq_some_iff.1 hn).1
  omega
theorem Lk.behead0 {ns:List Nk} {first:Int} {hd:Option Nat → Prop} {kids:Option Nat → List Nat} (h:Lk ns first hd kids) (hu:hd none) {p:Nat} {np:Nk} {l2:List Nat} (hk:kids none=p :: l2) (hp:ns[p]? = some np):Lk ns np.next hd (nM kids none p):=by
 have her:(kids none).erase p=l2:=by rw [hk,List.erase_cons_head]
 have hsub:∀ v q,q ∈ nM kids none p v → q ∈ kids v:=fun v q hq=>by
  unfold nM at hq
  split at hq
  · rename_i e; rw [e]; exact List.mem_of_mem_erase hq
  · exact hq
 refine ⟨fun v hv=>?_,fun v hv=>?_,fun v w q hv hw h1 h2=>h.dj v w q hv hw (hsub v q h1) (hsub w q h2),h.at'⟩
 · have hc:=h.ch v hv
   unfold nM
   cases v with
   | none =>
     rw [if_pos rfl,her]
     rw [hk] at hc
     obtain ⟨_,n,h2,h3⟩:=hc
     rw [hp] at h2
     injection h2 with h2
     rw [h2]; exact h3
   | some q=>rw [if_neg (by simp)]; exact hc
 · unfold nM
   split
   · exact (h.nd none hu).erase p
   · exact h.nd v hv
theorem Lk.behead1 {ns:List Nk} {first:Int} {hd:Option Nat → Prop} {kids:Option Nat → List Nat} (h:Lk ns first hd kids) {q:Nat} (hu:hd (some q)) {p:Nat} {np nq:Nk} {l2:List Nat} (hk:kids (some q)=p :: l2) (hp:ns[p]? = some np) (hq:ns[q]? = some nq) :
 Lk (ns.set q { nq with first:=np.next }) first hd (nM kids (some q) p):=by
 have her:(kids (some q)).erase p=l2:=by rw [hk,List.erase_cons_head]
 have hlt:=(List.getElem?_eq_some_iff.1 hq).1
 have hsub:∀ v r,r ∈ nM kids (some q) p v → r ∈ kids v:=fun v r hr=>by
  unfold nM at hr
  split at hr
  · rename_i e; rw [e]; exact List.mem_of_mem_erase hr
  · exact hr
 refine ⟨fun v hv=>?_,fun v hv=>?_,fun v w r hv hw h1 h2=>h.dj v w r hv hw (hsub v r h1) (hsub w r h2),fun r hr=>?_⟩
 · have hc:=h.ch v hv
   unfold nM
   by_cases e:v=some q
   · subst e
     rw [if_pos rfl,her,kY (n:={ nq with first:=np.next }) (by rw [List.getElem?_set_self hlt])]
     rw [hk] at hc
     obtain ⟨_,n,h2,h3⟩:=hc
     rw [hp] at h2
     injection h2 with h2
     refine iQ.keep hq (by rfl) ?_
     rw [h2]; exact h3
   · rw [if_neg e]
     have hf:mH (ns.set q { nq with first:=np.next }) first v=mH ns first v:=by
      cases v with
      | none=>rfl
      | some r =>
        show ((ns.set q _).getD r default).first=(ns.getD r default).first
        rw [List.getD_eq_getElem?_getD,List.getD_eq_getElem?_getD,List.getElem?_set_ne (fun h=>e (by rw [h]))]
     rw [hf]
     exact hc.keep hq (by rfl)
 · unfold nM
   split
   · exact (h.nd (some q) hu).erase p
   · exact h.nd v hv
 · obtain ⟨n,hn⟩:=h.at' r hr
   by_cases e:q=r
   · subst e
     exact ⟨_,List.getElem?_set_self hlt⟩
   · exact ⟨n,by rw [List.getElem?_set_ne e]; exact hn⟩
theorem wN {ns:List Nk} {first:Int} {hd:Option Nat → Prop} {kids:Option Nat → List Nat} (hlen:ns.length=64) (h:Lk ns first hd kids) {u:Option Nat} (hu:hd u) {p:Nat} {np:Nk} (hp:ns[p]? = some np) (hup:np.up=upI u) (hm:p ∈ kids u)
 (room keep:Int) (C:List AC) (F U:Int) (cl:List Int):∃ ns' first',gL (p:Int) room keep C F U ns first cl=some (room,keep,C,F,U,ns',first',cl) ∧ ns'.length=64 ∧ Lk ns' first' hd (nM kids u p) ∧ ∀ q,mI ns' q=mI ns q:=by
 have hsz:=h.size hlen hu
 obtain ⟨l1,l2,hk,hn⟩:=aAp hm (h.nd u hu)
 have hc:=h.ch u hu
 rw [hk] at hc
 have hl1:l1.length ≤ 64:=by rw [hk] at hsz; simp at hsz; omega
 unfold gL
 rw [dS,hp,bnoS,chk,if_pos hlen,Int.toNat_natCast,hp,bnoS,bndD,hup]
 cases u with
 | none =>
   rw [show decide (upI none = -1)=true from rfl,bX,bndD]
   cases l1 with
   | nil =>
     obtain ⟨h1,_⟩:=hc
     have h1:first=(p:Int):=h1
     rw [decide_eq_true h1,Bool.not_true,bG,bnoS,bnoS]
     exact ⟨ns,np.next,rfl,hlen,h.behead0 hu hk hp,fun q=>rfl⟩
   | cons b l1 =>
     obtain ⟨h1,nb,h2,h3⟩:=hc
     have h1:first=(b:Int):=h1
     have hpb:p ≠ b:=fun e=>hn (by simp [e])
     rw [h1,decide_eq_false (show ¬ (b:Int)=(p:Int) by omega),Bool.not_false,bX,dS,h2,bnoS,Int.toNat_natCast]
     obtain ⟨r,nr,g1,g2,g3⟩:=seek hlen (room:=room) (keep:=keep) (C:=C) (F:=F) (U:=U) (first:=(b:Int)) (cl:=cl) hp l1 b nb fuel h2 h3 (fun hm=>hn (by simp [hm])) (eS (by simp at hl1; omega))
     obtain ⟨m,hmm⟩:=uZ g1
     refine ⟨ns.set r { nr with next:=np.next },(b:Int),g3,by rw [List.length_set]; exact hlen,?_,qT g2 (by rfl)⟩
     rw [← h1]
     exact h.skip hu (m:=m) (l2:=l2) (by rw [hk,hmm]; simp) hp g2
 | some q =>
   obtain ⟨nq,hq⟩:=h.at' q hu
   have hqi:decide (upI (some q) = -1)=false:=decide_eq_false (show ¬ (q:Int) = -1 by omega)
   have hfq:mH ns first (some q)=nq.first:=kY hq
   rw [hfq] at hc
   rw [hqi,bG,show upI (some q)=(q:Int) from rfl,dS,hq,bnoS,Int.toNat_natCast,hq,bnoS,bndD]
   cases l1 with
   | nil =>
     obtain ⟨h1,_⟩:=hc
     rw [decide_eq_true h1,Bool.not_true,bG,bnoS,bnoS,bnoS,bndD]
     exact ⟨_,first,rfl,by rw [List.length_set]; exact hlen,h.behead1 hu hk hp hq,qT hq (by rfl)⟩
   | cons b l1 =>
     obtain ⟨h1,nb,h2,h3⟩:=hc
     have hpb:p ≠ b:=fun e=>hn (by simp [e])
     rw [h1,decide_eq_false (show ¬ (b:Int)=(p:Int) by omega),Bool.not_false,bX,bnoS,h1,dS,h2,bnoS,Int.toNat_natCast]
     obtain ⟨r,nr,g1,g2,g3⟩:=seek1 hlen (room:=room) (keep:=keep) (C:=C) (F:=F) (U:=U) (first:=first) (cl:=cl) hp l1 b nb fuel h2 h3 (fun hm=>hn (by simp [hm])) (eS (by simp at hl1; omega))
     obtain ⟨m,hmm⟩:=uZ g1
     exact ⟨ns.set r { nr with next:=np.next },first,g3,by rw [List.length_set]; exact hlen,h.skip hu (m:=m) (l2:=l2) (by rw [hk,hmm]; simp) hp g2,qT g2 (by rfl)⟩
def qF (kids:Option Nat → List Nat) (u:Option Nat) (p:Nat):Option Nat → List Nat:=fun v=>if v=u then p :: kids u else kids v
theorem aA7 {ns:List Nk} {first:Int} {hd:Option Nat → Prop} {kids:Option Nat → List Nat} (h:Lk ns first hd kids) {u:Option Nat} (hu:hd u) {p:Nat} (hp:∀ v,hd v → p ∉ kids v):∀ v w r,hd v → hd w → r ∈ qF kids u p v → r ∈ qF kids u p w → v=w:=by
 have key:∀ v r,r ∈ qF kids u p v → (v=u ∧ r=p) ∨ r ∈ kids v:=fun v r hr=>by
  unfold qF at hr
  split at hr
  · rename_i e
    rcases List.mem_cons.1 hr with hr | hr
    · exact .inl ⟨e,hr⟩
    · exact .inr (by rw [e]; exact hr)
  · exact .inr hr
 intro v w r hv hw h1 h2
 rcases key v r h1 with ⟨a1,a2⟩ | a
 · rcases key w r h2 with ⟨b1,b2⟩ | b
   · rw [a1,b1]
   · exact absurd (a2 ▸ b) (hp w hw)
 · rcases key w r h2 with ⟨b1,b2⟩ | b
   · exact absurd (b2 ▸ a) (hp v hv)
   · exact h.dj v w r hv hw a b
theorem aA6 {ns:List Nk} {first:Int} {hd:Option Nat → Prop} {kids:Option Nat → List Nat} (h:Lk ns first hd kids) {u:Option Nat} (hu:hd u) {p:Nat} (hp:∀ v,hd v → p ∉ kids v):∀ v,hd v → (qF kids u p v).Nodup:=by
 intro v hv
 unfold qF
 split
 · exact List.nodup_cons.2 ⟨hp u hu,h.nd u hu⟩
 · exact h.nd v hv
def seenUp (ns ns':List Nk) (p:Nat) (u:Option Nat):Prop:=(∀ q,q ≠ p → mI ns' q=mI ns q) ∧ ∀ n,ns[p]? = some n → mI ns' p=some (n.id,upI u,n.weight,n.closed)
theorem aBb {ns:List Nk} {first:Int} {hd:Option Nat → Prop} {kids:Option Nat → List Nat} (hlen:ns.length=64) (h:Lk ns first hd kids) {u:Option Nat} (hu:hd u) {p:Nat} {np:Nk} (hp:ns[p]? = some np) (hpk:∀ v,hd v → p ∉ kids v) (hpu:u ≠ some p)
 (room keep:Int) (C:List AC) (F U:Int) (cl:List Int):∃ ns' first',gC (p:Int) (upI u) room keep C F U ns first cl=some (room,keep,C,F,U,ns',first',cl) ∧ ns'.length=64 ∧ Lk ns' first' hd (qF kids u p) ∧ seenUp ns ns' p u:=by
 have hlt:=(List.getElem?_eq_some_iff.1 hp).1
 unfold gC
 rw [bndD]
 cases u with
 | none =>
   rw [show decide (upI none = -1)=true from rfl,bX,chk,if_pos hlen,dS,hp,bnoS,Int.toNat_natCast,hp,bnoS,bndD,dS,List.getElem?_set_self hlt,bnoS,bnoS,bndD,List.set_set]
   refine ⟨_,_,rfl,by rw [List.length_set]; exact hlen,?_,?_⟩
   · have hoth:∀ (n:Nk) v,hd v → iQ (ns.set p n) (mH ns first v) (kids v):=fun n v hv=>(h.ch v hv).other (hpk v hv) n
     refine ⟨fun v hv=>?_,aA6 h hu hpk,aA7 h hu hpk,fun q hq=>?_⟩
     · unfold qF
       cases v with
       | none =>
         rw [if_pos rfl]
         exact ⟨rfl,_,List.getElem?_set_self hlt,hoth _ none hv⟩
       | some q =>
         rw [if_neg (by simp)]
         have hf:mH (ns.set p (⟨np.id,upI none,np.first,first,np.weight,np.closed⟩:Nk)) (p:Int) (some q)=mH ns first (some q):=by
          show ((ns.set p _).getD q default).first=(ns.getD q default).first
          rw [List.getD_eq_getElem?_getD,List.getD_eq_getElem?_getD]
          by_cases e:p=q
          · subst e; rw [List.getElem?_set_self hlt,hp]; rfl
          · rw [List.getElem?_set_ne e]
         rw [hf]
         exact hoth _ (some q) hv
     · obtain ⟨n,hn⟩:=h.at' q hq
       by_cases e:p=q
       · subst e; exact ⟨_,List.getElem?_set_self hlt⟩
       · exact ⟨n,by rw [List.getElem?_set_ne e]; exact hn⟩
   · refine ⟨fun q hq=>?_,fun n hn=>?_⟩
     · unfold mI; rw [List.getElem?_set_ne (fun e=>hq e.symm)]
     · rw [hp] at hn
       injection hn with hn
       subst hn
       unfold mI; rw [List.getElem?_set_self hlt]; rfl
 | some q =>
   have hqp:q ≠ p:=fun e=>hpu (by rw [e])
   obtain ⟨nq,hq⟩:=h.at' q hu
   have hltq:=(List.getElem?_eq_some_iff.1 hq).1
   have hq2:∀ n:Nk,(ns.set p n)[q]? = some nq:=fun n=>by rw [List.getElem?_set_ne (fun e=>hqp e.symm)]; exact hq
   rw [decide_eq_false (show ¬ upI (some q) = -1 from fun e=>by have:(q:Int) = -1:=e; omega),bG,show upI (some q)=(q:Int) from rfl,dS,hq,bnoS,chk,if_pos hlen,Int.toNat_natCast,hq,bnoS,dS,hp,bnoS,Int.toNat_natCast,hp,bnoS,bndD,dS,List.getElem?_set_self hlt,bnoS,bnoS,bndD,List.set_set,hq2,bnoS,bndD]
   refine ⟨_,_,rfl,by rw [List.length_set,List.length_set]; exact hlen,?_,?_⟩
   · refine ⟨fun v hv=>?_,aA6 h hu hpk,aA7 h hu hpk,fun r hr=>?_⟩
     · have hc:∀ (n:Nk),iQ (ns.set p n) (mH ns first v) (kids v):=fun n=>(h.ch v hv).other (hpk v hv) n
       unfold qF
       by_cases e:v=some q
       · subst e
         rw [if_pos rfl,kY (List.getElem?_set_self (by rw [List.length_set]; exact hltq))]
         refine ⟨rfl,_,by rw [List.getElem?_set_ne hqp,List.getElem?_set_self hlt],?_⟩
         refine iQ.keep (hq2 _) (by rfl) ?_
         have:=hc (⟨np.id,(q:Int),np.first,nq.first,np.weight,np.closed⟩:Nk)
         rw [kY hq] at this
         exact this
       · rw [if_neg e]
         have hf:mH ((ns.set p (⟨np.id,(q:Int),np.first,nq.first,np.weight,np.closed⟩:Nk)).set q (⟨nq.id,nq.up,(p:Int),nq.next,nq.weight,nq.closed⟩:Nk)) first v=mH ns first v:=by
          cases v with
          | none=>rfl
          | some r =>
            have hqr:q ≠ r:=fun h=>e (by rw [h])
            show (((ns.set p _).set q _).getD r default).first=(ns.getD r default).first
            rw [List.getD_eq_getElem?_getD,List.getD_eq_getElem?_getD,List.getElem?_set_ne hqr]
            by_cases e2:p=r
            · subst e2; rw [List.getElem?_set_self hlt,hp]; rfl
            · rw [List.getElem?_set_ne e2]
         rw [hf]
         exact iQ.keep (hq2 _) (by rfl) (hc _)
     · obtain ⟨n,hn⟩:=h.at' r hr
       by_cases e:q=r
       · subst e; exact ⟨_,List.getElem?_set_self (by rw [List.length_set]; exact hltq)⟩
       · rw [List.getElem?_set_ne e]
         by_cases e2:p=r
         · subst e2; exact ⟨_,List.getElem?_set_self hlt⟩
         · exact ⟨n,by rw [List.getElem?_set_ne e2]; exact hn⟩
   · refine ⟨fun r hr=>?_,fun n hn=>?_⟩
     · rw [qT (hq2 _) (by rfl)]
       unfold mI; rw [List.getElem?_set_ne (fun e=>hr e.symm)]
     · rw [hp] at hn
       injection hn with hn
       subst hn
       rw [qT (hq2 _) (by rfl)]
       unfold mI; rw [List.getElem?_set_self hlt]; rfl
end Go.Fn
open Go Go.IL
namespace Go.Fn
def fH (A:AS) (p:Nat):Prop:=∃ c,A.Cells[p]? = some c ∧ c.Live=true
def hdK (A:AS):Option Nat → Prop
 | none=>True
 | some p=>fH A p
def idP (ns:List Nk) (p:Nat):Int:=(ns.getD p default).id
def idU (ns:List Nk):Option Nat → Int
 | none=>0
 | some p=>idP ns p
def asN (ns:List Nk) (n:Nk) (u:Option Nat):Nd:=⟨n.id,idU ns u,n.weight,n.closed⟩
structure RL (A:AS) (sp:List Nat) (ns:List Nk) (first:Int) (kids:Option Nat → List Nat) (N:List Nd):Prop where
 ga:sQ A sp
 len:ns.length=64
 lk:Lk ns first (hdK A) kids
 up:∀ p,fH A p → ∃ u n,hdK A u ∧ ns[p]? = some n ∧ n.up=upI u ∧ p ∈ kids u ∧ asN ns n u ∈ N
 kid:∀ u p,hdK A u → p ∈ kids u → fH A p
 bw:∀ m ∈ N,∃ p n u,fH A p ∧ hdK A u ∧ ns[p]? = some n ∧ n.up=upI u ∧ m=asN ns n u
 inj:∀ p q,fH A p → fH A q → idP ns p=idP ns q → p=q
 so:N.Pairwise (fun a b=>a.ID < b.ID)
theorem yA {u v:Option Nat} (h:upI u=upI v):u=v:=by
 cases u with
 | none=>cases v with
   | none=>rfl
   | some q=>have:(-1:Int)=(q:Int):=h; omega
 | some p=>cases v with
   | none=>have:(p:Int) = -1:=h; omega
   | some q=>have:(p:Int)=(q:Int):=h; congr 1; omega
theorem cR {ns:List Nk} {p:Nat} {n:Nk} (h:ns[p]? = some n):idP ns p=n.id:=by
 unfold idP
 rw [List.getD_eq_getElem?_getD,h]; rfl
theorem mR {ns ns':List Nk} {q:Nat} (h:mI ns' q=mI ns q) {n:Nk} (hn:ns[q]? = some n):∃ n',ns'[q]? = some n' ∧ vG n'=vG n:=by
 unfold mI at h
 rw [hn] at h
 cases h2:ns'[q]? with
 | none=>rw [h2] at h; cases h
 | some n'=>rw [h2] at h; injection h with h; exact ⟨n',rfl,h⟩
theorem aAi {ns ns':List Nk} {q:Nat} (h:mI ns' q=mI ns q) (hn:ns[q]? = none):ns'[q]? = none:=by
 unfold mI at h
 rw [hn] at h
 cases h2:ns'[q]? with
 | none=>rfl
 | some n'=>rw [h2] at h; cases h
theorem vF {ns ns':List Nk} {q:Nat} (h:mI ns' q=mI ns q):idP ns' q=idP ns q:=by
 cases hn:ns[q]? with
 | none =>
   have:=aAi h hn
   unfold idP
   rw [List.getD_eq_getElem?_getD,List.getD_eq_getElem?_getD,hn,this]
 | some n =>
   obtain ⟨n',h1,h2⟩:=mR h hn
   rw [cR h1,cR hn]
   exact congrArg (·.1) h2
theorem pC {n n':Nk} (h:vG n'=vG n):n'.id=n.id ∧ n'.up=n.up ∧ n'.weight=n.weight ∧ n'.closed=n.closed :=
 ⟨congrArg (·.1) h,congrArg (·.2.1) h,congrArg (·.2.2.1) h,congrArg (·.2.2.2) h⟩
theorem aCA {kids:Option Nat → List Nat} {u0 u:Option Nat} {p:Nat} (hnd:(kids u0).Nodup) (hp:∀ v,p ∈ kids v → v=u0) (v:Option Nat) (q:Nat):q ∈ qF (nM kids u0 p) u p v ↔ (q=p ∧ v=u) ∨ (q ≠ p ∧ q ∈ kids v):=by
 have hdrop:∀ v,q ∈ nM kids u0 p v ↔ (q ≠ p ∧ q ∈ kids v):=fun v=>by
  unfold nM
  by_cases e:v=u0
  · rw [if_pos e,hnd.mem_erase_iff,e]
  · rw [if_neg e]
    exact ⟨fun h=>⟨fun e2=>e (hp v (e2 ▸ h)),h⟩,fun h=>h.2⟩
 unfold qF
 by_cases e:v=u
 · rw [if_pos e,List.mem_cons,hdrop u,e]
   constructor
   · rintro (h | h)
     · exact .inl ⟨h,rfl⟩
     · exact .inr h
   · rintro (h | h)
     · exact .inl h.1
     · exact .inr h
 · rw [if_neg e,hdrop v]
   constructor
   · exact fun h=>.inr h
   · rintro (h | h)
     · exact absurd h.2 e
     · exact h
theorem RL.par {A:AS} {sp:List Nat} {ns:List Nk} {first:Int} {kids:Option Nat → List Nat} {N:List Nd} (h:RL A sp ns first kids N) {p:Nat} (hp:fH A p):∃ u n,hdK A u ∧ ns[p]? = some n ∧ n.up=upI u ∧ p ∈ kids u ∧ asN ns n u ∈ N ∧ ∀ v,hdK A v → p ∈ kids v → v=u:=by
 obtain ⟨u,n,h1,h2,h3,h4,h5⟩:=h.up p hp
 exact ⟨u,n,h1,h2,h3,h4,h5,fun v hv hm=>h.lk.dj v u p hv h1 hm h4⟩
theorem tT {A:AS} {sp:List Nat} {ns:List Nk} {first:Int} {kids:Option Nat → List Nat} {N:List Nd} (h:RL A sp ns first kids N) (hk0:∀ u,¬ hdK A u → kids u=[]) {p:Nat} (hp:fH A p) {u:Option Nat} (hu:hdK A u) (hpu:u ≠ some p) (room keep:Int) (cl:List Int) :
 ∃ ns' first' kids',eN (p:Int) (upI u) room keep A.Cells A.Free A.Used ns first cl=some (room,keep,A.Cells,A.Free,A.Used,ns',first',cl) ∧ RL A sp ns' first' kids' (N.map (mvN (idP ns p) (idU ns u))) ∧ (∀ u,¬ hdK A u → kids' u=[]) ∧ (∀ q,idP ns' q=idP ns q) ∧ (∀ v q,q ∈ kids' v ↔ (q=p ∧ v=u) ∨ (q ≠ p ∧ q ∈ kids v)):=by
 obtain ⟨u0,np,a1,a2,a3,a4,a5,a6⟩:=h.par hp
 obtain ⟨ns1,first1,b1,b2,b3,b4⟩:=wN h.len h.lk a1 a2 a3 a4 room keep A.Cells A.Free A.Used cl
 obtain ⟨np1,c1,c2⟩:=mR (b4 p) a2
 have hnd:=h.lk.nd u0 a1
 have hpk:∀ v,p ∈ kids v → v=u0:=fun v hm=>by
  by_cases hv:hdK A v
  · exact a6 v hv hm
  · rw [hk0 v hv] at hm; cases hm
 have hpd:∀ v,hdK A v → p ∉ nM kids u0 p v:=fun v hv hm=>by
  unfold nM at hm
  split at hm
  · exact (hnd.mem_erase_iff.1 hm).1 rfl
  · rename_i e; exact e (hpk v hm)
 obtain ⟨ns2,first2,d1,d2,d3,d4,d5⟩:=aBb b2 b3 hu c1 hpd hpu room keep A.Cells A.Free A.Used cl
 have hmem:=fun v q=>aCA (u:=u) hnd hpk v q
 have hv2:∀ q,q ≠ p → mI ns2 q=mI ns q:=fun q hq=>(d4 q hq).trans (b4 q)
 obtain ⟨e1,e2,e3,e4⟩:=pC c2
 have hvp:∃ n2,ns2[p]? = some n2 ∧ n2.id=np.id ∧ n2.up=upI u ∧ n2.weight=np.weight ∧ n2.closed=np.closed:=by
  have:=d5 np1 c1
  unfold mI at this
  cases h2:ns2[p]? with
  | none=>rw [h2] at this; cases this
  | some n2 =>
    rw [h2] at this
    injection this with this
    refine ⟨n2,rfl,?_,?_,?_,?_⟩
    · rw [← e1]; exact congrArg (·.1) this
    · exact congrArg (·.2.1) this
    · rw [← e3]; exact congrArg (·.2.2.1) this
    · rw [← e4]; exact congrArg (·.2.2.2) this
 obtain ⟨n2,f1,f2,f3,f4,f5⟩:=hvp
 have hid:∀ q,idP ns2 q=idP ns q:=fun q=>by
  by_cases hq:q=p
  · subst hq; rw [cR f1,cR a2,f2]
  · exact vF (hv2 q hq)
 have hidU:∀ v,idU ns2 v=idU ns v:=fun v=>by
  cases v with
  | none=>rfl
  | some q=>exact hid q
 have hidp:idP ns p=np.id:=cR a2
 refine ⟨ns2,first2,_,?_,?_,?_,hid,hmem⟩
 · unfold eN
   rw [b1,bnoS]
   show (bno (gC (p:Int) (upI u) room keep A.Cells A.Free A.Used ns1 first1 cl) _)=_
   rw [d1,bnoS]
 · refine ⟨h.ga,d2,d3,fun q hq=>?_,fun v q hv hm=>?_,fun m hm=>?_,fun q r hq hr e=>h.inj q r hq hr (by rw [← hid q,← hid r]; exact e),?_⟩
   · by_cases hqp:q=p
     · subst hqp
       refine ⟨u,n2,hu,f1,f3,(hmem u q).2 (.inl ⟨rfl,rfl⟩),?_⟩
       refine List.mem_map.2 ⟨asN ns np u0,a5,?_⟩
       unfold mvN asN
       rw [if_pos (show np.id=idP ns q from hidp.symm),f2,f4,f5,hidU]
     · obtain ⟨v,n,g1,g2,g3,g4,g5⟩:=h.up q hq
       obtain ⟨n',k1,k2⟩:=mR (hv2 q hqp) g2
       obtain ⟨k3,k4,k5,k6⟩:=pC k2
       refine ⟨v,n',g1,k1,k4.trans g3,(hmem v q).2 (.inr ⟨hqp,g4⟩),?_⟩
       refine List.mem_map.2 ⟨asN ns n v,g5,?_⟩
       have hne:n.id ≠ idP ns p:=fun e=>hqp (h.inj q p hq hp (by rw [cR g2]; exact e))
       unfold mvN asN
       rw [if_neg hne,k3,k5,k6,hidU]
   · rcases (hmem v q).1 hm with ⟨rfl,_⟩ | ⟨_,hm⟩
     · exact hp
     · exact h.kid v q hv hm
   · obtain ⟨m0,hm0,rfl⟩:=List.mem_map.1 hm
     obtain ⟨q,n,v,g1,g2,g3,g4,rfl⟩:=h.bw m0 hm0
     by_cases hqp:q=p
     · subst hqp
       rw [a2] at g3
       injection g3 with g3
       subst g3
       refine ⟨q,n2,u,hp,hu,f1,f3,?_⟩
       unfold mvN asN
       rw [if_pos (show np.id=idP ns q from hidp.symm),f2,f4,f5,hidU]
     · obtain ⟨n',k1,k2⟩:=mR (hv2 q hqp) g3
       obtain ⟨k3,k4,k5,k6⟩:=pC k2
       have hne:n.id ≠ idP ns p:=fun e=>hqp (h.inj q p g1 hp (by rw [cR g3]; exact e))
       refine ⟨q,n',v,g1,g2,k1,k4.trans g4,?_⟩
       unfold mvN asN
       rw [if_neg hne,k3,k5,k6,hidU]
   · rw [List.pairwise_map]
     refine h.so.imp fun hab=>?_
     rw [kD,kD]; exact hab
 · intro v hv
   refine List.eq_nil_iff_forall_not_mem.2 fun q hm=>?_
   rcases (hmem v q).1 hm with ⟨_,rfl⟩ | ⟨_,hm⟩
   · exact hv hu
   · rw [hk0 v hv] at hm; cases hm
theorem find_L {ns:List Nk} (hlen:ns.length=64) (id:Int) {l:List Nat} (hl:l.length ≤ 64) (hs:∀ p ∈ l,∃ n,ns[p]? = some n) (r:List Nat):∀ (q:List Nat) (f:Nat),l=q ++ r → r.length < f → fK id ns (toI l) f (q.length:Int)=some (match r.find? (fun p=>decide (idP ns p=id)) with | some p=>(p:Int) | none=>-1):=by
 induction r with
 | nil =>
   intro q f h hf
   obtain ⟨f,rfl⟩:∃ g,f=g + 1:=⟨f - 1,by simp at hf; omega⟩
   rw [List.append_nil] at h
   rw [fK,bndD,show (toI l).length=q.length by unfold toI; rw [List.length_map,h],decide_eq_false (by omega),bG]; rfl
 | cons p r ih =>
   intro q f h hf
   obtain ⟨f,rfl⟩:∃ g,f=g + 1:=⟨f - 1,by simp at hf; omega⟩
   obtain ⟨n,hn⟩:=hs p (by rw [h]; simp)
   have hI:toI l=toI q ++ (p:Int) :: toI r:=by rw [h]; unfold toI; simp
   have hql:(toI q).length=q.length:=by unfold toI; simp
   have hll:(toI l).length=l.length:=by unfold toI; simp
   have e1:=mM hI
   have e2:=gY hI
   have e3:=w_at hI (by omega)
   rw [hql] at e1 e2 e3
   rw [fK,bndD,e1,bX,e2,bnoS,dS,hn,bnoS,chk,if_pos hlen,Int.toNat_natCast,hn,bnoS,bndD,List.find?_cons,cR hn]
   by_cases hid:n.id=id
   · rw [decide_eq_true hid,bX]
   · rw [decide_eq_false hid,bG,bndD,e3]
     have:=ih (q ++ [p]) f (by rw [h]; simp) (by simpa using hf)
     rw [show ((toI q ++ [(p:Int)]).length:Int)=((q ++ [p]).length:Int) by simp [hql]]
     exact this
theorem mE {A:AS} {p:Nat}:fH A p ↔ p ∈ lR A.Cells 0:=by
 rw [tU]
 simp [fH]
theorem aBk {A:AS} {sp:List Nat} {ns:List Nk} {first:Int} {kids:Option Nat → List Nat} {N:List Nd} (h:RL A sp ns first kids N) (id:Int) (room keep:Int) (cl:List Int) :
 (∃ p,fH A p ∧ idP ns p=id ∧ dD id room keep A.Cells A.Free A.Used ns first cl=some (p:Int)) ∨ ((∀ p,fH A p → idP ns p ≠ id) ∧ dD id room keep A.Cells A.Free A.Used ns first cl=some (-1)):=by
 have hlive:=aBK h.ga
 have hll:(lR A.Cells 0).length ≤ 64:=by rw [rI]; exact Nat.le_trans List.countP_le_length h.ga.len
 have hf:=find_L h.len id hll (fun p hp=>by obtain ⟨u,n,_,h2,_⟩:=h.up p (mE.2 hp); exact ⟨n,h2⟩) (lR A.Cells 0) [] fuel rfl (eS (by omega))
 have hfind:dD id room keep A.Cells A.Free A.Used ns first cl=some (match (lR A.Cells 0).find? (fun p=>decide (idP ns p=id)) with | some p=>(p:Int) | none=>-1):=by
  unfold dD
  have hA:(⟨A.Cells,A.Free,A.Used⟩:AS)=A:=rfl
  rw [hA,hlive,bnoS]
  exact hf
 rw [hfind]
 cases hc:(lR A.Cells 0).find? (fun p=>decide (idP ns p=id)) with
 | none =>
   right
   refine ⟨fun p hp e=>?_,rfl⟩
   have:=List.find?_eq_none.1 hc p (mE.1 hp)
   exact this (decide_eq_true e)
 | some p =>
   left
   have h1:=List.mem_of_find?_eq_some hc
   have h2:=List.find?_some hc
   exact ⟨p,mE.2 h1,of_decide_eq_true h2,rfl⟩
def Up (ns:List Nk):Nat → List Nat → Prop
 | p,[]=>∃ n,ns[p]? = some n ∧ n.up = -1
 | p,q :: l=>(∃ n,ns[p]? = some n ∧ n.up=(q:Int)) ∧ Up ns q l
theorem aAk {ns:List Nk} (hlen:ns.length=64) (t:Nat):∀ (l:List Nat) (p f:Nat),Up ns p l → l.length + 1 < f → eQ (t:Int) ns f (p:Int)=some (decide (t ∈ l))
 | [],p,f + 2,⟨n,h1,h2⟩,_=>by
   rw [eQ,bndD,decide_eq_false (by omega),Bool.not_false,bX,dS,h1,bnoS,chk,if_pos hlen,Int.toNat_natCast,h1,bnoS,bndD,h2,decide_eq_false (by omega),bG]
   rw [eQ,bndD,decide_eq_true rfl]
   simp
 | q :: l,p,f + 1,⟨⟨n,h1,h2⟩,h3⟩,hf=>by
   rw [eQ,bndD,decide_eq_false (by omega),Bool.not_false,bX,dS,h1,bnoS,chk,if_pos hlen,Int.toNat_natCast,h1,bnoS,bndD,h2]
   by_cases e:q=t
   · rw [decide_eq_true (by omega),bX,decide_eq_true (by simp [e])]
   · rw [decide_eq_false (by omega),bG,aAk hlen t l q f h3 (by simpa using hf)]
     congr 1
     simp [List.mem_cons,Ne.symm e]
end Go.Fn
open Go Go.IL
namespace Go.Fn
theorem aBE {A:AS} {sp:List Nat} {ns:List Nk} {first:Int} {kids:Option Nat → List Nat} {N:List Nd} (h:RL A sp ns first kids N) {p:Nat} (hp:fH A p) {n:Nk} (hn:ns[p]? = some n):∃ u,hdK A u ∧ n.up=upI u ∧ p ∈ kids u ∧ asN ns n u ∈ N:=by
 obtain ⟨u,m,h1,h2,h3,h4,h5⟩:=h.up p hp
 rw [hn] at h2
 injection h2 with h2
 subst h2
 exact ⟨u,h1,h3,h4,h5⟩
theorem sX {A:AS} {sp:List Nat} {ns:List Nk} {first:Int} {kids:Option Nat → List Nat} {N:List Nd} (h:RL A sp ns first kids N) (hpos:∀ m ∈ N,1 ≤ m.ID) {u:Option Nat} (hu:hdK A u):idU ns u=0 ↔ u=none:=by
 cases u with
 | none=>exact ⟨fun _=>rfl,fun _=>rfl⟩
 | some p =>
   obtain ⟨v,n,h1,h2,h3,h4,h5⟩:=h.up p hu
   have:=hpos _ h5
   have hi:idU ns (some p)=n.id:=cR h2
   exact ⟨fun e=>by have:1 ≤ n.id:=this; omega,fun e=>by cases e⟩
theorem tR {A:AS} {sp:List Nat} {ns:List Nk} {first:Int} {kids:Option Nat → List Nat} {N:List Nd} (h:RL A sp ns first kids N) {p:Nat} (hp:fH A p) {n:Nk} (hn:ns[p]? = some n) {u:Option Nat} (hu:n.up=upI u):nI N (idP ns p)=some (idU ns u):=by
 obtain ⟨v,h1,h2,h3,h4⟩:=aBE h hp hn
 have hv:v=u:=yA (h2.symm.trans hu)
 subst hv
 have:=tQ h.so h4
 rw [cR hn]
 exact this
theorem up_ok {A:AS} {sp:List Nat} {ns:List Nk} {first:Int} {kids:Option Nat → List Nat} {N:List Nd} (h:RL A sp ns first kids N) (hpos:∀ m ∈ N,1 ≤ m.ID) {r:Int → Nat} (hr:∀ m ∈ N,m.Parent ≠ 0 → r m.Parent < r m.ID):∀ (k p:Nat),fH A p → r (idP ns p) ≤ k → ∃ l,Up ns p l ∧ (∀ q ∈ l,fH A q) ∧ l.length ≤ k ∧ ∀ j,l.length < j → fV N j (idP ns p)=l.map (idP ns)
 | k, p,hp,hk=>by
   obtain ⟨u,n,h1,h2,h3,h4,h5⟩:=h.up p hp
   have hpar:=tR h hp h2 h3
   cases u with
   | none =>
     refine ⟨[],⟨n,h2,h3⟩,by simp,Nat.zero_le _,fun j hj=>?_⟩
     obtain ⟨j,rfl⟩:∃ i,j=i + 1:=⟨j - 1,by simp at hj; omega⟩
     show (match nI N (idP ns p) with | some q=>if q=0 then [] else q :: fV N j q | none=>[])=_
     rw [hpar]; rfl
   | some q =>
     have hne:idU ns (some q) ≠ 0:=fun e=>by have:=(sX h hpos h1).1 e; cases this
     have hlt:r (idP ns q) < r (idP ns p):=by
      have:=hr _ h5 hne
      rw [cR h2]
      exact this
     obtain ⟨k,rfl⟩:∃ i,k=i + 1:=⟨k - 1,by omega⟩
     obtain ⟨l,g1,g2,g3,g4⟩:=up_ok h hpos hr k q h1 (by omega)
     refine ⟨q :: l,⟨⟨n,h2,h3⟩,g1⟩,fun x hx=>?_,by simpa using g3,fun j hj=>?_⟩
     · rcases List.mem_cons.1 hx with rfl | hx
       · exact h1
       · exact g2 x hx
     · obtain ⟨j,rfl⟩:∃ i,j=i + 1:=⟨j - 1,by simp at hj; omega⟩
       show (match nI N (idP ns p) with | some q=>if q=0 then [] else q :: fV N j q | none=>[])=_
       rw [hpar]
       show (if idU ns (some q)=0 then [] else idU ns (some q) :: fV N j (idU ns (some q)))=_
       rw [if_neg hne]
       show idP ns q :: fV N j (idP ns q)=idP ns q :: l.map (idP ns)
       rw [g4 j (by simpa using hj)]
theorem vI {A:AS} {sp:List Nat} {ns:List Nk} {first:Int} {kids:Option Nat → List Nat} {N:List Nd} (h:RL A sp ns first kids N) (hpos:∀ m ∈ N,1 ≤ m.ID) {r:Int → Nat} (hr:∀ m ∈ N,m.Parent ≠ 0 → r m.Parent < r m.ID) (hpa:∀ m ∈ N,m.Parent=0 ∨ ∃ x ∈ N,x.ID=m.Parent) {p:Nat} (hp:fH A p):∃ l,Up ns p l ∧ (∀ q ∈ l,fH A q) ∧ l.length < N.length ∧ fV N N.length (idP ns p)=l.map (idP ns):=by
 obtain ⟨l,h1,h2,h3,h4⟩:=up_ok h hpos hr (r (idP ns p)) p hp (Nat.le_refl _)
 obtain ⟨u,n,_,g2,_,_,g5⟩:=h.up p hp
 have hid:idP ns p=n.id:=cR g2
 have hmem:∃ m ∈ N,m.ID=idP ns p:=⟨_,g5,hid.symm⟩
 have hj:=h4 (l.length + 1) (Nat.lt_succ_self _)
 have hps:=pX h.so hr hpa (l.length + 1) (idP ns p) hmem
 have hnd:=hps.1
 have hin:=hps.2
 rw [hj] at hnd hin
 have hle:(idP ns p :: l.map (idP ns)).length ≤ (N.map (·.ID)).length:=tS hnd (fun x hx=>hin x hx)
 simp at hle
 exact ⟨l,h1,h2,by omega,h4 N.length (by omega)⟩
theorem mem_ids {A:AS} {sp:List Nat} {ns:List Nk} {first:Int} {kids:Option Nat → List Nat} {N:List Nd} (h:RL A sp ns first kids N) {l:List Nat} (hl:∀ q ∈ l,fH A q) {p:Nat} (hp:fH A p):p ∈ l ↔ idP ns p ∈ l.map (idP ns):=by
 rw [List.mem_map]
 exact ⟨fun hm=>⟨p,hm,rfl⟩,fun ⟨q,hq,e⟩=>by rw [← h.inj q p (hl q hq) hp e]; exact hq⟩
theorem aBw {A:AS} {sp:List Nat} {ns:List Nk} {first:Int} {kids:Option Nat → List Nat} {N:List Nd} (h:RL A sp ns first kids N) (hpos:∀ m ∈ N,1 ≤ m.ID) (hN:N.length ≤ 64) {r:Int → Nat} (hr:∀ m ∈ N,m.Parent ≠ 0 → r m.Parent < r m.ID) (hpa:∀ m ∈ N,m.Parent=0 ∨ ∃ x ∈ N,x.ID=m.Parent) {p t:Nat} (hp:fH A p) (ht:fH A t) (room keep:Int) (C:List AC) (F U:Int) (cl:List Int) :
 jQ (p:Int) (t:Int) room keep C F U ns first cl=some (decide (idP ns t ∈ fV N N.length (idP ns p))):=by
 obtain ⟨l,h1,h2,h3,h4⟩:=vI h hpos hr hpa hp
 unfold jQ
 rw [aAk h.len t l p fuel h1 (eS (by omega)),h4]
 congr 1
 exact decide_eq_decide.2 (mem_ids h h2 ht)
def setN (id:Int) (w:Int) (c:Bool) (n:Nd):Nd:=if n.ID=id then ⟨n.ID,n.Parent,w,c⟩ else n
theorem pD (id w:Int) (c:Bool) (n:Nd):(setN id w c n).ID=n.ID:=by unfold setN; split <;> rfl
theorem aAr {A:AS} {sp:List Nat} {ns:List Nk} {first:Int} {kids:Option Nat → List Nat} {N:List Nd} (h:RL A sp ns first kids N) {p:Nat} (hp:fH A p) {n:Nk} (hn:ns[p]? = some n) (w:Int) (c:Bool) :
 RL A sp (ns.set p (⟨n.id,n.up,n.first,n.next,w,c⟩:Nk)) first kids (N.map (setN (idP ns p) w c)) ∧ ∀ q,idP (ns.set p (⟨n.id,n.up,n.first,n.next,w,c⟩:Nk)) q=idP ns q:=by
 have hlt:=(List.getElem?_eq_some_iff.1 hn).1
 have hid:∀ q,idP (ns.set p (⟨n.id,n.up,n.first,n.next,w,c⟩:Nk)) q=idP ns q:=fun q=>by
  by_cases e:p=q
  · subst e; rw [cR (List.getElem?_set_self hlt),cR hn]
  · unfold idP; rw [List.getD_eq_getElem?_getD,List.getD_eq_getElem?_getD,List.getElem?_set_ne e]
 have hidU:∀ v,idU (ns.set p (⟨n.id,n.up,n.first,n.next,w,c⟩:Nk)) v=idU ns v:=fun v=>by
  cases v with
  | none=>rfl
  | some q=>exact hid q
 have hfst:∀ v,mH (ns.set p (⟨n.id,n.up,n.first,n.next,w,c⟩:Nk)) first v=mH ns first v:=fun v=>by
  cases v with
  | none=>rfl
  | some q =>
    show ((ns.set p _).getD q default).first=(ns.getD q default).first
    rw [List.getD_eq_getElem?_getD,List.getD_eq_getElem?_getD]
    by_cases e:p=q
    · subst e; rw [List.getElem?_set_self hlt,hn]; rfl
    · rw [List.getElem?_set_ne e]
 refine ⟨⟨h.ga,by rw [List.length_set]; exact h.len,⟨fun v hv=>?_,h.lk.nd,h.lk.dj,fun q hq=>?_⟩,fun q hq=>?_,h.kid,fun m hm=>?_,fun q r hq hr e=>h.inj q r hq hr (by rw [← hid q,← hid r]; exact e),?_⟩,hid⟩
 · rw [hfst]
   exact iQ.keep hn (by rfl) (h.lk.ch v hv)
 · obtain ⟨m,hm⟩:=h.lk.at' q hq
   by_cases e:p=q
   · subst e; exact ⟨_,List.getElem?_set_self hlt⟩
   · exact ⟨m,by rw [List.getElem?_set_ne e]; exact hm⟩
 · obtain ⟨u,m,h1,h2,h3,h4,h5⟩:=h.up q hq
   by_cases e:p=q
   · subst e
     rw [hn] at h2
     injection h2 with h2
     subst h2
     refine ⟨u,_,h1,List.getElem?_set_self hlt,h3,h4,List.mem_map.2 ⟨_,h5,?_⟩⟩
     unfold setN asN
     rw [if_pos (show n.id=idP ns p from (cR hn).symm),hidU]
   · refine ⟨u,m,h1,by rw [List.getElem?_set_ne e]; exact h2,h3,h4,List.mem_map.2 ⟨_,h5,?_⟩⟩
     have hne:m.id ≠ idP ns p:=fun e2=>e (h.inj p q hp hq (by rw [cR h2]; exact e2.symm))
     unfold setN asN
     rw [if_neg hne,hidU]
 · obtain ⟨m0,hm0,rfl⟩:=List.mem_map.1 hm
   obtain ⟨q,k,u,g1,g2,g3,g4,rfl⟩:=h.bw m0 hm0
   by_cases e:p=q
   · subst e
     rw [hn] at g3
     injection g3 with g3
     subst g3
     refine ⟨p,_,u,g1,g2,List.getElem?_set_self hlt,g4,?_⟩
     unfold setN asN
     rw [if_pos (show n.id=idP ns p from (cR hn).symm),hidU]
   · refine ⟨q,k,u,g1,g2,by rw [List.getElem?_set_ne e]; exact g3,g4,?_⟩
     have hne:k.id ≠ idP ns p:=fun e2=>e (h.inj p q hp g1 (by rw [cR g3]; exact e2.symm))
     unfold setN asN
     rw [if_neg hne,hidU]
 · rw [List.pairwise_map]
   refine h.so.imp fun hab=>?_
   rw [pD,pD]; exact hab
end Go.Fn
open Go Go.IL
namespace Go.Fn
abbrev PT:=Int × Int × List aH × Int × Int × List aG × Int × List Int
theorem coll2 {ns:List Nk} (x:Int) (T:PT) (r:List Nat):∀ (acc:List Nat) (a:Int) (f:Nat),iQ ns a r → acc.length + r.length ≤ 1000 → r.length < f → fC x T ns f a (toI acc)=eD x (toI (acc ++ r)) fuel 0 T.1 T.2.1 T.2.2.1 T.2.2.2.1 T.2.2.2.2.1 ns T.2.2.2.2.2.2.1 T.2.2.2.2.2.2.2:=by
 induction r with
 | nil =>
   intro acc a f h _ hf
   obtain ⟨f,rfl⟩:∃ g,f=g + 1:=⟨f - 1,by simp at hf; omega⟩
   have h:a = -1:=h
   rw [fC,bndD,h,decide_eq_true rfl,Bool.not_true,bG,List.append_nil]
 | cons p r ih =>
   intro acc a f h ha hf
   obtain ⟨f,rfl⟩:∃ g,f=g + 1:=⟨f - 1,by simp at hf; omega⟩
   obtain ⟨h1,n,h2,h3⟩:=h
   simp at ha
   have hal:(toI acc).length=acc.length:=by unfold toI; simp
   rw [fC,bndD,h1,decide_eq_false (by omega),Bool.not_false,bX,dS,h2,bnoS,Int.toNat_natCast,h2,bnoS,kH (by simp; omega) (by simp; omega),bnoS]
   have:=ih (acc ++ [p]) n.next f h3 (by simp; omega) (by simpa using hf)
   rw [show toI (acc ++ [p])=toI acc ++ [(p:Int)] by unfold toI; simp] at this
   rw [this,List.append_assoc]; rfl
theorem coll4 {ns:List Nk} (x:Int) (T:PT) (r:List Nat):∀ (acc:List Nat) (a:Int) (f:Nat),iQ ns a r → acc.length + r.length ≤ 1000 → r.length < f → fB x T ns f a (toI acc)=eC x (toI (acc ++ r)) fuel 0 T.1 T.2.1 T.2.2.1 T.2.2.2.1 T.2.2.2.2.1 ns T.2.2.2.2.2.2.1 T.2.2.2.2.2.2.2:=by
 induction r with
 | nil =>
   intro acc a f h _ hf
   obtain ⟨f,rfl⟩:∃ g,f=g + 1:=⟨f - 1,by simp at hf; omega⟩
   have h:a = -1:=h
   rw [fB,bndD,h,decide_eq_true rfl,Bool.not_true,bG,List.append_nil]
 | cons p r ih =>
   intro acc a f h ha hf
   obtain ⟨f,rfl⟩:∃ g,f=g + 1:=⟨f - 1,by simp at hf; omega⟩
   obtain ⟨h1,n,h2,h3⟩:=h
   simp at ha
   have hal:(toI acc).length=acc.length:=by unfold toI; simp
   rw [fB,bndD,h1,decide_eq_false (by omega),Bool.not_false,bX,dS,h2,bnoS,Int.toNat_natCast,h2,bnoS,kH (by simp; omega) (by simp; omega),bnoS]
   have:=ih (acc ++ [p]) n.next f h3 (by simp; omega) (by simpa using hf)
   rw [show toI (acc ++ [p])=toI acc ++ [(p:Int)] by unfold toI; simp] at this
   rw [this,List.append_assoc]; rfl
def rW (ids:List Int) (d:Int) (n:Nd):Nd:=if n.ID ∈ ids then ⟨n.ID,d,n.Weight,n.Closed⟩ else n
theorem vT (d:Int) (N:List Nd):N.map (rW [] d)=N:=by
 conv=>rhs; rw [← List.map_id N]
 exact List.map_congr_left fun n _=>by unfold rW; rw [if_neg (by simp)]; rfl
theorem xH (a d:Int) (ids:List Int) (N:List Nd):(N.map (mvN a d)).map (rW ids d)=N.map (rW (a :: ids) d):=by
 rw [List.map_map]
 refine List.map_congr_left fun n _=>?_
 show rW ids d (mvN a d n)=rW (a :: ids) d n
 unfold rW
 rw [kD]
 unfold mvN
 by_cases h1:n.ID=a
 · rw [if_pos h1,if_pos (show n.ID ∈ a :: ids by simp [h1])]
   split <;> rfl
 · rw [if_neg h1]
   by_cases h2:n.ID ∈ ids
   · rw [if_pos h2,if_pos (show n.ID ∈ a :: ids by simp [h2])]
   · rw [if_neg h2,if_neg (by simp [h1,h2])]
theorem gixI {l:List Nat} {q r:List Nat} {p:Nat} (h:l=q ++ p :: r) (hl:l.length ≤ 1000):decide ((q.length:Int) < ((toI l).length:Int))=true ∧ gix (toI l) (q.length:Int)=some (p:Int) ∧ (toI l)[((q.length:Nat):Int).toNat]? = some (p:Int) ∧ IntKind.wrap .i64 ((q.length:Int) + 1)=((q ++ [p]).length:Int):=by
 have hI:toI l=toI q ++ (p:Int) :: toI r:=by rw [h]; unfold toI; simp
 have hql:(toI q).length=q.length:=by unfold toI; simp
 have hll:(toI l).length=l.length:=by unfold toI; simp
 have e1:=mM hI
 have e2:=gY hI
 rw [hql] at e1 e2
 have hpl:q.length ≤ 1000:=by rw [h] at hl; simp at hl; omega
 exact ⟨e1,e2,by rw [dS] at e2; rw [Int.toNat_natCast]; exact e2,by rw [w64 (by omega) (by omega)]; simp⟩
theorem moves3 {A:AS} {sp:List Nat} {x:Nat} (hx:fH A x) (room keep:Int) (cl:List Int) {ks:List Nat} (hks:ks.length ≤ 1000) (hal:∀ p ∈ ks,fH A p) (r:List Nat):∀ (q:List Nat) (f:Nat) (ns:List Nk) (first:Int) (kids:Option Nat → List Nat) (N:List Nd),ks=q ++ r → r.length < f → RL A sp ns first kids N → (∀ u,¬ hdK A u → kids u=[]) →
 ∃ ns' first' kids',eD (x:Int) (toI ks) f (q.length:Int) room keep A.Cells A.Free A.Used ns first cl=some (room,keep,A.Cells,A.Free,A.Used,ns',first',cl) ∧ RL A sp ns' first' kids' (N.map (rW ((r.filter (fun p=>decide (p ≠ x))).map (idP ns)) (idP ns x))) ∧ (∀ u,¬ hdK A u → kids' u=[]) ∧ ∀ p,idP ns' p=idP ns p:=by
 induction r with
 | nil =>
   intro q f ns first kids N h hf hR h0
   obtain ⟨f,rfl⟩:∃ g,f=g + 1:=⟨f - 1,by simp at hf; omega⟩
   rw [List.append_nil] at h
   refine ⟨ns,first,kids,?_,by rw [List.filter_nil,List.map_nil,vT]; exact hR,h0,fun _=>rfl⟩
   rw [eD,bndD,show (toI ks).length=q.length by unfold toI; rw [List.length_map,h],decide_eq_false (by omega),bG]
 | cons p r ih =>
   intro q f ns first kids N h hf hR h0
   obtain ⟨f,rfl⟩:∃ g,f=g + 1:=⟨f - 1,by simp at hf; omega⟩
   obtain ⟨e1,e2,e3,e4⟩:=gixI h hks
   have hp:fH A p:=hal p (by rw [h]; simp)
   rw [eD,bndD,e1,bX,e2,bnoS,e3,bnoS,bndD]
   by_cases hpx:p=x
   · subst hpx
     rw [decide_eq_true rfl,Bool.not_true,bG,bndD,e4]
     obtain ⟨ns',first',kids',g1,g2,g3,g4⟩:=ih (q ++ [p]) f ns first kids N (by rw [h]; simp) (by simpa using hf) hR h0
     refine ⟨ns',first',kids',g1,?_,g3,g4⟩
     rw [List.filter_cons_of_neg (by simp)]
     exact g2
   · rw [decide_eq_false (by omega),Bool.not_false,bX]
     obtain ⟨ns1,first1,kids1,m1,m2,m3,m4,_⟩:=tT hR h0 hp (u:=some x) hx (fun e=>hpx (by injection e with e; exact e.symm)) room keep cl
     have m1:eN (p:Int) (x:Int) room keep A.Cells A.Free A.Used ns first cl=_:=m1
     rw [m1,bnoS,bndD,e4]
     obtain ⟨ns',first',kids',g1,g2,g3,g4⟩:=ih (q ++ [p]) f ns1 first1 kids1 _ (by rw [h]; simp) (by simpa using hf) m2 m3
     refine ⟨ns',first',kids',g1,?_,g3,fun y=>(g4 y).trans (m4 y)⟩
     have hmap:(r.filter (fun p=>decide (p ≠ x))).map (idP ns1)=(r.filter (fun p=>decide (p ≠ x))).map (idP ns):=List.map_congr_left fun y _=>m4 y
     rw [hmap,m4 x] at g2
     rw [List.filter_cons_of_pos (by simp [hpx]),List.map_cons,← xH]
     exact g2
theorem moves5 {A:AS} {sp:List Nat} {x:Nat} (hx:fH A x) (room keep:Int) (cl:List Int) {ks:List Nat} (hks:ks.length ≤ 1000) (hal:∀ p ∈ ks,fH A p) (r:List Nat):∀ (q:List Nat) (f:Nat) (ns:List Nk) (first:Int) (kids:Option Nat → List Nat) (N:List Nd),ks=q ++ r → r.length < f → RL A sp ns first kids N → (∀ u,¬ hdK A u → kids u=[]) →
 ∃ ns' first' kids',eC (x:Int) (toI ks) f (q.length:Int) room keep A.Cells A.Free A.Used ns first cl=some (room,keep,A.Cells,A.Free,A.Used,ns',first',cl) ∧ RL A sp ns' first' kids' (N.map (rW ((r.filter (fun p=>decide (p ≠ x))).map (idP ns)) (idP ns x))) ∧ (∀ u,¬ hdK A u → kids' u=[]) ∧ ∀ p,idP ns' p=idP ns p:=by
 induction r with
 | nil =>
   intro q f ns first kids N h hf hR h0
   obtain ⟨f,rfl⟩:∃ g,f=g + 1:=⟨f - 1,by simp at hf; omega⟩
   rw [List.append_nil] at h
   refine ⟨ns,first,kids,?_,by rw [List.filter_nil,List.map_nil,vT]; exact hR,h0,fun _=>rfl⟩
   rw [eC,bndD,show (toI ks).length=q.length by unfold toI; rw [List.length_map,h],decide_eq_false (by omega),bG]
 | cons p r ih =>
   intro q f ns first kids N h hf hR h0
   obtain ⟨f,rfl⟩:∃ g,f=g + 1:=⟨f - 1,by simp at hf; omega⟩
   obtain ⟨e1,e2,e3,e4⟩:=gixI h hks
   have hp:fH A p:=hal p (by rw [h]; simp)
   rw [eC,bndD,e1,bX,e2,bnoS,e3,bnoS,bndD]
   by_cases hpx:p=x
   · subst hpx
     rw [decide_eq_true rfl,Bool.not_true,bG,bndD,e4]
     obtain ⟨ns',first',kids',g1,g2,g3,g4⟩:=ih (q ++ [p]) f ns first kids N (by rw [h]; simp) (by simpa using hf) hR h0
     refine ⟨ns',first',kids',g1,?_,g3,g4⟩
     rw [List.filter_cons_of_neg (by simp)]
     exact g2
   · rw [decide_eq_false (by omega),Bool.not_false,bX]
     obtain ⟨ns1,first1,kids1,m1,m2,m3,m4,_⟩:=tT hR h0 hp (u:=some x) hx (fun e=>hpx (by injection e with e; exact e.symm)) room keep cl
     have m1:eN (p:Int) (x:Int) room keep A.Cells A.Free A.Used ns first cl=_:=m1
     rw [m1,bnoS,bndD,e4]
     obtain ⟨ns',first',kids',g1,g2,g3,g4⟩:=ih (q ++ [p]) f ns1 first1 kids1 _ (by rw [h]; simp) (by simpa using hf) m2 m3
     refine ⟨ns',first',kids',g1,?_,g3,fun y=>(g4 y).trans (m4 y)⟩
     have hmap:(r.filter (fun p=>decide (p ≠ x))).map (idP ns1)=(r.filter (fun p=>decide (p ≠ x))).map (idP ns):=List.map_congr_left fun y _=>m4 y
     rw [hmap,m4 x] at g2
     rw [List.filter_cons_of_pos (by simp [hpx]),List.map_cons,← xH]
     exact g2
end Go.Fn
open Go Go.IL
namespace Go.Fn
theorem wF {A:AS} {sp:List Nat} {ns:List Nk} {first:Int} {kids:Option Nat → List Nat} {N:List Nd} (h:RL A sp ns first kids N) (hpos:∀ m ∈ N,1 ≤ m.ID) {u v:Option Nat} (hu:hdK A u) (hv:hdK A v) (e:idU ns u=idU ns v):u=v:=by
 cases u with
 | none =>
   exact ((sX h hpos hv).1 e.symm).symm
 | some p=>cases v with
   | none=>exact (sX h hpos hu).1 e
   | some q=>rw [h.inj p q hu hv e]
theorem rX {A:AS} {sp:List Nat} {ns:List Nk} {first:Int} {kids:Option Nat → List Nat} {N:List Nd} (h:RL A sp ns first kids N) (hpos:∀ m ∈ N,1 ≤ m.ID) {u:Option Nat} (hu:hdK A u) {m:Nd} (hm:m ∈ N):m.ID ∈ (kids u).map (idP ns) ↔ m.Parent=idU ns u:=by
 obtain ⟨p,n,v,g1,g2,g3,g4,rfl⟩:=h.bw m hm
 obtain ⟨v',k1,k2,k3,k4⟩:=aBE h g1 g3
 have hvv:v'=v:=yA (k2.symm.trans g4)
 subst hvv
 have hid:idP ns p=n.id:=cR g3
 show n.id ∈ _ ↔ idU ns v'=idU ns u
 rw [List.mem_map]
 constructor
 · rintro ⟨q,hq,e⟩
   have hqa:=h.kid u q hu hq
   have hqp:q=p:=h.inj q p hqa g1 (by rw [e,hid])
   subst hqp
   rw [h.lk.dj v' u q k1 hu k3 hq]
 · intro e
   have:v'=u:=wF h hpos k1 hu e
   subst this
   exact ⟨p,k3,hid⟩
theorem rZ {A:AS} {sp:List Nat} {ns:List Nk} {first:Int} {kids:Option Nat → List Nat} {N:List Nd} (h:RL A sp ns first kids N) (h0:∀ u,¬ hdK A u → kids u=[]) (hpos:∀ m ∈ N,1 ≤ m.ID) {x:Nat} (hx:fH A x) {u:Option Nat} (hu:hdK A u) (hux:u ≠ some x) (w:Int) (only:Bool) (room keep:Int) (cl:List Int) :
 ∃ ns' first' kids',gR (x:Int) (upI u) w only room keep A.Cells A.Free A.Used ns first cl=some (room,keep,A.Cells,A.Free,A.Used,ns',first',cl) ∧ RL A sp ns' first' kids' (N.map (kU (idP ns x) (idU ns u) w only)) ∧ (∀ u,¬ hdK A u → kids' u=[]) ∧ ∀ p,idP ns' p=idP ns p:=by
 obtain ⟨ns1,first1,kids1,m1,m2,m3,m4,m5⟩:=tT h h0 hx hu hux room keep cl
 obtain ⟨v1,n1,a1,a2,a3,a4,a5⟩:=m2.up x hx
 obtain ⟨v0,n0,b1,b2,b3,b4,b5⟩:=h.up x hx
 obtain ⟨s1,s2⟩:=aAr m2 hx a2 w n1.closed
 have hid1:∀ p,idP (ns1.set x (⟨n1.id,n1.up,n1.first,n1.next,w,n1.closed⟩:Nk)) p=idP ns p:=fun p=>(s2 p).trans (m4 p)
 -- whether it is closed
 have hcl:n1.closed=n0.closed:=by
  have hmem:=a5
  obtain ⟨m,hm,e⟩:=List.mem_map.1 hmem
  have hi:m.ID=(asN ns n0 v0).ID:=by
   have:(mvN (idP ns x) (idU ns u) m).ID=(asN ns1 n1 v1).ID:=by rw [e]
   rw [kD] at this
   rw [this]
   show n1.id=n0.id
   rw [← cR a2,← cR b2,m4]
  have hm0:=nE h.so hm b5 hi
  subst hm0
  have:(mvN (idP ns x) (idU ns u) (asN ns n0 v0)).Closed=(asN ns1 n1 v1).Closed:=by rw [e]
  have h2:(mvN (idP ns x) (idU ns u) (asN ns n0 v0)).Closed=(asN ns n0 v0).Closed:=by unfold mvN; split <;> rfl
  rw [h2] at this
  exact this.symm
 have hxid:(asN ns n0 v0).ID=idP ns x:=(cR b2).symm
 have base:∀ (o:Bool) (ids:List Int),(∀ n ∈ N,n.ID ≠ idP ns x → (n.ID ∈ ids ↔ o=true ∧ n.Parent=idU ns u)) → idP ns x ∉ ids → ((N.map (mvN (idP ns x) (idU ns u))).map (setN (idP ns1 x) w n1.closed)).map (rW ids (idP ns x))=N.map (kU (idP ns x) (idU ns u) w o):=by
  intro o ids h1 h2
  rw [List.map_map,List.map_map,m4 x]
  refine List.map_congr_left fun n hn=>?_
  show rW ids (idP ns x) (setN (idP ns x) w n1.closed (mvN (idP ns x) (idU ns u) n))=_
  unfold kU
  by_cases e:n.ID=idP ns x
  · have hnn:n=asN ns n0 v0:=nE h.so hn b5 (e.trans hxid.symm)
    rw [if_pos e]
    unfold rW
    rw [pD,kD,if_neg (by rw [e]; exact h2)]
    unfold setN
    rw [kD,if_pos e]
    unfold mvN
    rw [if_pos e]
    show (⟨n.ID,idU ns u,w,n1.closed⟩:Nd)=⟨n.ID,idU ns u,w,n.Closed⟩
    rw [hcl,hnn]; rfl
  · rw [if_neg e]
    unfold rW
    rw [pD,kD]
    have hs:setN (idP ns x) w n1.closed (mvN (idP ns x) (idU ns u) n)=n:=by
     unfold setN
     rw [kD,if_neg e]
     unfold mvN
     rw [if_neg e]
    rw [hs]
    by_cases hc:o=true ∧ n.Parent=idU ns u
    · rw [if_pos ((h1 n hn e).2 hc),if_pos hc]
    · rw [if_neg (fun hm=>hc ((h1 n hn e).1 hm)),if_neg hc]
 unfold gR
 rw [m1,bnoS]
 show ∃ ns' first' kids',(bno (gix ns1 (x:Int)) fun x26=>chk (ns1.length=64) <| bno (ns1[((x:Int)).toNat]?) fun x28=>bnd (ns1.set ((x:Int).toNat) (⟨x28.id,x28.up,x28.first,x28.next,w,x28.closed⟩:Nk)) fun x29=>_)=_ ∧ _
 rw [dS,a2,bnoS,chk,if_pos m2.len,Int.toNat_natCast,a2,bnoS,bndD]
 cases only with
 | false =>
   refine ⟨_,first1,kids1,rfl,?_,m3,hid1⟩
   have:=base false [] (fun n _ _=>by simp) (by simp)
   rw [vT] at this
   rw [← this]
   exact s1
 | true =>
   rw [Bool.not_true,bG,bndD]
   -- the kids that move
   have hks:∀ p ∈ kids1 u,fH A p:=fun p hp=>m2.kid u p hu hp
   have hksl:(kids1 u).length ≤ 64:=m2.lk.size m2.len hu
   have hch:iQ (ns1.set x (⟨n1.id,n1.up,n1.first,n1.next,w,n1.closed⟩:Nk)) (mH (ns1.set x (⟨n1.id,n1.up,n1.first,n1.next,w,n1.closed⟩:Nk)) first1 u) (kids1 u):=s1.lk.ch u hu
   have hids:∀ n ∈ N,n.ID ≠ idP ns x → (n.ID ∈ ((kids1 u).filter (fun p=>decide (p ≠ x))).map (idP (ns1.set x (⟨n1.id,n1.up,n1.first,n1.next,w,n1.closed⟩:Nk))) ↔ true=true ∧ n.Parent=idU ns u):=fun n hn hne=>by
    rw [show (true=true ∧ n.Parent=idU ns u) ↔ n.Parent=idU ns u from ⟨fun h=>h.2,fun h=>⟨rfl,h⟩⟩,← rX h hpos hu hn,List.mem_map,List.mem_map]
    constructor
    · rintro ⟨q,hq,e⟩
      have hq:=List.mem_filter.1 hq
      have hqx:q ≠ x:=of_decide_eq_true hq.2
      rcases (m5 u q).1 hq.1 with ⟨e2,_⟩ | ⟨_,hk⟩
      · exact absurd e2 hqx
      · exact ⟨q,hk,by rw [← hid1 q]; exact e⟩
    · rintro ⟨q,hq,e⟩
      have hqx:q ≠ x:=fun e2=>hne (by rw [← e,e2])
      exact ⟨q,List.mem_filter.2 ⟨(m5 u q).2 (.inr ⟨hqx,hq⟩),decide_eq_true hqx⟩,by rw [hid1 q]; exact e⟩
   have hnx:idP ns x ∉ ((kids1 u).filter (fun p=>decide (p ≠ x))).map (idP (ns1.set x (⟨n1.id,n1.up,n1.first,n1.next,w,n1.closed⟩:Nk))):=fun hm=>by
    obtain ⟨q,hq,e⟩:=List.mem_map.1 hm
    have hq:=List.mem_filter.1 hq
    have hqx:q ≠ x:=of_decide_eq_true hq.2
    exact hqx (h.inj q x (hks q hq.1) hx (by rw [← hid1 q]; exact e))
   have hfin:=base true _ hids hnx
   have T:PT:=(room,keep,A.Cells,A.Free,A.Used,ns1,first1,cl)
   cases u with
   | none =>
     rw [show decide (upI none = -1)=true from rfl,bX]
     obtain ⟨ns',first',kids',g1,g2,g3,g4⟩:=moves3 (sp:=sp) hx room keep cl (ks:=kids1 none) (by omega) hks (kids1 none) [] fuel _ first1 kids1 _ rfl (eS (by omega)) s1 m3
     refine ⟨ns',first',kids',?_,?_,g3,fun p=>(g4 p).trans (hid1 p)⟩
     · refine Eq.trans (coll2 (x:Int) (room,keep,A.Cells,A.Free,A.Used,ns1,first1,cl) (kids1 none) [] first1 fuel hch (by simp; omega) (eS (by omega))) ?_
       exact g1
     · rw [← hfin]
       rw [hid1 x] at g2
       exact g2
   | some q =>
     obtain ⟨nq,hq⟩:=s1.lk.at' q hu
     rw [show decide (upI (some q) = -1)=false from decide_eq_false (show ¬ (q:Int) = -1 by omega),bG,show upI (some q)=(q:Int) from rfl,dS,hq,bnoS,Int.toNat_natCast,hq,bnoS]
     obtain ⟨ns',first',kids',g1,g2,g3,g4⟩:=moves5 (sp:=sp) hx room keep cl (ks:=kids1 (some q)) (by omega) hks (kids1 (some q)) [] fuel _ first1 kids1 _ rfl (eS (by omega)) s1 m3
     rw [kY hq] at hch
     refine ⟨ns',first',kids',?_,?_,g3,fun p=>(g4 p).trans (hid1 p)⟩
     · refine Eq.trans (coll4 (x:Int) (room,keep,A.Cells,A.Free,A.Used,ns1,first1,cl) (kids1 (some q)) [] nq.first fuel hch (by simp; omega) (eS (by omega))) ?_
       exact g1
     · rw [← hfin]
       rw [hid1 x] at g2
       exact g2
end Go.Fn
open Go Go.IL
namespace Go.Fn
abbrev Ws:=fX
def lI (N:List Nd) (w:Ws):Ws:=if w.dep ≠ 0 ∧ ∀ m ∈ N,m.ID ≠ w.dep then ⟨0,16,false⟩ else w
def upN (N:List Nd) (x d:Int):List Nd:=if d ≠ 0 ∧ x ∈ fV N N.length d then N.map (mvN d ((nI N x).getD 0)) else N
def lN (N:List Nd) (x:Int) (w:Ws):List Nd:=(upN N x (lI N w).dep).map (kU x (lI N w).dep (lI N w).weight (lI N w).only)
theorem aB5 {N:List Nd} {r:Int → Nat} (hr:∀ m ∈ N,m.Parent ≠ 0 → r m.Parent < r m.ID) {k:Nat} {z x:Int} (h:x ∈ fV N k z):r x < r z:=tP hr k z x h
theorem sA {A:AS} {sp:List Nat} {ns:List Nk} {first:Int} {kids:Option Nat → List Nat} {N:List Nd} (h:RL A sp ns first kids N) (h0:∀ u,¬ hdK A u → kids u=[]) (hpos:∀ m ∈ N,1 ≤ m.ID) (hN:N.length ≤ 64) {r:Int → Nat} (hr:∀ m ∈ N,m.Parent ≠ 0 → r m.Parent < r m.ID) (hpa:∀ m ∈ N,m.Parent=0 ∨ ∃ x ∈ N,x.ID=m.Parent) {x:Nat} (hx:fH A x) {u:Option Nat} (hu:hdK A u) (hux:u ≠ some x) (v6 w:Int) (only:Bool) (room keep:Int) (cl:List Int) :
 ∃ ns' first' kids',gS (x:Int) room keep A.Cells A.Free A.Used ns first cl (upI u) v6 w only=some (room,keep,A.Cells,A.Free,A.Used,ns',first',cl) ∧ RL A sp ns' first' kids' ((upN N (idP ns x) (idU ns u)).map (kU (idP ns x) (idU ns u) w only)) ∧ (∀ u,¬ hdK A u → kids' u=[]) ∧ ∀ p,idP ns' p=idP ns p:=by
 obtain ⟨v,n,b1,b2,b3,b4,b5⟩:=h.up x hx
 unfold gS
 rw [bndD]
 cases u with
 | none =>
   rw [show decide (upI none = -1)=true from rfl,Bool.not_true,show ((false == true):Bool)=false from rfl,gdff,bnoS,bndD,Bool.false_and,bG]
   obtain ⟨ns',first',kids',g1,g2,g3,g4⟩:=rZ h h0 hpos hx (u:=none) hu hux w only room keep cl
   refine ⟨ns',first',kids',g1,?_,g3,g4⟩
   have:upN N (idP ns x) (idU ns none)=N:=if_neg (fun hh=>hh.1 rfl)
   rw [this]; exact g2
 | some q =>
   have hqx:q ≠ x:=fun e=>hux (by rw [e])
   have hne:idU ns (some q) ≠ 0:=fun e=>by have:=(sX h hpos hu).1 e; cases this
   rw [show decide (upI (some q) = -1)=false from decide_eq_false (show ¬ (q:Int) = -1 by omega),Bool.not_false,beq_self_eq_true,gdtt,show upI (some q)=(q:Int) from rfl,aBw h hpos hN hr hpa (p:=q) (t:=x) hu hx,bnoS,bndD,Bool.true_and]
   by_cases hm:idP ns x ∈ fV N N.length (idP ns q)
   · rw [decide_eq_true hm,bX,dS,b2,bnoS,chk,if_pos h.len,Int.toNat_natCast,b2,bnoS,b3]
     have hlow:=aB5 hr hm
     have hvq:v ≠ some q:=fun e=>by
      subst e
      have hpar:(asN ns n (some q)).Parent=idP ns q:=rfl
      have:=hr _ b5 (by rw [hpar]; exact hne)
      have h2:r (idP ns q) < r (idP ns x):=by rw [cR b2]; exact this
      omega
     obtain ⟨ns1,first1,kids1,m1,m2,m3,m4,m5⟩:=tT h h0 (p:=q) hu (u:=v) b1 hvq room keep cl
     rw [m1,bnoS]
     have hpos1:∀ m ∈ N.map (mvN (idP ns q) (idU ns v)),1 ≤ m.ID:=fun m hm=>by
      obtain ⟨m0,hm0,rfl⟩:=List.mem_map.1 hm
      rw [kD]; exact hpos m0 hm0
     obtain ⟨ns',first',kids',g1,g2,g3,g4⟩:=rZ m2 m3 hpos1 hx (u:=some q) hu hux w only room keep cl
     refine ⟨ns',first',kids',g1,?_,g3,fun p=>(g4 p).trans (m4 p)⟩
     have hpo:nI N (idP ns x)=some (idU ns v):=tR h hx b2 b3
     have hup:upN N (idP ns x) (idU ns (some q))=N.map (mvN (idP ns q) (idU ns v)):=by
      unfold upN
      rw [if_pos ⟨hne,hm⟩,hpo]; rfl
     have hU:idU ns1 (some q)=idU ns (some q):=m4 q
     rw [m4 x,hU] at g2
     rw [hup]; exact g2
   · rw [decide_eq_false hm,bG]
     obtain ⟨ns',first',kids',g1,g2,g3,g4⟩:=rZ h h0 hpos hx (u:=some q) hu hux w only room keep cl
     refine ⟨ns',first',kids',g1,?_,g3,g4⟩
     have:upN N (idP ns x) (idU ns (some q))=N:=if_neg (fun hh=>hm hh.2)
     rw [this]; exact g2
theorem aAA {A:AS} {sp:List Nat} {ns:List Nk} {first:Int} {kids:Option Nat → List Nat} {N:List Nd} (h:RL A sp ns first kids N) (h0:∀ u,¬ hdK A u → kids u=[]) (hpos:∀ m ∈ N,1 ≤ m.ID) (hN:N.length ≤ 64) {r:Int → Nat} (hr:∀ m ∈ N,m.Parent ≠ 0 → r m.Parent < r m.ID) (hpa:∀ m ∈ N,m.Parent=0 ∨ ∃ x ∈ N,x.ID=m.Parent) {x:Nat} (hx:fH A x) (w:Ws) (hw:w.dep ≠ idP ns x) (hw0:0 ≤ w.dep) (room keep:Int) (cl:List Int) :
 ∃ ns' first' kids',gF (x:Int) w room keep A.Cells A.Free A.Used ns first cl=some (room,keep,A.Cells,A.Free,A.Used,ns',first',cl) ∧ RL A sp ns' first' kids' (lN N (idP ns x) w) ∧ (∀ u,¬ hdK A u → kids' u=[]) ∧ ∀ p,idP ns' p=idP ns p:=by
 unfold gF
 rcases aBk h w.dep room keep cl with ⟨q,f1,f2,f3⟩ | ⟨f1,f3⟩
 · have hq0:w.dep ≠ 0:=fun e=>by
    obtain ⟨u,n,_,g2,_,_,g5⟩:=h.up q f1
    have:=hpos _ g5
    have h2:1 ≤ n.id:=this
    rw [cR g2] at f2; omega
   have hwS:lI N w=w:=by
    unfold lI
    rw [if_neg]
    rintro ⟨_,hno⟩
    obtain ⟨u,n,_,g2,_,_,g5⟩:=h.up q f1
    exact hno _ g5 (by show n.id=w.dep; rw [← cR g2]; exact f2)
   rw [f3,bnoS,bndD,decide_eq_false (show ¬ (q:Int) = -1 by omega),bndD,bndD,Bool.false_and,bG]
   have hux:(some q:Option Nat) ≠ some x:=fun e=>by injection e with e; exact hw (by rw [← f2,e])
   obtain ⟨ns',first',kids',g1,g2,g3,g4⟩:=sA h h0 hpos hN hr hpa hx (u:=some q) f1 hux w.dep w.weight w.only room keep cl
   refine ⟨ns',first',kids',g1,?_,g3,g4⟩
   unfold lN
   rw [hwS,← f2]; exact g2
 · rw [f3,bnoS,bndD,decide_eq_true rfl,bndD,bndD,Bool.true_and]
   have hno:∀ m ∈ N,m.ID ≠ w.dep:=fun m hm e=>by
    obtain ⟨p,n,u,g1,_,g3,_,rfl⟩:=h.bw m hm
    exact f1 p g1 ((cR g3).trans e)
   by_cases hd:w.dep=0
   · rw [decide_eq_true hd,Bool.not_true,bG]
     have hwS:lI N w=w:=if_neg (fun hh=>hh.1 hd)
     obtain ⟨ns',first',kids',g1,g2,g3,g4⟩:=sA h h0 hpos hN hr hpa hx (u:=none) trivial (by simp) w.dep w.weight w.only room keep cl
     refine ⟨ns',first',kids',g1,?_,g3,g4⟩
     unfold lN
     rw [hwS,hd]; exact g2
   · rw [decide_eq_false hd,Bool.not_false,bX]
     have hwS:lI N w=⟨0,16,false⟩:=if_pos ⟨hd,hno⟩
     obtain ⟨ns',first',kids',g1,g2,g3,g4⟩:=sA h h0 hpos hN hr hpa hx (u:=none) trivial (by simp) 0 16 false room keep cl
     refine ⟨ns',first',kids',g1,?_,g3,g4⟩
     unfold lN
     rw [hwS]; exact g2
end Go.Fn
open Go Go.IL
namespace Go.Fn
def wsum (ns:List Nk) (l:List Nat):Int:=(l.map fun p=>(ns.getD p default).weight).sum
theorem uR:∀ (N:List Nd) (id:Int),sumS N id=((N.filter (fun n=>decide (n.Parent=id))).map (fun n=>n.Weight)).sum
 | [],_=>rfl
 | n :: N,id=>by
   have ih:=uR N id
   show (if n.Parent=id then n.Weight else 0) + sumS N id=_
   by_cases h:n.Parent=id
   · rw [if_pos h,List.filter_cons_of_pos (by simp [h]),List.map_cons,List.sum_cons,ih]
   · rw [if_neg h,List.filter_cons_of_neg (by simp [h]),ih]; omega
theorem aB4 {l m:List Int} (h:l.Perm m):l.sum=m.sum:=by
 induction h with
 | nil=>rfl
 | cons x _ ih=>rw [List.sum_cons,List.sum_cons,ih]
 | swap x y l=>rw [List.sum_cons,List.sum_cons,List.sum_cons,List.sum_cons]; omega
 | trans _ _ h1 h2=>exact h1.trans h2
theorem ws_sum {A:AS} {sp:List Nat} {ns:List Nk} {first:Int} {kids:Option Nat → List Nat} {N:List Nd} (h:RL A sp ns first kids N) (hpos:∀ m ∈ N,1 ≤ m.ID) {x:Nat} (hx:fH A x):wsum ns (kids (some x))=sumS N (idP ns x):=by
 rw [uR]
 have hk:∀ p ∈ kids (some x),fH A p:=fun p hp=>h.kid (some x) p hx hp
 have hnode:∀ p ∈ kids (some x),asN ns (ns.getD p default) (some x) ∈ N:=fun p hp=>by
  obtain ⟨u,n,g1,g2,g3,g4,g5⟩:=h.up p (hk p hp)
  have hu:u=some x:=h.lk.dj u (some x) p g1 hx g4 hp
  subst hu
  rw [List.getD_eq_getElem?_getD,g2]; exact g5
 have hmap:(kids (some x)).map (fun p=>(ns.getD p default).weight)=((kids (some x)).map (fun p=>asN ns (ns.getD p default) (some x))).map (fun n=>n.Weight):=by rw [List.map_map]; rfl
 have hp:((kids (some x)).map (fun p=>asN ns (ns.getD p default) (some x))).Perm (N.filter (fun n=>decide (n.Parent=idP ns x))):=by
  refine (List.perm_ext_iff_of_nodup ?_ ?_).2 fun m=>?_
  · refine List.pairwise_map.2 ((h.lk.nd (some x) hx).imp_of_mem fun {p q} hp hq hne e=>hne ?_)
    exact h.inj p q (hk p hp) (hk q hq) (congrArg (·.ID) e)
  · refine List.Pairwise.filter _ ?_
    exact h.so.imp fun hab e=>by rw [e] at hab; omega
  · rw [List.mem_map,List.mem_filter]
    constructor
    · rintro ⟨p,hp,rfl⟩
      exact ⟨hnode p hp,decide_eq_true rfl⟩
    · rintro ⟨hm,hd⟩
      have hpar:m.Parent=idU ns (some x):=of_decide_eq_true hd
      obtain ⟨p,hp,e⟩:=List.mem_map.1 ((rX h hpos (u:=some x) hx hm).2 hpar)
      refine ⟨p,hp,nE h.so (hnode p hp) hm e⟩
 unfold wsum
 rw [hmap]
 exact aB4 (hp.map _)
theorem off8 {ns:List Nk} {x:Nat} {room keep:Int} {C:List AC} {F U first:Int} {cl:List Int} (r:List Nat):∀ (a acc:Int) (f:Nat),iQ ns a r → (∀ p ∈ r,0 ≤ (ns.getD p default).weight ∧ (ns.getD p default).weight ≤ 256) → 0 ≤ acc → acc + 256 * r.length ≤ 1000000 → r.length < f → fT (x:Int) room keep C F U ns first cl f a acc=iC (x:Int) room keep C F U ns first cl (acc + wsum ns r):=by
 induction r with
 | nil =>
   intro a acc f h _ _ _ hf
   obtain ⟨f,rfl⟩:∃ g,f=g + 1:=⟨f - 1,by simp at hf; omega⟩
   have h:a = -1:=h
   rw [fT,bndD,h,decide_eq_true rfl,Bool.not_true,bG]
   simp [wsum]
 | cons p r ih =>
   intro a acc f h hw ha hb hf
   obtain ⟨f,rfl⟩:∃ g,f=g + 1:=⟨f - 1,by simp at hf; omega⟩
   obtain ⟨h1,n,h2,h3⟩:=h
   have hwp:=hw p (by simp)
   have hgn:ns.getD p default=n:=by rw [List.getD_eq_getElem?_getD,h2]; rfl
   rw [hgn] at hwp
   simp at hb
   rw [fT,bndD,h1,decide_eq_false (by omega),Bool.not_false,bX,dS,h2,bnoS,Int.toNat_natCast,h2,bnoS,bnoS,bnoS,bndD,w64 (by omega) (by omega)]
   rw [ih n.next (acc + n.weight) f h3 (fun q hq=>hw q (by simp [hq])) (by omega) (by omega) (by simpa using hf)]
   congr 1
   unfold wsum
   rw [List.map_cons,List.sum_cons,hgn]; omega
theorem coll5 {ns:List Nk} {x:Nat} {room keep S:Int} {C:List AC} {F U first:Int} {cl:List Int} (r:List Nat):∀ (acc:List Nat) (a:Int) (f:Nat),iQ ns a r → acc.length + r.length ≤ 1000 → r.length < f → fU (x:Int) room keep C F U ns first cl S f a (toI acc)=dB (x:Int) S (toI (acc ++ r)) fuel 0 room keep C F U ns first cl:=by
 induction r with
 | nil =>
   intro acc a f h _ hf
   obtain ⟨f,rfl⟩:∃ g,f=g + 1:=⟨f - 1,by simp at hf; omega⟩
   have h:a = -1:=h
   rw [fU,bndD,h,decide_eq_true rfl,Bool.not_true,bG,List.append_nil]
 | cons p r ih =>
   intro acc a f h ha hf
   obtain ⟨f,rfl⟩:∃ g,f=g + 1:=⟨f - 1,by simp at hf; omega⟩
   obtain ⟨h1,n,h2,h3⟩:=h
   simp at ha
   have hal:(toI acc).length=acc.length:=by unfold toI; simp
   rw [fU,bndD,h1,decide_eq_false (by omega),Bool.not_false,bX,dS,h2,bnoS,Int.toNat_natCast,h2,bnoS,kH (by simp; omega) (by simp; omega),bnoS]
   have:=ih (acc ++ [p]) n.next f h3 (by simp; omega) (by simpa using hf)
   rw [show toI (acc ++ [p])=toI acc ++ [(p:Int)] by unfold toI; simp] at this
   rw [this,List.append_assoc]; rfl
end Go.Fn
open Go Go.IL
namespace Go.Fn
theorem vR {A:AS} {sp:List Nat} {ns:List Nk} {first:Int} {kids:Option Nat → List Nat} {N:List Nd} (h:RL A sp ns first kids N) {p:Nat} (hp:fH A p) {m:Nd} (hm:m ∈ N) (e:m.ID=idP ns p):∃ n u,ns[p]? = some n ∧ hdK A u ∧ n.up=upI u ∧ m=asN ns n u:=by
 obtain ⟨u,n,h1,h2,h3,h4,h5⟩:=h.up p hp
 refine ⟨n,u,h2,h1,h3,nE h.so hm h5 ?_⟩
 rw [e,cR h2]; rfl
def upsN (ids:List Int) (d W S:Int) (n:Nd):Nd:=if n.ID ∈ ids then ⟨n.ID,d,max (W * n.Weight / S) 1,n.Closed⟩ else n
theorem vH (ids:List Int) (d W S:Int) (n:Nd):(upsN ids d W S n).ID=n.ID:=by unfold upsN; split <;> rfl
theorem aAj (d W S:Int) (N:List Nd):N.map (upsN [] d W S)=N:=by
 conv=>rhs; rw [← List.map_id N]
 exact List.map_congr_left fun n _=>by unfold upsN; rw [if_neg (by simp)]; rfl
theorem aBv {a:Int} {ids:List Int} (ha:a ∉ ids) (d W S w:Int) (c:Bool) {N:List Nd} (hso:N.Pairwise (fun a b=>a.ID < b.ID)) {m:Nd} (hm:m ∈ N) (hma:m.ID=a) (hw:w=max (W * m.Weight / S) 1) (hc:c=m.Closed):((N.map (setN a w c)).map (mvN a d)).map (upsN ids d W S)=N.map (upsN (a :: ids) d W S):=by
 rw [List.map_map,List.map_map]
 refine List.map_congr_left fun n hn=>?_
 show upsN ids d W S (mvN a d (setN a w c n))=upsN (a :: ids) d W S n
 by_cases h1:n.ID=a
 · have hnm:n=m:=nE hso hn hm (h1.trans hma.symm)
   subst hnm
   have e1:mvN a d (setN a w c n)=⟨n.ID,d,w,c⟩:=by
    unfold mvN
    rw [pD,if_pos h1]
    unfold setN
    rw [if_pos h1]
   rw [e1]
   unfold upsN
   rw [if_neg (show n.ID ∉ ids from h1 ▸ ha),if_pos (show n.ID ∈ a :: ids by simp [h1]),hw,hc]
 · have e1:mvN a d (setN a w c n)=n:=by
    unfold mvN
    rw [pD,if_neg h1]
    unfold setN
    rw [if_neg h1]
   rw [e1]
   unfold upsN
   by_cases h2:n.ID ∈ ids
   · rw [if_pos h2,if_pos (by simp [h2])]
   · rw [if_neg h2,if_neg (by simp [h1,h2])]
theorem off6 {A:AS} {sp:List Nat} {x:Nat} (hx:fH A x) (room keep:Int) (cl:List Int) {S:Int} (hS:1 ≤ S) {v:Option Nat} (hv:hdK A v) {W:Int} (hW:1 ≤ W ∧ W ≤ 256) {cx:Bool} {ks:List Nat} (hks:ks.length ≤ 64) (hal:∀ p ∈ ks,fH A p) (hkx:∀ p ∈ ks,p ≠ x) (hkv:∀ p ∈ ks,v ≠ some p) (hkn:ks.Nodup) (r:List Nat):∀ (q:List Nat) (f:Nat) (ns:List Nk) (first:Int) (kids:Option Nat → List Nat) (N:List Nd),ks=q ++ r → r.length < f → RL A sp ns first kids N → (∀ u,¬ hdK A u → kids u=[]) → (∀ m ∈ N,1 ≤ m.ID) → (∀ m ∈ N,1 ≤ m.Weight ∧ m.Weight ≤ 256) → (∀ m ∈ N,m.ID ∈ r.map (idP ns) → m.Weight ≤ S) → (⟨idP ns x,idU ns v,W,cx⟩:Nd) ∈ N →
 ∃ ns' first' kids' f',dB (x:Int) S (toI ks) f (q.length:Int) room keep A.Cells A.Free A.Used ns first cl=dB (x:Int) S (toI ks) (f' + 1) (ks.length:Int) room keep A.Cells A.Free A.Used ns' first' cl ∧ RL A sp ns' first' kids' (N.map (upsN (r.map (idP ns)) (idU ns v) W S)) ∧ (∀ u,¬ hdK A u → kids' u=[]) ∧ (∀ p,idP ns' p=idP ns p) ∧ ∀ u p,(p ∉ r) → (p ∈ kids' u ↔ p ∈ kids u):=by
 induction r with
 | nil =>
   intro q f ns first kids N h hf hR h0 hpos hw hle hxN
   obtain ⟨f,rfl⟩:∃ g,f=g + 1:=⟨f - 1,by simp at hf; omega⟩
   rw [List.append_nil] at h
   exact ⟨ns,first,kids,f,by rw [h],by rw [List.map_nil,aAj]; exact hR,h0,fun _=>rfl,fun _ _ _=>Iff.rfl⟩
 | cons p r ih =>
   intro q f ns first kids N h hf hR h0 hpos hw hle hxN
   obtain ⟨f,rfl⟩:∃ g,f=g + 1:=⟨f - 1,by simp at hf; omega⟩
   obtain ⟨e1,e2,e3,e4⟩:=gixI h (by omega)
   have hpm:p ∈ ks:=by rw [h]; simp
   have hp:=hal p hpm
   have hpx:=hkx p hpm
   obtain ⟨nx,vx,x1,x2,x3,x4⟩:=vR hR hx hxN rfl
   have hvx:vx=v:=wF hR hpos x2 hv (congrArg (·.Parent) x4).symm
   subst hvx
   have hxw:nx.weight=W:=(congrArg (·.Weight) x4).symm
   obtain ⟨up,np,p1,p2,p3,p4,p5⟩:=hR.up p hp
   have hwp:=hw _ p5
   have hwp:1 ≤ np.weight ∧ np.weight ≤ 256:=hwp
   have hprod:0 ≤ nx.weight * np.weight ∧ nx.weight * np.weight ≤ 65536:=by
    rw [hxw]
    constructor
    · exact Int.mul_nonneg (by omega) (by omega)
    · calc W * np.weight ≤ 256 * 256:=Int.mul_le_mul hW.2 hwp.2 (by omega) (by decide)
       _=65536:=by decide
   have hquo:quoI .i64 (nx.weight * np.weight) S=some (W * np.weight / S):=by
    rw [quo_ok hprod.1 (by omega) (by omega),hxw]
   obtain ⟨s1,s2⟩:=aAr hR hp p2 (max (W * np.weight / S) 1) np.closed
   have hx1:(ns.set p (⟨np.id,np.up,np.first,np.next,max (W * np.weight / S) 1,np.closed⟩:Nk))[x]? = some nx:=by rw [List.getElem?_set_ne hpx]; exact x1
   obtain ⟨ns1,first1,kids1,m1,m2,m3,m4,m5⟩:=tT s1 h0 hp (u:=vx) hv (hkv p hpm) room keep cl
   have hidp:∀ y,idP ns1 y=idP ns y:=fun y=>(m4 y).trans (s2 y)
   have hidU:∀ u,idU ns1 u=idU ns u:=fun u=>by cases u with
    | none=>rfl
    | some y=>exact hidp y
   have hidU2:idU (ns.set p (⟨np.id,np.up,np.first,np.next,max (W * np.weight / S) 1,np.closed⟩:Nk)) vx=idU ns vx:=by cases vx with
    | none=>rfl
    | some y=>exact s2 y
   rw [s2 p,hidU2] at m2
   have himg:∀ m ∈ (N.map (setN (idP ns p) (max (W * np.weight / S) 1) np.closed)).map (mvN (idP ns p) (idU ns vx)),1 ≤ m.ID ∧ 1 ≤ m.Weight ∧ m.Weight ≤ 256:=fun m hm=>by
    obtain ⟨m1,hm1,rfl⟩:=List.mem_map.1 hm
    obtain ⟨m0,hm0,rfl⟩:=List.mem_map.1 hm1
    have hmw:(mvN (idP ns p) (idU ns vx) (setN (idP ns p) (max (W * np.weight / S) 1) np.closed m0)).Weight=(setN (idP ns p) (max (W * np.weight / S) 1) np.closed m0).Weight:=by unfold mvN; split <;> rfl
    rw [kD,pD,hmw]
    refine ⟨hpos m0 hm0,?_⟩
    unfold setN
    split
    · show 1 ≤ max (W * np.weight / S) 1 ∧ max (W * np.weight / S) 1 ≤ 256
      have hws:np.weight ≤ S:=hle _ p5 (by rw [show ((asN ns np up:Nd)).ID=idP ns p from (cR p2).symm]; simp)
      have:W * np.weight / S ≤ 256:=Int.ediv_le_of_le_mul (by omega) (Int.mul_le_mul hW.2 hws (by omega) (by decide))
      omega
    · exact hw m0 hm0
   have hmap:r.map (idP ns1)=r.map (idP ns):=List.map_congr_left fun y _=>hidp y
   have hnr:p ∉ r:=fun hm=>by
    rw [h] at hkn
    exact (List.nodup_cons.1 (List.nodup_append.1 hkn).2.1).1 hm
   have hnid:idP ns p ∉ r.map (idP ns):=fun hm=>by
    obtain ⟨y,hy,e⟩:=List.mem_map.1 hm
    have hya:=hal y (by rw [h]; simp [hy])
    exact hnr (hR.inj y p hya hp e ▸ hy)
   have himl:∀ m ∈ (N.map (setN (idP ns p) (max (W * np.weight / S) 1) np.closed)).map (mvN (idP ns p) (idU ns vx)),m.ID ∈ r.map (idP ns1) → m.Weight ≤ S:=fun m hm=>by
    obtain ⟨m1,hm1,rfl⟩:=List.mem_map.1 hm
    obtain ⟨m0,hm0,rfl⟩:=List.mem_map.1 hm1
    have hmw:(mvN (idP ns p) (idU ns vx) (setN (idP ns p) (max (W * np.weight / S) 1) np.closed m0)).Weight=(setN (idP ns p) (max (W * np.weight / S) 1) np.closed m0).Weight:=by unfold mvN; split <;> rfl
    rw [kD,pD,hmw,hmap]
    intro hmi
    have hne:m0.ID ≠ idP ns p:=fun e=>hnid (e ▸ hmi)
    unfold setN
    rw [if_neg hne]
    exact hle m0 hm0 (by rw [List.map_cons]; exact List.mem_cons_of_mem _ hmi)
   have hxN1:(⟨idP ns1 x,idU ns1 vx,W,cx⟩:Nd) ∈ (N.map (setN (idP ns p) (max (W * np.weight / S) 1) np.closed)).map (mvN (idP ns p) (idU ns vx)):=by
    rw [hidp x,hidU vx]
    have hne:idP ns x ≠ idP ns p:=fun e=>hpx (hR.inj x p hx hp e).symm
    refine List.mem_map.2 ⟨_,List.mem_map.2 ⟨_,hxN,rfl⟩,?_⟩
    unfold mvN
    rw [pD,if_neg hne]
    unfold setN
    rw [if_neg hne]
   obtain ⟨ns',first',kids',f',g1,g2,g3,g4,g5⟩:=ih (q ++ [p]) f ns1 first1 kids1 _ (by rw [h]; simp) (by simpa using hf) m2 m3 (fun m hm=>(himg m hm).1) (fun m hm=>(himg m hm).2) himl hxN1
   refine ⟨ns',first',kids',f',?_,?_,g3,fun y=>(g4 y).trans (hidp y),fun u y hy=>?_⟩
   · rw [dB,bndD,e1,bX,e2,bnoS,e3,bnoS,dS,x1,bnoS,chk,if_pos hR.len,Int.toNat_natCast,x1,bnoS,dS,p2,bnoS,Int.toNat_natCast,p2,bnoS,bndD,w64 (by omega) (by omega),hquo,bnoS,bndD,bnoS,bnoS,bndD,dS,hx1,bnoS,bnoS,x3,m1,bnoS,bndD,e4]
     exact g1
   · rw [hmap,hidU vx] at g2
     rw [List.map_cons,← aBv hnid (idU ns vx) W S (max (W * np.weight / S) 1) np.closed hR.so p5 (cR p2).symm rfl rfl]
     exact g2
   · simp at hy
     rw [g5 u y hy.2,m5 u y]
     constructor
     · rintro (⟨e,_⟩ | ⟨_,hm⟩)
       · exact absurd e hy.1
       · exact hm
     · exact fun hm=>.inr ⟨hy.1,hm⟩
end Go.Fn
open Go Go.IL
namespace Go.Fn
theorem del19 {E:List Int} {id:Int} (hl:E.length ≤ 100000):dH E id=some (E.filter fun y=>!decide (y=id)) :=
 uM (P:=fun x=>kN x id) (q:=fun y=>decide (y=id)) (I:=dG E id) (L:=cL id) (fun _=>rfl) (fun _ _=>rfl) (fun _ _ _ _=>rfl) hl
theorem lH {A:AS} {x:Nat} (hx:fH A x) (p:Nat):fH (oQ A x) p ↔ fH A p ∧ p ≠ x:=by
 obtain ⟨c,hc,_⟩:=hx
 unfold fH oQ
 by_cases e:p=x
 · subst e
   rw [List.getElem?_set_self (List.getElem?_eq_some_iff.1 hc).1]
   constructor
   · rintro ⟨d,hd,hl⟩
     injection hd with hd
     subst hd
     cases hl
   · exact fun h=>absurd rfl h.2
 · rw [List.getElem?_set_ne (Ne.symm e)]
   exact ⟨fun h=>⟨h,e⟩,fun h=>h.1⟩
theorem pH {A:AS} {x:Nat} (hx:fH A x) (u:Option Nat):hdK (oQ A x) u ↔ hdK A u ∧ u ≠ some x:=by
 cases u with
 | none=>exact ⟨fun h=>⟨h,nofun⟩,fun h=>h.1⟩
 | some p =>
   constructor
   · exact fun h=>⟨((lH hx p).1 h).1,fun e=>((lH hx p).1 h).2 (Option.some.inj e)⟩
   · exact fun h=>(lH hx p).2 ⟨h.1,fun e=>h.2 (e ▸ rfl)⟩
theorem gone_ok {A:AS} {sp:List Nat} {ns:List Nk} {first:Int} {kids:Option Nat → List Nat} {N:List Nd} (h:RL A sp ns first kids N) (h0:∀ u,¬ hdK A u → kids u=[]) {x:Nat} (hx:fH A x) (hk:kids (some x)=[]) (room keep:Int) {cl:List Int} (hcl:cl.length ≤ 100000) {S:Int} {ks:List Nat} (hks:ks.length ≤ 1000) (f:Nat) :
 ∃ ns' first' kids',dB (x:Int) S (toI ks) (f + 1) (ks.length:Int) room keep A.Cells A.Free A.Used ns first cl=some (room,keep,(oQ A x).Cells,(oQ A x).Free,(oQ A x).Used,ns',first',cl.filter fun y=>!decide (y=(x:Int))) ∧ RL (oQ A x) (x :: sp) ns' first' kids' (N.filter fun n=>!decide (n.ID=idP ns x)) ∧ (∀ u,¬ hdK (oQ A x) u → kids' u=[]) ∧ (∀ q,idP ns' q=idP ns q):=by
 obtain ⟨u,nx,a1,a2,a3,a4,a5,a6⟩:=h.par hx
 obtain ⟨ns1,first1,b1,b2,b3,b4⟩:=wN h.len h.lk a1 a2 a3 a4 room keep A.Cells A.Free A.Used cl
 obtain ⟨c,hc,hl⟩:=hx
 obtain ⟨g1,g2⟩:=give_ok h.ga hc hl
 have hx:fH A x:=⟨c,hc,hl⟩
 have hid:∀ q,idP ns1 q=idP ns q:=fun q=>vF (b4 q)
 have hidU:∀ v,idU ns1 v=idU ns v:=fun v=>by
  cases v with
  | none=>rfl
  | some q=>exact hid q
 have hnd:=h.lk.nd u a1
 have hdr:∀ v q,hdK A v → (q ∈ nM kids u x v ↔ q ≠ x ∧ q ∈ kids v):=fun v q hv=>by
  unfold nM
  by_cases e:v=u
  · rw [if_pos e,hnd.mem_erase_iff,e]
  · rw [if_neg e]
    exact ⟨fun hm=>⟨fun e2=>e (a6 v hv (e2 ▸ hm)),hm⟩,fun hm=>hm.2⟩
 refine ⟨ns1,first1,_,?_,⟨g2,b2,⟨fun v hv=>b3.ch v ((pH hx v).1 hv).1,fun v hv=>b3.nd v ((pH hx v).1 hv).1,fun v w p hv hw=>b3.dj v w p ((pH hx v).1 hv).1 ((pH hx w).1 hw).1,fun p hp=>b3.at' p ((pH hx (some p)).1 hp).1⟩,fun p hp=>?_,fun v p hv hm=>?_,fun m hm=>?_,fun p q hp hq e=>h.inj p q ((lH hx p).1 hp).1 ((lH hx q).1 hq).1 (by rw [← hid p,← hid q]; exact e),?_⟩,fun v hv=>?_,hid⟩
 · rw [dB,bndD,show (toI ks).length=ks.length by unfold toI; simp,decide_eq_false (by omega),bG,b1,bnoS]
   show (bno (mP A (x:Int)) _)=_
   rw [g1,bnoS]
   show (chk (ns1.length=64) <| bno (dH cl (x:Int)) _)=_
   rw [chk,if_pos b2,del19 hcl,bnoS]
 · obtain ⟨hpa,hpx⟩:=(lH hx p).1 hp
   obtain ⟨v,n,k1,k2,k3,k4,k5⟩:=h.up p hpa
   have hvx:v ≠ some x:=fun e=>by rw [e,hk] at k4; cases k4
   obtain ⟨n',q1,q2⟩:=mR (b4 p) k2
   obtain ⟨q3,q4,q5,q6⟩:=pC q2
   refine ⟨v,n',(pH hx v).2 ⟨k1,hvx⟩,q1,q4.trans k3,(hdr v p k1).2 ⟨hpx,k4⟩,?_⟩
   have e:asN ns1 n' v=asN ns n v:=by unfold asN; rw [q3,q5,q6,hidU]
   rw [e]
   refine List.mem_filter.2 ⟨k5,?_⟩
   have hne:(asN ns n v).ID ≠ idP ns x:=fun e=>hpx (h.inj p x hpa hx (by rw [cR k2]; exact e))
   rw [decide_eq_false hne]; rfl
 · obtain ⟨hv1,hv2⟩:=(pH hx v).1 hv
   obtain ⟨e1,e2⟩:=(hdr v p hv1).1 hm
   exact (lH hx p).2 ⟨h.kid v p hv1 e2,e1⟩
 · obtain ⟨hm1,hm2⟩:=List.mem_filter.1 hm
   obtain ⟨p,n,v,k1,k2,k3,k4,rfl⟩:=h.bw m hm1
   have hpx:p ≠ x:=fun e=>by
    subst e
    have:(asN ns n v).ID=idP ns p:=(cR k3).symm
    rw [decide_eq_true this] at hm2
    cases hm2
   have hvx:v ≠ some x:=fun e=>by
    obtain ⟨v',n',q1,q2,q3,q4,q5⟩:=h.up p k1
    rw [k3] at q2
    injection q2 with q2
    subst q2
    have:v=v':=yA (k4.symm.trans q3)
    rw [← this,e,hk] at q4; cases q4
   obtain ⟨n',q1,q2⟩:=mR (b4 p) k3
   obtain ⟨q3,q4,q5,q6⟩:=pC q2
   refine ⟨p,n',v,(lH hx p).2 ⟨k1,hpx⟩,(pH hx v).2 ⟨k2,hvx⟩,q1,q4.trans k4,?_⟩
   unfold asN
   rw [q3,q5,q6,hidU]
 · exact List.Pairwise.filter _ h.so
 · by_cases hv2:hdK A v
   · have hvx:v=some x:=by
      refine Classical.byContradiction fun e=>hv ((pH hx v).2 ⟨hv2,e⟩)
     refine List.eq_nil_iff_forall_not_mem.2 fun q hm=>?_
     have:=((hdr v q hv2).1 hm).2
     rw [hvx,hk] at this; cases this
   · refine List.eq_nil_iff_forall_not_mem.2 fun q hm=>?_
     unfold nM at hm
     split at hm
     · rename_i e; exact hv2 (e ▸ a1)
     · rw [h0 v hv2] at hm; cases hm
end Go.Fn
open Go Go.IL
namespace Go.Fn
theorem off_ok {A:AS} {sp:List Nat} {ns:List Nk} {first:Int} {kids:Option Nat → List Nat} {N:List Nd} (h:RL A sp ns first kids N) (h0:∀ u,¬ hdK A u → kids u=[]) (hpos:∀ m ∈ N,1 ≤ m.ID) (hw:∀ m ∈ N,1 ≤ m.Weight ∧ m.Weight ≤ 256) {r:Int → Nat} (hr:∀ m ∈ N,m.Parent ≠ 0 → r m.Parent < r m.ID) {x:Nat} (hx:fH A x) (room keep:Int) {cl:List Int} (hcl:cl.length ≤ 100000) :
 ∃ L y R ns' first' kids',N=L ++ y :: R ∧ y.ID=idP ns x ∧ fI (x:Int) room keep A.Cells A.Free A.Used ns first cl=some (room,keep,(oQ A x).Cells,(oQ A x).Free,(oQ A x).Used,ns',first',cl.filter fun y=>!decide (y=(x:Int))) ∧ RL (oQ A x) (x :: sp) ns' first' kids' (offS L y R) ∧ (∀ u,¬ hdK (oQ A x) u → kids' u=[]) ∧ (∀ q,idP ns' q=idP ns q):=by
 obtain ⟨v,nx,hv,hxn,hup,hxk,hxN⟩:=h.up x hx
 have hyid:(asN ns nx v).ID=idP ns x:=(cR hxn).symm
 obtain ⟨L,R,hN⟩:=List.append_of_mem hxN
 have hsize:=h.lk.size h.len (u:=some x) hx
 have hal:∀ p ∈ kids (some x),fH A p:=fun p hp=>h.kid (some x) p hx hp
 have hposx:1 ≤ idP ns x:=hyid ▸ hpos _ hxN
 have hkid:∀ m ∈ N,(m.ID ∈ (kids (some x)).map (idP ns) ↔ m.Parent=idP ns x):=fun m hm=>rX h hpos (u:=some x) hx hm
 have hnode:∀ p ∈ kids (some x),∃ n,ns[p]? = some n ∧ n.up=upI (some x) ∧ asN ns n (some x) ∈ N:=fun p hp=>by
  obtain ⟨u,n,g1,g2,g3,g4,g5⟩:=h.up p (hal p hp)
  have hu:u=some x:=h.lk.dj u (some x) p g1 hx g4 hp
  subst hu
  exact ⟨n,g2,g3,g5⟩
 have hrk:∀ p ∈ kids (some x),r (idP ns x) < r (idP ns p):=fun p hp=>by
  obtain ⟨n,g1,g2,g3⟩:=hnode p hp
  have:=hr _ g3 (show idP ns x ≠ 0 by omega)
  rw [cR g1]; exact this
 have hvx:v ≠ some x:=fun e=>by
  subst e
  have:=hr _ hxN (show idP ns x ≠ 0 by omega)
  rw [hyid] at this
  exact Nat.lt_irrefl _ this
 have hkx:∀ p ∈ kids (some x),p ≠ x:=fun p hp e=>by
  have:=hrk p hp
  rw [e] at this; omega
 have hkv:∀ p ∈ kids (some x),v ≠ some p:=fun p hp e=>by
  subst e
  obtain ⟨n,g1,g2,g3⟩:=hnode p hp
  have h1:=hrk p hp
  have h2:=hr _ hxN (show idP ns p ≠ 0 by
   have:=hpos _ g3
   rw [cR g1]
   have:1 ≤ n.id:=this
   omega)
  rw [hyid] at h2
  have h2:r (idP ns p) < r (idP ns x):=h2
  omega
 have hW:=hw _ hxN
 have hW:1 ≤ nx.weight ∧ nx.weight ≤ 256:=hW
 have hsum:wsum ns (kids (some x))=sumS N (idP ns x):=ws_sum h hpos hx
 have hS2:sumS N (idP ns x)=sumS (L ++ R) (asN ns nx v).ID:=by
  rw [hyid]
  have hne:(asN ns nx v).Parent ≠ idP ns x:=fun e=>hvx (wF h hpos hv (v:=some x) hx e)
  rw [hN,tE,tE]
  show _ + ((if (asN ns nx v).Parent=idP ns x then _ else 0) + _)=_
  rw [if_neg hne]; omega
 have hch:iQ ns nx.first (kids (some x)):=by
  have:=h.lk.ch (some x) hx
  rw [kY hxn] at this; exact this
 have hwk:∀ p ∈ kids (some x),0 ≤ (ns.getD p default).weight ∧ (ns.getD p default).weight ≤ 256:=fun p hp=>by
  obtain ⟨n,g1,g2,g3⟩:=hnode p hp
  have:=hw _ g3
  have:1 ≤ n.weight ∧ n.weight ≤ 256:=this
  rw [List.getD_eq_getElem?_getD,g1]
  exact ⟨by show 0 ≤ n.weight; omega,this.2⟩
 obtain ⟨f0,hf0⟩:∃ f,fuel=f + 1:=⟨fuel - 1,by decide⟩
 have hstep:fI (x:Int) room keep A.Cells A.Free A.Used ns first cl=dB (x:Int) (sumS N (idP ns x)) (toI (kids (some x))) fuel 0 room keep A.Cells A.Free A.Used ns first cl:=by
  unfold fI
  rw [bndD,decide_eq_false (by omega),bG,dS,hxn,bnoS,chk,if_pos h.len,Int.toNat_natCast,hxn,bnoS]
  rw [off8 (kids (some x)) nx.first 0 fuel hch hwk (by omega) (by omega) (by unfold fuel; omega)]
  unfold iC
  rw [bndD,decide_eq_false (by omega),bG,dS,hxn,bnoS,chk,if_pos h.len,Int.toNat_natCast,hxn,bnoS]
  have:=coll5 (x:=x) (room:=room) (keep:=keep) (S:=0 + wsum ns (kids (some x))) (C:=A.Cells) (F:=A.Free) (U:=A.Used) (first:=first) (cl:=cl) (kids (some x)) [] nx.first fuel hch (by simp; omega) (by unfold fuel; omega)
  rw [show toI []=([]:List Int) from rfl,List.nil_append] at this
  rw [this,Int.zero_add,hsum]
 have hall:∃ ns1 first1 kids1 f1,dB (x:Int) (sumS N (idP ns x)) (toI (kids (some x))) fuel 0 room keep A.Cells A.Free A.Used ns first cl=dB (x:Int) (sumS N (idP ns x)) (toI (kids (some x))) (f1 + 1) ((kids (some x)).length:Int) room keep A.Cells A.Free A.Used ns1 first1 cl ∧ RL A sp ns1 first1 kids1 (N.map (upsN ((kids (some x)).map (idP ns)) (idU ns v) nx.weight (sumS N (idP ns x)))) ∧ (∀ u,¬ hdK A u → kids1 u=[]) ∧ (∀ p,idP ns1 p=idP ns p):=by
  by_cases hk:kids (some x)=[]
  · rw [hk]
    exact ⟨ns,first,kids,f0,by rw [hf0]; rfl,by rw [List.map_nil,aAj]; exact h,h0,fun _=>rfl⟩
  · obtain ⟨p,hp⟩:=List.exists_mem_of_ne_nil _ hk
    obtain ⟨n,g1,g2,g3⟩:=hnode p hp
    have hge:=wR hw g3
    have hge:n.weight ≤ sumS N (idP ns x):=hge
    have h1:=(hw _ g3).1
    have h1:1 ≤ n.weight:=h1
    obtain ⟨ns1,first1,kids1,f1,c1,c2,c3,c4,c5⟩:=off6 hx room keep cl (S:=sumS N (idP ns x)) (by omega) hv hW (cx:=nx.closed) hsize hal hkx hkv (h.lk.nd (some x) hx) (kids (some x)) [] fuel ns first kids N rfl (by unfold fuel; omega) h h0 hpos hw (fun m hm hmi=>by
     have hp:=(hkid m hm).1 hmi
     have:=wR hw hm
     rw [hp] at this; exact this) (by rw [cR hxn]; exact hxN)
    exact ⟨ns1,first1,kids1,f1,c1,c2,c3,c4⟩
 obtain ⟨ns1,first1,kids1,f1,c1,c2,c3,c4⟩:=hall
 have hidU:∀ u,idU ns1 u=idU ns u:=fun u=>by cases u with
  | none=>rfl
  | some y=>exact c4 y
 have hpos1:∀ m ∈ N.map (upsN ((kids (some x)).map (idP ns)) (idU ns v) nx.weight (sumS N (idP ns x))),1 ≤ m.ID:=fun m hm=>by
  obtain ⟨m0,hm0,rfl⟩:=List.mem_map.1 hm
  rw [vH]; exact hpos m0 hm0
 have hk1:kids1 (some x)=[]:=by
  refine List.eq_nil_iff_forall_not_mem.2 fun p hp=>?_
  obtain ⟨u,n,g1,g2,g3,g4,g5⟩:=c2.up p (c2.kid (some x) p hx hp)
  have hpar:=(rX c2 hpos1 (u:=some x) hx g5).1 (List.mem_map.2 ⟨p,hp,cR g2⟩)
  rw [hidU] at hpar
  obtain ⟨m0,hm0,e⟩:=List.mem_map.1 g5
  rw [← e] at hpar
  unfold upsN at hpar
  split at hpar
  · exact hvx (wF h hpos hv (v:=some x) hx hpar)
  · rename_i hn
    exact hn ((hkid m0 hm0).2 hpar)
 obtain ⟨ns2,first2,kids2,d1,d2,d3,d4⟩:=gone_ok c2 c3 hx hk1 room keep hcl (S:=sumS N (idP ns x)) (ks:=kids (some x)) (by omega) f1
 refine ⟨L,asN ns nx v,R,ns2,first2,kids2,hN,hyid,?_,?_,d3,fun q=>(d4 q).trans (c4 q)⟩
 · rw [hstep,c1,d1]
 · have hL:(N.map (upsN ((kids (some x)).map (idP ns)) (idU ns v) nx.weight (sumS N (idP ns x)))).filter (fun n=>!decide (n.ID=idP ns1 x))=offS L (asN ns nx v) R:=by
    have hso:=h.so
    rw [hN] at hso
    have hdis:∀ m ∈ L ++ R,m.ID ≠ idP ns x:=fun m hm e=>by
     obtain ⟨s1,s2,s3⟩:=List.pairwise_append.1 hso
     rcases List.mem_append.1 hm with hm | hm
     · have:=s3 m hm _ (List.mem_cons_self ..)
       omega
     · have:=(List.pairwise_cons.1 s2).1 m hm
       omega
    have hmem:∀ m ∈ L ++ R,m ∈ N:=fun m hm=>by
     rw [hN]
     rcases List.mem_append.1 hm with hm | hm
     · exact List.mem_append.2 (.inl hm)
     · exact List.mem_append.2 (.inr (List.mem_cons_of_mem _ hm))
    have hmapN:∀ m ∈ L ++ R,upsN ((kids (some x)).map (idP ns)) (idU ns v) nx.weight (sumS N (idP ns x)) m=offN (asN ns nx v) (sumS (L ++ R) (asN ns nx v).ID) m:=fun m hm=>by
     unfold upsN offN
     rw [hS2]
     by_cases e:m.Parent=idP ns x
     · rw [if_pos ((hkid m (hmem m hm)).2 e),if_pos (e.trans hyid.symm)]; rfl
     · rw [if_neg (fun hc=>e ((hkid m (hmem m hm)).1 hc)),if_neg (fun hc=>e (hc.trans hyid))]
    unfold offS
    rw [c4 x]
    conv=>lhs; rw [hN]
    rw [List.map_append,List.map_cons,List.filter_append,List.filter_cons_of_neg (by rw [vH,hyid]; simp),List.map_append]
    congr 1
    · rw [List.filter_eq_self.2]
      · exact List.map_congr_left fun m hm=>by rw [← hN]; exact hmapN m (List.mem_append.2 (.inl hm))
      · intro a ha
        obtain ⟨m,hm,rfl⟩:=List.mem_map.1 ha
        rw [vH,decide_eq_false (hdis m (List.mem_append.2 (.inl hm)))]; rfl
    · rw [List.filter_eq_self.2]
      · exact List.map_congr_left fun m hm=>by rw [← hN]; exact hmapN m (List.mem_append.2 (.inr hm))
      · intro a ha
        obtain ⟨m,hm,rfl⟩:=List.mem_map.1 ha
        rw [vH,decide_eq_false (hdis m (List.mem_append.2 (.inr hm)))]; rfl
   rw [← hL]; exact d2
end Go.Fn
open Go Go.IL
namespace Go.Fn
theorem new_ok {A:AS} {sp:List Nat} {ns:List Nk} {first:Int} {kids:Option Nat → List Nat} {N:List Nd} (h:RL A sp ns first kids N) (h0:∀ u,¬ hdK A u → kids u=[]) (hu:A.Used < 64) {id:Int} {L R:List Nd} (hN:N=L ++ R) (hso:(L ++ (⟨id,0,16,false⟩:Nd) :: R).Pairwise (fun a b=>a.ID < b.ID)) (room keep:Int) (cl:List Int) :
 ∃ ns' first' kids',gC (takeP A sp:Int) (-1) room keep (takeS A id sp).Cells (takeS A id sp).Free (takeS A id sp).Used (ns.set (takeP A sp) (⟨id,0,-1,-1,16,false⟩:Nk)) first cl=some (room,keep,(takeS A id sp).Cells,(takeS A id sp).Free,(takeS A id sp).Used,ns',first',cl) ∧ RL (takeS A id sp) sp.tail ns' first' kids' (L ++ (⟨id,0,16,false⟩:Nd) :: R) ∧ (∀ u,¬ hdK (takeS A id sp) u → kids' u=[]) ∧ idP ns' (takeP A sp)=id ∧ (∀ p,p ≠ takeP A sp → idP ns' p=idP ns p) ∧ ¬ fH A (takeP A sp) ∧ ∀ p,fH (takeS A id sp) p ↔ fH A p ∨ p=takeP A sp:=by
 obtain ⟨t1,t2,t3,t4,t5,t6⟩:=aAm h.ga id hu
 generalize takeP A sp=q at *
 generalize takeS A id sp=A' at *
 have hal:∀ p,fH A' p ↔ fH A p ∨ p=q:=fun p=>by
  by_cases e:p=q
  · subst e
    exact ⟨fun _=>.inr rfl,fun _=>⟨_,t3,rfl⟩⟩
  · unfold fH
    rw [t4 p e]
    exact ⟨fun h=>.inl h,fun h=>h.elim (fun h=>h) (fun h=>absurd h e)⟩
 have hqn:¬ fH A q:=fun ⟨c,hc,hl⟩=>by rw [t5 c hc] at hl; cases hl
 have hqk:∀ v,q ∉ kids v:=fun v hm=>by
  by_cases hv:hdK A v
  · exact hqn (h.kid v q hv hm)
  · rw [h0 v hv] at hm; cases hm
 have hkq:kids (some q)=[]:=h0 _ hqn
 have hhd:∀ u,hdK A' u ↔ hdK A u ∨ u=some q:=fun u=>by
  cases u with
  | none=>exact ⟨fun h=>.inl h,fun _=>trivial⟩
  | some p =>
    rw [show hdK A' (some p) ↔ _ from hal p]
    exact ⟨fun h=>h.elim .inl (fun e=>.inr (e ▸ rfl)),fun h=>h.elim .inl (fun e=>.inr (Option.some.inj e))⟩
 have hvq:∀ v,hdK A v → v ≠ some q:=fun v hv e=>by subst e; exact hqn hv
 have hq:(ns.set q (⟨id,0,-1,-1,16,false⟩:Nk))[q]? = some (⟨id,0,-1,-1,16,false⟩:Nk):=List.getElem?_set_self (by rw [h.len]; exact t6)
 have hoth:∀ p,p ≠ q → (ns.set q (⟨id,0,-1,-1,16,false⟩:Nk))[p]? = ns[p]?:=fun p e=>List.getElem?_set_ne (Ne.symm e)
 have hlk:Lk (ns.set q (⟨id,0,-1,-1,16,false⟩:Nk)) first (hdK A') kids:=by
  refine ⟨fun u hu=>?_,fun u hu=>?_,fun u v p hu hv hpu hpv=>?_,fun p hp=>?_⟩
  · rcases (hhd u).1 hu with hu | rfl
    · have hc:=(h.lk.ch u hu).other (hqk u) (⟨id,0,-1,-1,16,false⟩:Nk)
      have hf:mH (ns.set q (⟨id,0,-1,-1,16,false⟩:Nk)) first u=mH ns first u:=by
       cases u with
       | none=>rfl
       | some p =>
         have hpq:p ≠ q:=fun e=>hvq _ hu (e ▸ rfl)
         show ((ns.set q _).getD p default).first=(ns.getD p default).first
         rw [List.getD_eq_getElem?_getD,hoth p hpq,← List.getD_eq_getElem?_getD]
      rw [hf]; exact hc
    · rw [hkq,kY hq]; rfl
  · rcases (hhd u).1 hu with hu | rfl
    · exact h.lk.nd u hu
    · rw [hkq]; exact List.nodup_nil
  · rcases (hhd u).1 hu with hu | rfl
    · rcases (hhd v).1 hv with hv | rfl
      · exact h.lk.dj u v p hu hv hpu hpv
      · rw [hkq] at hpv; cases hpv
    · rw [hkq] at hpu; cases hpu
  · rcases (hal p).1 hp with hp | rfl
    · obtain ⟨n,hn⟩:=h.lk.at' p hp
      exact ⟨n,by rw [hoth p (fun e=>hqn (e ▸ hp))]; exact hn⟩
    · exact ⟨_,hq⟩
 obtain ⟨ns',first',e1,e2,e3,e4,e5⟩:=aBb (by rw [List.length_set]; exact h.len) hlk (u:=none) trivial hq (fun v _=>hqk v) nofun room keep A'.Cells A'.Free A'.Used cl
 have hv1:∀ p,p ≠ q → mI ns' p=mI ns p:=fun p e=>by
  rw [e4 p e]
  unfold mI
  rw [hoth p e]
 have hn2:∃ n2,ns'[q]? = some n2 ∧ n2.id=id ∧ n2.up = -1 ∧ n2.weight=16 ∧ n2.closed=false:=by
  have:=e5 _ hq
  unfold mI at this
  cases h2:ns'[q]? with
  | none=>rw [h2] at this; cases this
  | some n2 =>
    rw [h2] at this
    injection this with this
    exact ⟨n2,rfl,congrArg (·.1) this,congrArg (·.2.1) this,congrArg (·.2.2.1) this,congrArg (·.2.2.2) this⟩
 obtain ⟨n2,f1,f2,f3,f4,f5⟩:=hn2
 have hidq:idP ns' q=id:=by rw [cR f1,f2]
 have hid:∀ p,p ≠ q → idP ns' p=idP ns p:=fun p e=>vF (hv1 p e)
 have hidU:∀ v,hdK A v → idU ns' v=idU ns v:=fun v hv=>by
  cases v with
  | none=>rfl
  | some p=>exact hid p (fun e=>hvq _ hv (e ▸ rfl))
 have has:asN ns' n2 none=(⟨id,0,16,false⟩:Nd):=by unfold asN; rw [f2,f4,f5]; rfl
 have hmem:∀ m,m ∈ L ++ (⟨id,0,16,false⟩:Nd) :: R ↔ m=⟨id,0,16,false⟩ ∨ m ∈ N:=fun m=>by
  rw [hN]; simp only [List.mem_append,List.mem_cons]
  constructor
  · rintro (a | a | a)
    · exact .inr (.inl a)
    · exact .inl a
    · exact .inr (.inr a)
  · rintro (a | a | a)
    · exact .inr (.inl a)
    · exact .inl a
    · exact .inr (.inr a)
 have hne:∀ m ∈ N,m.ID ≠ id:=fun m hm e=>by
  obtain ⟨s1,s2,s3⟩:=List.pairwise_append.1 hso
  rw [hN] at hm
  rcases List.mem_append.1 hm with hm | hm
  · have:=s3 m hm _ (List.mem_cons_self ..)
    have:m.ID < id:=this
    omega
  · have:=(List.pairwise_cons.1 s2).1 m hm
    have:id < m.ID:=this
    omega
 have hida:∀ p,fH A p → idP ns' p=idP ns p ∧ idP ns p ≠ id:=fun p hp=>by
  refine ⟨hid p (fun e=>hqn (e ▸ hp)),fun e=>?_⟩
  obtain ⟨v,n,k1,k2,k3,k4,k5⟩:=h.up p hp
  exact hne _ k5 (by rw [cR k2] at e; exact e)
 refine ⟨ns',first',_,e1,⟨t2,e2,e3,fun p hp=>?_,fun u p hu hm=>?_,fun m hm=>?_,fun p r hp hr e=>?_,hso⟩,fun v hv=>?_,hidq,hid,hqn,hal⟩
 · by_cases e:p=q
   · subst e
     refine ⟨none,n2,trivial,f1,f3,?_,(hmem _).2 (.inl has)⟩
     unfold qF; rw [if_pos rfl]; exact List.mem_cons_self ..
   · have hp:fH A p:=((hal p).1 hp).elim (fun h=>h) (fun h=>absurd h e)
     obtain ⟨v,n,k1,k2,k3,k4,k5⟩:=h.up p hp
     obtain ⟨n',q1,q2⟩:=mR (hv1 p e) k2
     obtain ⟨q3,q4,q5,q6⟩:=pC q2
     refine ⟨v,n',(hhd v).2 (.inl k1),q1,q4.trans k3,?_,(hmem _).2 (.inr ?_)⟩
     · unfold qF
       split
       · rename_i e; subst e; exact List.mem_cons_of_mem _ k4
       · exact k4
     · have e:asN ns' n' v=asN ns n v:=by unfold asN; rw [q3,q5,q6,hidU v k1]
       rw [e]; exact k5
 · unfold qF at hm
   split at hm
   · rcases List.mem_cons.1 hm with e | hm
     · exact (hal p).2 (.inr e)
     · exact (hal p).2 (.inl (h.kid none p trivial hm))
   · rcases (hhd u).1 hu with hu | rfl
     · exact (hal p).2 (.inl (h.kid u p hu hm))
     · rw [hkq] at hm; cases hm
 · rcases (hmem m).1 hm with rfl | hm
   · exact ⟨q,n2,none,(hal q).2 (.inr rfl),trivial,f1,f3,has.symm⟩
   · obtain ⟨p,n,v,k1,k2,k3,k4,rfl⟩:=h.bw m hm
     obtain ⟨n',q1,q2⟩:=mR (hv1 p (fun e=>hqn (e ▸ k1))) k3
     obtain ⟨q3,q4,q5,q6⟩:=pC q2
     refine ⟨p,n',v,(hal p).2 (.inl k1),(hhd v).2 (.inl k2),q1,q4.trans k4,?_⟩
     unfold asN; rw [q3,q5,q6,hidU v k2]
 · rcases (hal p).1 hp with hp | rfl
   · rcases (hal r).1 hr with hr | rfl
     · exact h.inj p r hp hr (by rw [← (hida p hp).1,← (hida r hr).1]; exact e)
     · exact absurd (((hida p hp).1.symm.trans e).trans hidq) (hida p hp).2
   · rcases (hal r).1 hr with hr | rfl
     · exact absurd (((hida r hr).1.symm.trans e.symm).trans hidq) (hida r hr).2
     · rfl
 · have hv2:¬ hdK A v:=fun hh=>hv ((hhd v).2 (.inl hh))
   unfold qF
   split
   · rename_i e; subst e; exact absurd trivial hv
   · exact h0 v hv2
end Go.Fn
open Go Go.IL
namespace Go.Fn
def lowN (N:List Nd) (id:Int):List Nd:=N.filter fun n=>decide (n.ID < id)
def xQ (N:List Nd) (id:Int):List Nd:=N.filter fun n=>decide (id < n.ID)
def newS (N:List Nd) (id:Int):List Nd:=lowN N id ++ (⟨id,0,16,false⟩:Nd) :: xQ N id
theorem rG {id:Int}:∀ {N:List Nd},N.Pairwise (fun a b=>a.ID < b.ID) → (∀ m ∈ N,m.ID ≠ id) → N=lowN N id ++ xQ N id
 | [],_,_=>rfl
 | n :: N,hs,hn=>by
   obtain ⟨s1,s2⟩:=List.pairwise_cons.1 hs
   have ih:=rG s2 fun m hm=>hn m (List.mem_cons_of_mem _ hm)
   have hne:=hn n (List.mem_cons_self ..)
   unfold lowN xQ at *
   by_cases h:n.ID < id
   · rw [List.filter_cons_of_pos (by simp [h]),List.filter_cons_of_neg (by simp; omega),List.cons_append,← ih]
   · have hl:N.filter (fun n=>decide (n.ID < id))=[]:=List.filter_eq_nil_iff.2 fun m hm=>by have:=s1 m hm; simp; omega
     rw [hl,List.nil_append] at ih
     rw [List.filter_cons_of_neg (by simp [h]),List.filter_cons_of_pos (by simp; omega),hl,List.nil_append,← ih]
theorem uY {id:Int} {N:List Nd} (hs:N.Pairwise (fun a b=>a.ID < b.ID)):(newS N id).Pairwise (fun a b=>a.ID < b.ID):=by
 unfold newS lowN xQ
 refine List.pairwise_append.2 ⟨hs.filter _,List.pairwise_cons.2 ⟨fun m hm=>of_decide_eq_true (List.mem_filter.1 hm).2,hs.filter _⟩,fun a ha b hb=>?_⟩
 have h1:a.ID < id:=of_decide_eq_true (List.mem_filter.1 ha).2
 rcases List.mem_cons.1 hb with rfl | hb
 · exact h1
 · have h2:id < b.ID:=of_decide_eq_true (List.mem_filter.1 hb).2
   omega
theorem yO {id:Int} {N:List Nd} (hs:N.Pairwise (fun a b=>a.ID < b.ID)) (hn:∀ m ∈ N,m.ID ≠ id) (m:Nd):m ∈ newS N id ↔ m=⟨id,0,16,false⟩ ∨ m ∈ N:=by
 conv=>rhs; rw [rG hs hn]
 unfold newS
 simp only [List.mem_append,List.mem_cons]
 constructor
 · rintro (a | a | a)
   · exact .inr (.inl a)
   · exact .inl a
   · exact .inr (.inr a)
 · rintro (a | a | a)
   · exact .inr (.inl a)
   · exact .inl a
   · exact .inr (.inr a)
theorem yN {id:Int} {N:List Nd} (hs:N.Pairwise (fun a b=>a.ID < b.ID)) (hn:∀ m ∈ N,m.ID ≠ id):(newS N id).length=N.length + 1:=by
 conv=>rhs; rw [rG hs hn]
 unfold newS
 simp; omega
theorem aCG {A:AS} {sp:List Nat} {ns:List Nk} {first:Int} {kids:Option Nat → List Nat} {N:List Nd} (h:RL A sp ns first kids N) (h0:∀ u,¬ hdK A u → kids u=[]) (hpos:∀ m ∈ N,1 ≤ m.ID) (hu:A.Used < 64) (hN:N.length < 64) {r:Int → Nat} (hr:∀ m ∈ N,m.Parent ≠ 0 → r m.Parent < r m.ID) (hpa:∀ m ∈ N,m.Parent=0 ∨ ∃ x ∈ N,x.ID=m.Parent) {id:Int} (hid:1 ≤ id) (hno:∀ m ∈ N,m.ID ≠ id) (w:Ws) (hw:w.dep ≠ id) (hw0:0 ≤ w.dep) (room keep:Int) (cl:List Int) :
 ∃ A' sp' ns' first' kids',fQ id w room keep A.Cells A.Free A.Used ns first cl=some (0,room,keep,A'.Cells,A'.Free,A'.Used,ns',first',cl) ∧ RL A' sp' ns' first' kids' (lN (newS N id) id w) ∧ (∀ u,¬ hdK A' u → kids' u=[]) ∧ ∀ p,fH A p → fH A' p ∧ idP ns' p=idP ns p:=by
 obtain ⟨t1,_,_,_,_,t6⟩:=aAm h.ga id hu
 obtain ⟨ns1,first1,kids1,e1,e2,e3,e4,e5,e6,e7⟩:=new_ok h h0 hu (rG h.so hno) (uY h.so) room keep cl
 have e2:RL (takeS A id sp) sp.tail ns1 first1 kids1 (newS N id):=e2
 have hmem:=yO h.so hno
 obtain ⟨ns',first',kids',g1,g2,g3,g4⟩:=aAA e2 e3 (fun m hm=>by
  rcases (hmem m).1 hm with rfl | hm
  · exact hid
  · exact hpos m hm) (by rw [yN h.so hno]; omega) (r:=r) (fun m hm hp=>by
  rcases (hmem m).1 hm with rfl | hm
  · exact absurd rfl hp
  · exact hr m hm hp) (fun m hm=>by
  rcases (hmem m).1 hm with rfl | hm
  · exact .inl rfl
  · rcases hpa m hm with e | ⟨x,hx,e⟩
    · exact .inl e
    · exact .inr ⟨x,(hmem x).2 (.inr hx),e⟩) (x:=takeP A sp) ((e7 _).2 (.inr rfl)) w (by rw [e4]; exact hw) hw0 room keep cl
 rw [e4] at g2
 obtain ⟨n0,hn0⟩:∃ n,ns[takeP A sp]? = some n:=⟨_,List.getElem?_eq_getElem (by rw [h.len]; exact t6)⟩
 refine ⟨takeS A id sp,sp.tail,ns',first',kids',?_,g2,g3,fun p hp=>⟨(e7 p).2 (.inl hp),(g4 p).trans (e5 p fun e=>e6 (e ▸ hp))⟩⟩
 unfold fQ
 rw [show mO (⟨A.Cells,A.Free,A.Used⟩:AS) id=_ from t1,bnoS,bndD]
 show (bif (!decide ((0:Int)=0)) then _ else _)=_
 rw [decide_eq_true rfl,Bool.not_true,bG]
 show (bno (gix ns (takeP A sp:Int)) _)=_
 rw [dS,hn0,bnoS,chk,if_pos h.len]
 show (bno (ns[((takeP A sp:Nat):Int).toNat]?) _)=_
 rw [Int.toNat_natCast,hn0,bnoS,bndD]
 show (bno (gC (takeP A sp:Int) (-1) room keep (takeS A id sp).Cells (takeS A id sp).Free (takeS A id sp).Used (ns.set (((takeP A sp:Nat):Int).toNat) (⟨id,0,-1,-1,16,false⟩:Nk)) first cl) _)=_
 rw [Int.toNat_natCast,e1,bnoS]
 show (bno (gF (takeP A sp:Int) w room keep (takeS A id sp).Cells (takeS A id sp).Free (takeS A id sp).Used ns1 first1 cl) _)=_
 rw [g1,bnoS]
end Go.Fn
open Go Go.IL
namespace Go.Fn
theorem aAa {N:List Nd} {x:Int} {w:Ws} {r:Int → Nat} (h:HP N x r) (hf:(∀ n ∈ N,n.Parent ≠ 0 → r n.Parent < r n.ID) ∧ ∀ n ∈ N,n.Parent=0 ∨ ∃ m ∈ N,m.ID=n.Parent) (hne:w.dep ≠ x) (hw:1 ≤ w.weight ∧ w.weight ≤ 256):∃ g,lN N x w=N.map g ∧ Hung N g:=by
 unfold lN
 by_cases hc:w.dep ≠ 0 ∧ ∀ m ∈ N,m.ID ≠ w.dep
 · have hws:lI N w=⟨0,16,false⟩:=if_pos hc
   rw [hws]
   have:upN N x 0=N:=if_neg (fun hh=>hh.1 rfl)
   exact ⟨kU x 0 16 false,by show (upN N x 0).map _=_; rw [this],wG h (by decide) (fun hh=>absurd rfl hh)⟩
 · have hws:lI N w=w:=if_neg hc
   rw [hws]
   by_cases h0:w.dep=0
   · have:upN N x w.dep=N:=if_neg (fun hh=>hh.1 h0)
     exact ⟨kU x w.dep w.weight w.only,by rw [this],wG h hw (fun hh=>absurd h0 hh)⟩
   · have hex:∃ k ∈ N,k.ID=w.dep:=by
      refine Classical.byContradiction fun hn=>hc ⟨h0,fun m hm e=>hn ⟨m,hm,e⟩⟩
     obtain ⟨k,hkm,hk⟩:=hex
     obtain ⟨y,hy,hyx⟩:=h.xm
     have hkx:k.ID ≠ x:=by rw [hk]; exact hne
     by_cases hin:x ∈ fV N N.length w.dep
     · have hanc:Anc N x k.ID:=by rw [hk]; exact zM h.ok.so _ _ hne hin (by have:=h.ok.ra y hy; omega)
       obtain ⟨h1,h2⟩:=hp_move h hy hyx hkm hkx hanc hf
       have hu:=wG (d:=w.dep) (w:=w.weight) (o:=w.only) h1 hw (fun _=>⟨⟨_,List.mem_map.2 ⟨k,hkm,rfl⟩,(kD _ _ _).trans hk⟩,by rw [← hk]; exact h2⟩)
       have hpar:nI N x=some y.Parent:=by rw [← hyx]; exact tQ h.ok.so hy
       have hup:upN N x w.dep=N.map (mvN k.ID y.Parent):=by
        unfold upN
        rw [if_pos ⟨h0,hin⟩,hpar,hk]; rfl
       refine ⟨kU x w.dep w.weight w.only ∘ mvN k.ID y.Parent,by rw [hup,List.map_map],⟨fun n=>(hu.id _).trans (kD _ _ _),fun n=>(hu.cl _).trans ?_,fun n hn=>hu.ra _ (List.mem_map.2 ⟨n,hn,rfl⟩),fun n hn=>?_,?_⟩⟩
       · unfold mvN; split <;> rfl
       · rcases hu.pa _ (List.mem_map.2 ⟨n,hn,rfl⟩) with e | ⟨m,hm,e⟩
         · exact .inl e
         · obtain ⟨z,hz,ez⟩:=List.mem_map.1 hm
           have e2:z.ID=m.ID:=by rw [← ez,kD]
           exact .inr ⟨z,hz,e2.trans e⟩
       · obtain ⟨r',hr'⟩:=hu.rk
         rw [List.map_map] at hr'
         exact ⟨r',hr'⟩
     · have hna:¬ Anc N x w.dep:=not_anc h.ok.so hf.1 hf.2 ⟨k,hkm,hk⟩ hne hin
       have hup:upN N x w.dep=N:=if_neg (fun hh=>hin hh.2)
       exact ⟨kU x w.dep w.weight w.only,by rw [hup],wG h hw (fun _=>⟨⟨k,hkm,hk⟩,hna⟩)⟩
theorem aAB {K:Int} {N:List Nd} {E:List Int} (h:FV K ⟨24,K,N,E⟩) {x:Int} (hx:∃ n ∈ N,n.ID=x) {w:Ws} (hne:w.dep ≠ x) (hw:1 ≤ w.weight ∧ w.weight ≤ 256):FV K ⟨24,K,lN N x w,E⟩ ∧ (lN N x w).length=N.length:=by
 obtain ⟨r,hr⟩:=h.rk
 have hp:HP N x r:=⟨h.ok,hx,fun n hn=>(h.ra n hn).2,fun n hn _=>h.pa n hn,fun n hn _ hz=>hr n hn hz,.inl ⟨hr,h.pa⟩⟩
 obtain ⟨g,e,hg⟩:=aAa hp ⟨hr,h.pa⟩ hne hw
 rw [e]
 exact ⟨fv_hung h.bs hg,List.length_map ..⟩
theorem fv_new {K:Int} {N:List Nd} {E:List Int} (h:FV K ⟨24,K,N,E⟩) {id:Int} (hid:1 ≤ id ∧ id ≤ 1048576) (hno:∀ m ∈ N,m.ID ≠ id) (hlt:N.length < 24):FV K ⟨24,K,newS N id,E⟩:=by
 have hmem:=yO h.so hno
 obtain ⟨r,hr⟩:=h.rk
 refine ⟨rfl,h.kp,by show (newS N id).length ≤ 24; rw [yN (N:=N) h.so hno]; exact hlt,h.el,uY h.so,fun n hn=>?_,fun n hn=>?_,⟨r,fun n hn hp=>?_⟩,fun n hn=>?_,h.nd,fun e he=>?_⟩
 · rcases (hmem n).1 hn with rfl | hn
   · exact ⟨hid,by show (1:Int) ≤ 16; decide,by show (16:Int) ≤ 256; decide⟩
   · exact h.ra n hn
 · rcases (hmem n).1 hn with rfl | hn
   · exact .inl rfl
   · rcases h.pa n hn with e | ⟨m,hm,e⟩
     · exact .inl e
     · exact .inr ⟨m,(hmem m).2 (.inr hm),e⟩
 · rcases (hmem n).1 hn with rfl | hn
   · exact absurd rfl hp
   · exact hr n hn hp
 · rcases (hmem n).1 hn with rfl | hn
   · refine ⟨fun hc=>(by cases hc),fun hc=>?_⟩
     obtain ⟨m,hm,e2⟩:=h.es _ hc
     exact absurd e2 (hno m hm)
   · exact h.en n hn
 · obtain ⟨n,hn,e2⟩:=h.es e he
   exact ⟨n,(hmem n).2 (.inr hn),e2⟩
end Go.Fn
open Go Go.IL
namespace Go.Fn
structure TS (A:AS) (ns:List Nk) (first:Int) (cl:List Int) (R K:Int) (N:List Nd) (E:List Int):Prop where
 rl:∃ sp kids,RL A sp ns first kids N ∧ ∀ u,¬ hdK A u → kids u=[]
 cn:∃ cN:List Nat,cl=toI cN ∧ (∀ p ∈ cN,fH A p) ∧ E=cN.map (idP ns)
 fv:FV K ⟨24,K,N,E⟩
 ln:(N.length:Int) ≤ R
 rm:R ≤ 24
theorem sR {A:AS} {sp:List Nat} {ns:List Nk} {first:Int} {kids:Option Nat → List Nat} {N:List Nd} (h:RL A sp ns first kids N):A.Used=(N.length:Int):=by
 rw [h.ga.used]
 have hl:=rI A.Cells 0
 rw [← hl]
 have hp:((lR A.Cells 0).map (idP ns)).Perm (N.map (·.ID)):=by
  refine (List.perm_ext_iff_of_nodup ?_ (rK h.so)).2 fun i=>?_
  · refine List.pairwise_map.2 ((qN A.Cells 0).imp_of_mem fun {p q} hp hq hne e=>hne (h.inj p q (mE.2 hp) (mE.2 hq) e))
  · constructor
    · intro hi
      obtain ⟨p,hp,rfl⟩:=List.mem_map.1 hi
      obtain ⟨v,n,k1,k2,k3,k4,k5⟩:=h.up p (mE.2 hp)
      exact List.mem_map.2 ⟨_,k5,(cR k2).symm⟩
    · intro hi
      obtain ⟨m,hm,rfl⟩:=List.mem_map.1 hi
      obtain ⟨p,n,v,k1,k2,k3,k4,rfl⟩:=h.bw m hm
      exact List.mem_map.2 ⟨p,mE.1 k1,cR k3⟩
 have:=hp.length_eq
 rw [List.length_map,List.length_map] at this
 rw [this]
theorem uP (x:Nat):∀ (l:List Nat),(toI l).filter (fun y=>!decide (y=(x:Int)))=toI (l.filter fun p=>!decide (p=x))
 | []=>rfl
 | p :: l=>by
   have ih:=uP x l
   rw [show toI (p :: l)=(p:Int) :: toI l from rfl]
   by_cases e:p=x
   · rw [List.filter_cons_of_neg (by simp [e]),List.filter_cons_of_neg (by simp [e]),ih]
   · rw [List.filter_cons_of_pos (by simp; omega),List.filter_cons_of_pos (by simp [e]),ih]; rfl
theorem aBB {A:AS} {ns:List Nk} {first:Int} {cl:List Int} {R K:Int} {N:List Nd} {E:List Int} (h:TS A ns first cl R K N E) {x:Nat} (hx:fH A x) (room keep:Int) :
 ∃ L y Rr ns' first' cl',N=L ++ y :: Rr ∧ y.ID=idP ns x ∧ fI (x:Int) room keep A.Cells A.Free A.Used ns first cl=some (room,keep,(oQ A x).Cells,(oQ A x).Free,(oQ A x).Used,ns',first',cl') ∧ TS (oQ A x) ns' first' cl' R K (offS L y Rr) (E.filter fun e=>!decide (e=y.ID)) ∧ ∀ q,idP ns' q=idP ns q:=by
 obtain ⟨sp,kids,hR,h0⟩:=h.rl
 obtain ⟨cN,c1,c2,c3⟩:=h.cn
 obtain ⟨r,hr⟩:=h.fv.rk
 have hEl:(E.length:Int) ≤ K:=h.fv.el
 have hK:K ≤ 24:=h.fv.kp.2.2
 have hcl:cl.length ≤ 100000:=by
  rw [c1]
  rw [c3,List.length_map] at hEl
  unfold toI
  rw [List.length_map]; omega
 obtain ⟨L,y,Rr,ns',first',kids',g1,g2,g3,g4,g5,g6⟩:=off_ok hR h0 (fun m hm=>(h.fv.ra m hm).1.1) (fun m hm=>(h.fv.ra m hm).2) hr hx room keep hcl
 refine ⟨L,y,Rr,ns',first',_,g1,g2,g3,⟨⟨_,kids',g4,g5⟩,⟨cN.filter fun p=>!decide (p=x),by rw [c1,uP],fun p hp=>?_,?_⟩,aCk h.fv g1,?_,h.rm⟩,g6⟩
 · obtain ⟨h1,h2⟩:=List.mem_filter.1 hp
   exact (lH hx p).2 ⟨c2 p h1,fun e=>by rw [decide_eq_true e] at h2; cases h2⟩
 · rw [g2,c3,List.filter_map,List.map_congr_left (fun p _=>g6 p)]
   congr 1
   refine List.filter_congr fun p hp=>?_
   show (!decide (idP ns p=idP ns x)) = !decide (p=x)
   congr 1
   by_cases e:p=x
   · rw [decide_eq_true e,decide_eq_true (by rw [e])]
   · rw [decide_eq_false e,decide_eq_false (fun hh=>e (hR.inj p x (c2 p hp) hx hh))]
 · have:=h.ln
   rw [g1] at this
   unfold offS
   rw [List.length_map]
   simp at this ⊢
   omega
end Go.Fn
open Go Go.IL
namespace Go.Fn
def offT (N:List Nd) (e:Int):List Nd:=match N.find? (fun n=>decide (n.ID=e)) with
 | some y=>(N.filter fun n=>!decide (n.ID=e)).map (offN y (sumS (N.filter fun n=>!decide (n.ID=e)) y.ID))
 | none=>N
theorem aBC {N L Rr:List Nd} {y:Nd} {e:Int} (hs:N.Pairwise (fun a b=>a.ID < b.ID)) (hN:N=L ++ y :: Rr) (he:y.ID=e):offS L y Rr=offT N e:=by
 rw [hN] at hs
 obtain ⟨s1,s2,s3⟩:=List.pairwise_append.1 hs
 have hL:∀ m ∈ L,m.ID ≠ e:=fun m hm hh=>by
  have:=s3 m hm y (List.mem_cons_self ..)
  omega
 have hR:∀ m ∈ Rr,m.ID ≠ e:=fun m hm hh=>by
  have:=(List.pairwise_cons.1 s2).1 m hm
  omega
 have hf:N.find? (fun n=>decide (n.ID=e))=some y:=by
  rw [hN,List.find?_append,List.find?_eq_none.2 (fun m hm=>by simp [hL m hm]),Option.none_or,List.find?_cons_of_pos (by simp [he])]
 have hfl:N.filter (fun n=>!decide (n.ID=e))=L ++ Rr:=by
  rw [hN,List.filter_append,List.filter_cons_of_neg (by simp [he]),List.filter_eq_self.2 (fun m hm=>by simp [hL m hm]),List.filter_eq_self.2 (fun m hm=>by simp [hR m hm])]
 unfold offT offS
 rw [hf,hfl]
def aCK (id:Int) (w:Ws):Prop:=(1 ≤ id ∧ id ≤ 1048576) ∧ w.dep ≠ id ∧ 0 ≤ w.dep ∧ 1 ≤ w.weight ∧ w.weight ≤ 256
def fullS (N:List Nd) (id:Int) (w:Ws):List Int → Int × List Nd × List Int
 | []=>(7,N,[])
 | e :: E=>(0,lN (newS (offT N e) id) id w,(e :: E).filter fun z=>!decide (z=e))
def insS (R:Int) (N:List Nd) (E:List Int) (id:Int) (w:Ws):Int × List Nd × List Int :=
 if (N.length:Int) < R then (0,lN (newS N id) id w,E) else fullS N id w E
theorem zX {A:AS} {ns:List Nk} {first:Int} {cl:List Int} {R K:Int} {N:List Nd} {E:List Int} (h:TS A ns first cl R K N E) (hlt:(N.length:Int) < R) {id:Int} {w:Ws} (hw:aCK id w) (hno:∀ m ∈ N,m.ID ≠ id) (room keep:Int) :
 ∃ A' ns' first',fQ id w room keep A.Cells A.Free A.Used ns first cl=some (0,room,keep,A'.Cells,A'.Free,A'.Used,ns',first',cl) ∧ TS A' ns' first' cl R K (lN (newS N id) id w) E:=by
 obtain ⟨sp,kids,hR,h0⟩:=h.rl
 obtain ⟨cN,c1,c2,c3⟩:=h.cn
 obtain ⟨r,hr⟩:=h.fv.rk
 have hrm:=h.rm
 obtain ⟨w1,w2,w3,w4⟩:=hw
 have hul:=sR hR
 obtain ⟨A',sp',ns',first',kids',g1,g2,g3,g4⟩:=aCG hR h0 (fun m hm=>(h.fv.ra m hm).1.1) (by omega) (by omega) hr h.fv.pa w1.1 hno w w2 w3 room keep cl
 have hfn:=fv_new h.fv w1 hno (by omega)
 obtain ⟨f1,f2⟩:=aAB hfn (x:=id) ⟨_,(yO h.fv.so hno _).2 (.inl rfl),rfl⟩ w2 w4
 refine ⟨A',ns',first',g1,⟨⟨sp',kids',g2,g3⟩,⟨cN,c1,fun p hp=>(g4 p (c2 p hp)).1,?_⟩,f1,?_,hrm⟩⟩
 · rw [c3]
   exact List.map_congr_left fun p hp=>((g4 p (c2 p hp)).2).symm
 · rw [f2,yN (N:=N) h.fv.so hno]; omega
theorem xP {A:AS} {ns:List Nk} {first:Int} {cl:List Int} {R K:Int} {N:List Nd} {E:List Int} (h:TS A ns first cl R K N E) {id:Int} {w:Ws} (hw:aCK id w) (hno:∀ m ∈ N,m.ID ≠ id) :
 ∃ A' ns' first' cl',iD id w R K A.Cells A.Free A.Used ns first cl=some ((insS R N E id w).1,R,K,A'.Cells,A'.Free,A'.Used,ns',first',cl') ∧ TS A' ns' first' cl' R K (insS R N E id w).2.1 (insS R N E id w).2.2:=by
 obtain ⟨sp,kids,hR,h0⟩:=h.rl
 obtain ⟨cN,c1,c2,c3⟩:=h.cn
 have hul:=sR hR
 have hln:=h.ln
 unfold iD gK
 rw [bnoS,bndD,hul]
 by_cases hlt:(N.length:Int) < R
 · rw [decide_eq_false (by omega),bG]
   obtain ⟨A',ns',first',g1,g2⟩:=zX h hlt hw hno R K
   rw [hul] at g1
   have e:insS R N E id w=(0,lN (newS N id) id w,E):=if_pos hlt
   rw [e]
   exact ⟨A',ns',first',cl,g1,g2⟩
 · rw [decide_eq_true (by omega),bX,chk,if_pos hR.len,bndD]
   have e:insS R N E id w=fullS N id w E:=if_neg hlt
   rw [e]
   cases cN with
   | nil =>
     have hc:cl=[]:=c1
     have hE:E=[]:=c3
     subst hc
     subst hE
     refine ⟨A,ns,first,[],?_,h⟩
     rw [← hul]; rfl
   | cons p cN =>
     have hE:E=idP ns p :: cN.map (idP ns):=c3
     have hc:cl=(p:Int) :: toI cN:=c1
     obtain ⟨L,y,Rr,ns1,first1,cl1,g1,g2,g3,g4,g5⟩:=aBB h (c2 p (by simp)) R K
     rw [hul] at g3
     have hT:offS L y Rr=offT N (idP ns p):=aBC h.fv.so g1 g2
     rw [hT,g2] at g4
     have hno1:∀ m ∈ offT N (idP ns p),m.ID ≠ id:=fun m hm=>by
      rw [← hT] at hm
      unfold offS at hm
      obtain ⟨m0,hm0,rfl⟩:=List.mem_map.1 hm
      rw [pN]
      refine hno m0 ?_
      rw [g1]
      rcases List.mem_append.1 hm0 with hm | hm
      · exact List.mem_append.2 (.inl hm)
      · exact List.mem_append.2 (.inr (List.mem_cons_of_mem _ hm))
     have hl1:((offT N (idP ns p)).length:Int) < R:=by
      rw [← hT]
      rw [g1] at hln
      unfold offS
      rw [List.length_map]
      simp at hln ⊢
      omega
     obtain ⟨A',ns',first',k1,k2⟩:=zX g4 hl1 hw hno1 R K
     rw [hE] at k2 ⊢
     refine ⟨A',ns',first',cl1,?_,k2⟩
     rw [hc]
     rw [show decide ((((p:Int) :: toI cN).length:Int)=0)=false from decide_eq_false (by simp; omega),bG]
     show (bno (fI (p:Int) R K A.Cells A.Free (N.length:Int) ns first ((p:Int) :: toI cN)) _)=_
     rw [← hc,g3,bnoS]
     exact k1
end Go.Fn
open Go Go.IL
namespace Go.Fn
def fitW (id:Int) (w:Ws):Prop:=(1 ≤ id ∧ id ≤ 1048576) ∧ (0 ≤ w.dep ∧ w.dep ≤ 1048576) ∧ 1 ≤ w.weight ∧ w.weight ≤ 256
instance (id:Int) (w:Ws):Decidable (fitW id w):=inferInstanceAs (Decidable (_ ∧ _))
def qS (id:Int) (w:Ws):Int:=if fitW id w then (if id=w.dep then 4 else 0) else 8
theorem aBX (a b c:Int):lB a b c=some (decide (b ≤ a ∧ a ≤ c)):=by
 unfold lB
 rw [bndD,bndD,bndD,← Bool.decide_and]
theorem aAg (id:Int) (w:Ws):jP w id=some (qS id w):=by
 unfold jP iB qS
 rw [aBX,bnoS]
 by_cases h1:1 ≤ id ∧ id ≤ 1048576
 · rw [decide_eq_true h1,Bool.not_true,bG,aBX,bnoS]
   by_cases h2:0 ≤ w.dep ∧ w.dep ≤ 1048576
   · rw [decide_eq_true h2,Bool.not_true,bG,aBX,bnoS]
     by_cases h3:1 ≤ w.weight ∧ w.weight ≤ 256
     · rw [decide_eq_true h3,Bool.not_true,bG,bndD,if_pos (show fitW id w from ⟨h1,h2,h3⟩)]
       by_cases h4:id=w.dep
       · rw [decide_eq_true h4,bX,if_pos h4]
       · rw [decide_eq_false h4,bG,if_neg h4]
     · rw [decide_eq_false h3,Bool.not_false,bX,if_neg (fun hh:fitW id w=>h3 hh.2.2)]
   · rw [decide_eq_false h2,Bool.not_false,bX,bX,if_neg (fun hh:fitW id w=>h2 hh.2.1)]
 · rw [decide_eq_false h1,Bool.not_false,bX,bX,if_neg (fun hh:fitW id w=>h1 hh.1)]
theorem qR {id:Int} {w:Ws} (h:qS id w=0):aCK id w:=by
 unfold qS at h
 split at h
 · rename_i hf
   split at h
   · cases h
   · rename_i hn
     exact ⟨hf.1,fun e=>hn e.symm,hf.2.1.1,hf.2.2⟩
 · cases h
def hasN (N:List Nd) (id:Int):Prop:=∃ m ∈ N,m.ID=id
instance (N:List Nd) (id:Int):Decidable (hasN N id):=inferInstanceAs (Decidable (∃ m ∈ N,m.ID=id))
theorem qP {A:AS} {ns:List Nk} {first:Int} {cl:List Int} {R K:Int} {N:List Nd} {E:List Int} (h:TS A ns first cl R K N E) (id:Int) (room keep:Int) :
 (hasN N id ∧ ∃ p,fH A p ∧ idP ns p=id ∧ dD id room keep A.Cells A.Free A.Used ns first cl=some (p:Int)) ∨ (¬ hasN N id ∧ dD id room keep A.Cells A.Free A.Used ns first cl=some (-1)):=by
 obtain ⟨sp,kids,hR,h0⟩:=h.rl
 rcases aBk hR id room keep cl with ⟨p,p1,p2,p3⟩ | ⟨p1,p2⟩
 · obtain ⟨v,n,k1,k2,k3,k4,k5⟩:=hR.up p p1
   exact .inl ⟨⟨_,k5,(cR k2).symm.trans p2⟩,p,p1,p2,p3⟩
 · refine .inr ⟨fun ⟨m,hm,e⟩=>?_,p2⟩
   obtain ⟨p,n,v,k1,k2,k3,k4,rfl⟩:=hR.bw m hm
   exact p1 p k1 ((cR k3).trans e)
theorem aCJ {A:AS} {ns:List Nk} {first:Int} {cl:List Int} {R K:Int} {N:List Nd} {E:List Int} (h:TS A ns first cl R K N E) {x:Nat} (hx:fH A x) {w:Ws} (hw:aCK (idP ns x) w) (room keep:Int) :
 ∃ ns' first',gF (x:Int) w room keep A.Cells A.Free A.Used ns first cl=some (room,keep,A.Cells,A.Free,A.Used,ns',first',cl) ∧ TS A ns' first' cl R K (lN N (idP ns x) w) E:=by
 obtain ⟨sp,kids,hR,h0⟩:=h.rl
 obtain ⟨cN,c1,c2,c3⟩:=h.cn
 obtain ⟨r,hr⟩:=h.fv.rk
 have hln:N.length ≤ 24:=h.fv.ln
 obtain ⟨w1,w2,w3,w4⟩:=hw
 obtain ⟨ns',first',kids',g1,g2,g3,g4⟩:=aAA hR h0 (fun m hm=>(h.fv.ra m hm).1.1) (by omega) hr h.fv.pa hx w w2 w3 room keep cl
 obtain ⟨v,n,k1,k2,k3,k4,k5⟩:=hR.up x hx
 obtain ⟨f1,f2⟩:=aAB h.fv (x:=idP ns x) ⟨_,k5,(cR k2).symm⟩ w2 w4
 refine ⟨ns',first',g1,⟨sp,kids',g2,g3⟩,⟨cN,c1,c2,?_⟩,f1,by rw [f2]; exact h.ln,h.rm⟩
 rw [c3]
 exact List.map_congr_left fun p hp=>(g4 p).symm
def oS (R:Int) (N:List Nd) (E:List Int) (id:Int) (w:Ws):Int × List Nd × List Int :=
 if qS id w=0 then (if hasN N id then (13,N,E) else insS R N E id w) else (qS id w,N,E)
def wM (R:Int) (N:List Nd) (E:List Int) (id:Int) (w:Ws):Int × List Nd × List Int :=
 if qS id w=0 then (if hasN N id then (0,lN N id w,E) else insS R N E id w) else (qS id w,N,E)
def pI (N:List Nd) (E:List Int) (id:Int):Int × List Nd × List Int :=
 if hasN N id then (0,offT N id,E.filter fun e=>!decide (e=id)) else (6,N,E)
theorem aBs {A:AS} {ns:List Nk} {first:Int} {cl:List Int} {R K:Int} {N:List Nd} {E:List Int} (h:TS A ns first cl R K N E) (id dep weight:Int) (only:Bool) :
 ∃ A' ns' first' cl',fG id dep weight only R K A.Cells A.Free A.Used ns first cl=some ((oS R N E id ⟨dep,weight,only⟩).1,R,K,A'.Cells,A'.Free,A'.Used,ns',first',cl') ∧ TS A' ns' first' cl' R K (oS R N E id ⟨dep,weight,only⟩).2.1 (oS R N E id ⟨dep,weight,only⟩).2.2:=by
 unfold fG oS
 rw [aAg,bnoS,bndD]
 by_cases h1:qS id ⟨dep,weight,only⟩=0
 · rw [decide_eq_true h1,Bool.not_true,bG,if_pos h1]
   rcases qP h id R K with ⟨f1,p,f2,f3,f4⟩ | ⟨f1,f4⟩
   · rw [f4,bnoS,bndD,decide_eq_false (by omega),Bool.not_false,bX,if_pos f1]
     exact ⟨A,ns,first,cl,rfl,h⟩
   · rw [f4,bnoS,bndD,decide_eq_true rfl,Bool.not_true,bG,if_neg f1]
     obtain ⟨A',ns',first',cl',g1,g2⟩:=xP h (qR h1) fun m hm e=>f1 ⟨m,hm,e⟩
     rw [g1,bnoS]
     exact ⟨A',ns',first',cl',rfl,g2⟩
 · rw [decide_eq_false h1,Bool.not_false,bX,if_neg h1]
   exact ⟨A,ns,first,cl,rfl,h⟩
theorem Move_ts {A:AS} {ns:List Nk} {first:Int} {cl:List Int} {R K:Int} {N:List Nd} {E:List Int} (h:TS A ns first cl R K N E) (id dep weight:Int) (only:Bool) :
 ∃ A' ns' first' cl',jB id dep weight only R K A.Cells A.Free A.Used ns first cl=some ((wM R N E id ⟨dep,weight,only⟩).1,R,K,A'.Cells,A'.Free,A'.Used,ns',first',cl') ∧ TS A' ns' first' cl' R K (wM R N E id ⟨dep,weight,only⟩).2.1 (wM R N E id ⟨dep,weight,only⟩).2.2:=by
 unfold jB wM
 rw [aAg,bnoS,bndD]
 by_cases h1:qS id ⟨dep,weight,only⟩=0
 · rw [decide_eq_true h1,Bool.not_true,bG,if_pos h1]
   rcases qP h id R K with ⟨f1,p,f2,f3,f4⟩ | ⟨f1,f4⟩
   · rw [f4,bnoS,bndD,decide_eq_false (by omega),bG,if_pos f1]
     obtain ⟨ns',first',g1,g2⟩:=aCJ h f2 (by rw [f3]; exact qR h1) R K
     rw [g1,bnoS]
     rw [f3] at g2
     exact ⟨A,ns',first',cl,rfl,g2⟩
   · rw [f4,bnoS,bndD,decide_eq_true rfl,bX,if_neg f1]
     obtain ⟨A',ns',first',cl',g1,g2⟩:=xP h (qR h1) fun m hm e=>f1 ⟨m,hm,e⟩
     rw [g1,bnoS]
     exact ⟨A',ns',first',cl',rfl,g2⟩
 · rw [decide_eq_false h1,Bool.not_false,bX,if_neg h1]
   exact ⟨A,ns,first,cl,rfl,h⟩
theorem aBq {A:AS} {ns:List Nk} {first:Int} {cl:List Int} {R K:Int} {N:List Nd} {E:List Int} (h:TS A ns first cl R K N E) (id:Int) :
 ∃ A' ns' first' cl',iE id R K A.Cells A.Free A.Used ns first cl=some ((pI N E id).1,R,K,A'.Cells,A'.Free,A'.Used,ns',first',cl') ∧ TS A' ns' first' cl' R K (pI N E id).2.1 (pI N E id).2.2:=by
 unfold iE pI
 rcases qP h id R K with ⟨f1,p,f2,f3,f4⟩ | ⟨f1,f4⟩
 · rw [f4,bnoS,bndD,decide_eq_false (by omega),bG,if_pos f1]
   obtain ⟨L,y,Rr,ns',first',cl',g1,g2,g3,g4,g5⟩:=aBB h f2 R K
   rw [g3,bnoS]
   rw [aBC h.fv.so g1 (g2.trans f3),g2.trans f3] at g4
   exact ⟨oQ A p,ns',first',cl',rfl,g4⟩
 · rw [f4,bnoS,bndD,decide_eq_true rfl,bX,if_neg f1]
   exact ⟨A,ns,first,cl,rfl,h⟩
end Go.Fn
open Go Go.IL
namespace Go.Fn
def clN (id:Int) (n:Nd):Nd:=if n.ID=id then ⟨n.ID,n.Parent,n.Weight,true⟩ else n
theorem vD (id:Int) (n:Nd):(clN id n).ID=n.ID:=by unfold clN; split <;> rfl
theorem aBp (id:Int) (n:Nd):(clN id n).Parent=n.Parent:=by unfold clN; split <;> rfl
theorem clN_w (id:Int) (n:Nd):(clN id n).Weight=n.Weight:=by unfold clN; split <;> rfl
theorem map_cl {A C:List Nd} {y:Nd} (hs:(A ++ y :: C).Pairwise (fun a b=>a.ID < b.ID)):(A ++ y :: C).map (clN y.ID)=A ++ (⟨y.ID,y.Parent,y.Weight,true⟩:Nd) :: C:=by
 obtain ⟨hA,hC⟩:=uF hs
 rw [List.map_append,List.map_cons]
 have e1:A.map (clN y.ID)=A:=by
  conv=>rhs; rw [← List.map_id A]
  exact List.map_congr_left (fun a ha=>by unfold clN; rw [if_neg (hA a ha)]; rfl)
 have e2:C.map (clN y.ID)=C:=by
  conv=>rhs; rw [← List.map_id C]
  exact List.map_congr_left (fun a ha=>by unfold clN; rw [if_neg (hC a ha)]; rfl)
 rw [e1,e2]
 congr 2
 unfold clN; rw [if_pos rfl]
theorem aBg {st:Fs} (h:FV 24 st) {y:Nd} (hy:y ∈ st.Nodes) (hc:y.Closed=false):FV 24 ⟨st.Room,st.Keep,st.Nodes.map (clN y.ID),st.Ended ++ [y.ID]⟩ ∧ st.Ended.length + 1 ≤ 24:=by
 obtain ⟨r,hr⟩:=h.rk
 have hln:=h.ln
 have hlen:st.Ended.length + 1 ≤ 24:=by
  obtain ⟨A,C,hN⟩:=List.append_of_mem hy
  have h1:(A.filter (·.Closed)).length + (C.filter (·.Closed)).length=st.Ended.length:=by
   have:=aAd h
   rw [hN,List.filter_append,List.filter_cons_of_neg (by rw [hc]; simp),List.length_append] at this
   exact this
  rw [hN] at hln
  have h2:=List.length_filter_le (·.Closed) A
  have h3:=List.length_filter_le (·.Closed) C
  simp only [List.length_append,List.length_cons] at hln
  omega
 have hni:¬ y.ID ∈ st.Ended:=fun hm=>by have:=(h.en y hy).2 hm; rw [hc] at this; cases this
 have himg:∀ m ∈ st.Nodes.map (clN y.ID),∃ n ∈ st.Nodes,m=clN y.ID n:=fun m hm=>by
  obtain ⟨n,hn,e⟩:=List.mem_map.1 hm
  exact ⟨n,hn,e.symm⟩
 have hin:∀ p:Int,(∃ m ∈ st.Nodes,m.ID=p) → ∃ m ∈ st.Nodes.map (clN y.ID),m.ID=p:=fun p ⟨m,hm,e⟩=>⟨_,List.mem_map.2 ⟨m,hm,rfl⟩,(vD _ _).trans e⟩
 refine ⟨⟨h.rm,h.kp,by show (st.Nodes.map _).length ≤ 24; rw [List.length_map]; exact hln,by show ((st.Ended ++ [y.ID]).length:Int) ≤ 24; rw [List.length_append,List.length_singleton]; omega,?_,fun m hm=>?_,fun m hm=>?_,⟨r,fun m hm hz=>?_⟩,fun m hm=>?_,?_,fun e he=>?_⟩,hlen⟩
 · show (st.Nodes.map _).Pairwise _
   rw [List.pairwise_map]
   exact h.so.imp (fun hab=>by rw [vD,vD]; exact hab)
 · obtain ⟨n,hn,rfl⟩:=himg m hm
   rw [vD,clN_w]; exact h.ra n hn
 · obtain ⟨n,hn,rfl⟩:=himg m hm
   rw [aBp]; exact (h.pa n hn).imp id (hin _)
 · obtain ⟨n,hn,rfl⟩:=himg m hm
   rw [aBp] at hz ⊢
   rw [vD]
   exact hr n hn hz
 · obtain ⟨n,hn,rfl⟩:=himg m hm
   have hen:=h.en n hn
   rw [vD]
   show _ ↔ n.ID ∈ st.Ended ++ [y.ID]
   rw [List.mem_append,List.mem_singleton]
   unfold clN
   split
   · rename_i e
     exact ⟨fun _=>.inr e,fun _=>rfl⟩
   · rename_i e
     rw [hen]
     exact ⟨.inl,fun hh=>hh.resolve_right e⟩
 · show (st.Ended ++ [y.ID]).Nodup
   rw [List.nodup_append]
   exact ⟨h.nd,by simp,fun a ha b hb=>by rw [List.mem_singleton.1 hb]; rintro rfl; exact hni ha⟩
 · have he:e ∈ st.Ended ++ [y.ID]:=he
   rcases List.mem_append.1 he with he | he
   · exact hin e (h.es e he)
   · exact hin e ⟨y,hy,(List.mem_singleton.1 he).symm⟩
end Go.Fn
open Go Go.IL
namespace Go.Fn
theorem wH {K K':Int} {N:List Nd} {E:List Int} (h:FV K ⟨24,K,N,E⟩) (h1:0 ≤ K' ∧ K' ≤ 24) (h2:(E.length:Int) ≤ K'):FV K' ⟨24,K',N,E⟩ :=
 ⟨rfl,⟨rfl,h1⟩,h.ln,h2,h.so,h.ra,h.pa,h.rk,h.en,h.nd,h.es⟩
theorem TS.keep {A:AS} {ns:List Nk} {first:Int} {cl:List Int} {R K K':Int} {N:List Nd} {E:List Int} (h:TS A ns first cl R K N E) (h1:0 ≤ K' ∧ K' ≤ 24) (h2:(E.length:Int) ≤ K'):TS A ns first cl R K' N E :=
 ⟨h.rl,h.cn,wH h.fv h1 h2,h.ln,h.rm⟩
def aAq (N:List Nd) (id:Int):Prop:=∃ m ∈ N,m.ID=id ∧ m.Closed=true
instance (N:List Nd) (id:Int):Decidable (aAq N id):=inferInstanceAs (Decidable (∃ m ∈ N,m.ID=id ∧ m.Closed=true))
def rO (K:Int) (N:List Nd) (E:List Int) (id:Int):Int × List Nd × List Int :=
 if hasN N id then (if aAq N id then (9,N,E) else if K < ((E ++ [id]).length:Int) then (0,offT (N.map (clN id)) ((E ++ [id]).headD 0),(E ++ [id]).filter fun e=>!decide (e=(E ++ [id]).headD 0)) else (0,N.map (clN id),E ++ [id])) else (6,N,E)
theorem aCY {A:AS} {ns:List Nk} {first:Int} {cl:List Int} {R K:Int} {N:List Nd} {E:List Int} (h:TS A ns first cl R K N E) (id:Int) :
 ∃ A' ns' first' cl',gW id R K A.Cells A.Free A.Used ns first cl=some ((rO K N E id).1,R,K,A'.Cells,A'.Free,A'.Used,ns',first',cl') ∧ TS A' ns' first' cl' R K (rO K N E id).2.1 (rO K N E id).2.2:=by
 have hK:0 ≤ K ∧ K ≤ 24:=h.fv.kp.2
 have hEl:(E.length:Int) ≤ K:=h.fv.el
 unfold gW rO
 rcases qP h id R K with ⟨f1,p,f2,f3,f4⟩ | ⟨f1,f4⟩
 · obtain ⟨sp,kids,hR,h0⟩:=h.rl
   obtain ⟨cN,c1,c2,c3⟩:=h.cn
   obtain ⟨v,n,k1,k2,k3,k4,k5⟩:=hR.up p f2
   have hyid:(asN ns n v).ID=id:=(cR k2).symm.trans f3
   have hshut:aAq N id ↔ n.closed=true:=by
    constructor
    · rintro ⟨m,hm,e1,e2⟩
      have:=nE hR.so hm k5 (e1.trans hyid.symm)
      rw [this] at e2; exact e2
    · exact fun hc=>⟨_,k5,hyid,hc⟩
   rw [f4,bnoS,bndD,decide_eq_false (by omega),bG,if_pos f1,dS,k2,bnoS,chk,if_pos hR.len,Int.toNat_natCast,k2,bnoS]
   by_cases hs:aAq N id
   · rw [if_pos hs,hshut.1 hs,bX]
     exact ⟨A,ns,first,cl,rfl,h⟩
   · have hcf:n.closed=false:=by
      cases hc:n.closed with
      | false=>rfl
      | true=>exact absurd (hshut.2 hc) hs
     have hcll:cl.length=E.length:=by rw [c1,c3]; unfold toI; simp
     rw [if_neg hs,hcf,bG,bnoS,bnoS,bndD,kH (by simp; omega) (by simp; omega),bnoS,bndD]
     obtain ⟨s1,s2⟩:=aAr hR f2 k2 n.weight true
     have hmap:N.map (setN (idP ns p) n.weight true)=N.map (clN id):=List.map_congr_left fun m hm=>by
      unfold setN clN
      rw [f3]
      by_cases e:m.ID=id
      · have:=nE hR.so hm k5 (e.trans hyid.symm)
        rw [if_pos e,if_pos e,this]; 
        have hpid:(asN ns n v).Parent=(asN ns n v).Parent:=rfl
        rfl
      · rw [if_neg e,if_neg e]
     rw [hmap] at s1
     obtain ⟨w1,w2⟩:=aBg (wH h.fv (K':=24) (by omega) (by omega)) k5 hcf
     rw [hyid] at w1
     have hts:TS A (ns.set p (⟨n.id,n.up,n.first,n.next,n.weight,true⟩:Nk)) first (cl ++ [(p:Int)]) R 24 (N.map (clN id)) (E ++ [id]):=by
      refine ⟨⟨sp,kids,s1,h0⟩,⟨cN ++ [p],by rw [c1]; unfold toI; simp,fun q hq=>?_,?_⟩,w1,by rw [List.length_map]; exact h.ln,h.rm⟩
      · rcases List.mem_append.1 hq with hq | hq
        · exact c2 q hq
        · rw [List.mem_singleton.1 hq]; exact f2
      · rw [List.map_congr_left (fun q _=>s2 q),List.map_append,c3]
        show _ ++ [id]=_ ++ [idP ns p]
        rw [f3]
     have hlen:(cl ++ [(p:Int)]).length=(E ++ [id]).length:=by simp [hcll]
     rw [hlen]
     by_cases hk:K < ((E ++ [id]).length:Int)
     · rw [decide_eq_true hk,bX,if_pos hk]
       obtain ⟨dN,d1,d2,d3⟩:=hts.cn
       cases dN with
       | nil=>have:=congrArg List.length d1; simp [toI] at this
       | cons q dN =>
         have hd1:cl ++ [(p:Int)]=(q:Int) :: toI dN:=d1
         have hd3:E ++ [id]=idP _ q :: dN.map _:=d3
         have hnd:(E ++ [id]).Nodup:=w1.nd
         obtain ⟨L,y,Rr,ns1,first1,cl1,g1,g2,g3,g4,g5⟩:=aBB hts (d2 q (by simp)) R K
         have hT:=aBC hts.fv.so g1 g2
         rw [hT,g2] at g4
         have hhead:(E ++ [id]).headD 0=idP (ns.set p (⟨n.id,n.up,n.first,n.next,n.weight,true⟩:Nk)) q:=by rw [hd3]; rfl
         rw [hhead]
         refine ⟨oQ A q,ns1,first1,cl1,?_,g4.keep hK ?_⟩
         · rw [hd1]
           show (bno (fI (q:Int) R K A.Cells A.Free A.Used _ first ((q:Int) :: toI dN)) _)=_
           rw [← hd1,g3,bnoS]
         · have hl:=congrArg List.length hd3
           rw [hd3,List.filter_cons_of_neg (by simp)]
           have:=List.length_filter_le (fun e=>!decide (e=idP (ns.set p (⟨n.id,n.up,n.first,n.next,n.weight,true⟩:Nk)) q)) (dN.map (idP (ns.set p (⟨n.id,n.up,n.first,n.next,n.weight,true⟩:Nk))))
           simp at hl this ⊢
           omega
     · rw [decide_eq_false hk,bG,if_neg hk]
       exact ⟨A,_,first,_,rfl,hts.keep hK (by omega)⟩
 · rw [f4,bnoS,bndD,decide_eq_true rfl,bX,if_neg f1]
   exact ⟨A,ns,first,cl,rfl,h⟩
end Go.Fn
open Go Go.IL
namespace Go.Fn
theorem new_ts {R K:Int} (hR:0 ≤ R ∧ R ≤ 24) (hK:0 ≤ K ∧ K ≤ 24):TS ⟨[],-1,0⟩ (List.replicate 64 (⟨0,0,0,0,0,false⟩:Nk)) (-1) [] R K [] []:=by
 have hal:∀ p,¬ fH ⟨[],-1,0⟩ p:=fun p ⟨c,hc,_⟩=>by cases hc
 refine ⟨⟨[],fun _=>[],⟨⟨by decide,(fun c hc=>by cases hc),lP.nil,List.nodup_nil,rfl,rfl,fun i c hc=>by cases hc⟩,List.length_replicate ..,⟨fun u hu=>?_,fun _ _=>List.nodup_nil,fun u v p _ _ hp=>(by cases hp),fun p hp=>absurd hp (hal p)⟩,fun p hp=>absurd hp (hal p),fun u p _ hp=>(by cases hp),fun m hm=>(by cases hm),fun p q hp=>absurd hp (hal p),List.Pairwise.nil⟩,fun _ _=>rfl⟩,⟨[],rfl,fun p hp=>(by cases hp),rfl⟩,⟨rfl,⟨rfl,hK⟩,Nat.zero_le _,hK.1,List.Pairwise.nil,fun n hn=>(by cases hn),fun n hn=>(by cases hn),⟨fun _=>0,fun n hn=>(by cases hn)⟩,fun n hn=>(by cases hn),List.nodup_nil,fun e he=>(by cases he)⟩,hR.1,hR.2⟩
 cases u with
 | none=>rfl
 | some p=>exact absurd hu (hal p)
theorem Len_ts {A:AS} {ns:List Nk} {first:Int} {cl:List Int} {R K:Int} {N:List Nd} {E:List Int} (h:TS A ns first cl R K N E) (room keep:Int):gK room keep A.Cells A.Free A.Used ns first cl=some (N.length:Int):=by
 obtain ⟨sp,kids,hR,h0⟩:=h.rl
 unfold gK
 rw [sR hR]
end Go.Fn
open Go Go.IL
namespace Go.Fn
theorem aAY {A:AS} {sp:List Nat} {ns:List Nk} {first:Int} {kids:Option Nat → List Nat} {N:List Nd} (h:RL A sp ns first kids N) {u:Option Nat} (hu:hdK A u) (room keep:Int) (C:List AC) (F U:Int) (cl:List Int):eH (upI u) room keep C F U ns first cl=some (idU ns u):=by
 unfold eH
 rw [bndD]
 cases u with
 | none=>rfl
 | some p =>
   obtain ⟨v,n,k1,k2,k3,k4,k5⟩:=h.up p hu
   rw [show decide (upI (some p) = -1)=false from decide_eq_false (show ¬ (p:Int) = -1 by omega),bG,show upI (some p)=(p:Int) from rfl,dS,k2,bnoS,chk,if_pos h.len,Int.toNat_natCast,k2,bnoS]
   show _=some (idP ns p)
   rw [cR k2]
theorem aCO {A:AS} {sp:List Nat} {ns:List Nk} {first:Int} {kids:Option Nat → List Nat} {N:List Nd} (h:RL A sp ns first kids N) {cN:List Nat} (hl:cN.length ≤ 1000) (hc:∀ p ∈ cN,fH A p) (room keep:Int) (C:List AC) (F U:Int) (r:List Nat):∀ (q:List Nat) (f:Nat),cN=q ++ r → r.length < f → eV room keep C F U ns first (toI cN) f (q.map (idP ns)) (q.length:Int)=some (cN.map (idP ns)):=by
 induction r with
 | nil =>
   intro q f h1 hf
   obtain ⟨f,rfl⟩:∃ g,f=g + 1:=⟨f - 1,by simp at hf; omega⟩
   rw [List.append_nil] at h1
   subst h1
   rw [eV,bndD,show (toI cN).length=cN.length by unfold toI; simp,decide_eq_false (by omega),bG]
 | cons p r ih =>
   intro q f h1 hf
   obtain ⟨f,rfl⟩:∃ g,f=g + 1:=⟨f - 1,by simp at hf; omega⟩
   obtain ⟨e1,e2,e3,e4⟩:=gixI h1 hl
   have hq:q.length ≤ 1000:=by rw [h1] at hl; simp at hl; omega
   have hid:=aAY h (u:=some p) (hc p (by rw [h1]; simp)) room keep C F U (toI cN)
   have hid:eH (p:Int) room keep C F U ns first (toI cN)=some (idP ns p):=hid
   rw [eV,bndD,e1,bX,e2,bnoS,e3,bnoS,hid,bnoS,kH (by simp; omega) (by simp; omega),bnoS,bndD,e4]
   have:=ih (q ++ [p]) f (by rw [h1]; simp) (by simpa using hf)
   rw [List.map_append] at this
   exact this
theorem aBu {A:AS} {ns:List Nk} {first:Int} {cl:List Int} {R K:Int} {N:List Nd} {E:List Int} (h:TS A ns first cl R K N E) (room keep:Int):gM room keep A.Cells A.Free A.Used ns first cl=some E:=by
 obtain ⟨sp,kids,hR,h0⟩:=h.rl
 obtain ⟨cN,c1,c2,c3⟩:=h.cn
 have hK:0 ≤ K ∧ K ≤ 24:=h.fv.kp.2
 have hEl:(E.length:Int) ≤ K:=h.fv.el
 have hl:cN.length ≤ 24:=by rw [c3,List.length_map] at hEl; omega
 unfold gM
 rw [chk,if_pos hR.len,c1,c3]
 exact aCO hR (by omega) c2 room keep A.Cells A.Free A.Used cN [] fuel rfl (eS (by omega))
end Go.Fn
open Go Go.IL
namespace Go.Fn
theorem aB6 {A:AS} {sp:List Nat} {ns:List Nk} {first:Int} {kids:Option Nat → List Nat} {N:List Nd} (h:RL A sp ns first kids N) (room keep:Int) (C:List AC) (F U:Int) (cl:List Int):∀ (l:List Nat) (p:Nat) (acc:List Int) (f:Nat),Up ns p l → (∀ q ∈ l,fH A q) → acc.length + l.length ≤ 1000 → l.length < f → fL room keep C F U ns first cl f acc (p:Int)=some (acc ++ l.map (idP ns)):=by
 intro l
 induction l with
 | nil =>
   intro p acc f hu _ _ hf
   obtain ⟨f,rfl⟩:∃ g,f=g + 1:=⟨f - 1,by simp at hf; omega⟩
   obtain ⟨n,h1,h2⟩:=hu
   rw [fL,bndD,decide_eq_false (by omega),Bool.not_false,beq_self_eq_true,gdtt,dS,h1,bnoS,chk,if_pos (fun _=>h.len),gdtt,Int.toNat_natCast,h1,bnoS,bndD,h2,decide_eq_true rfl,Bool.not_true,bndD,Bool.and_false,bG,List.map_nil,List.append_nil]
 | cons q l ih =>
   intro p acc f hu hl ha hf
   obtain ⟨f,rfl⟩:∃ g,f=g + 1:=⟨f - 1,by simp at hf; omega⟩
   obtain ⟨⟨n,h1,h2⟩,h3⟩:=hu
   have hid:eH (q:Int) room keep C F U ns first cl=some (idP ns q):=aAY h (u:=some q) (hl q (by simp)) room keep C F U cl
   simp at ha
   rw [fL,bndD,decide_eq_false (by omega),Bool.not_false,beq_self_eq_true,gdtt,dS,h1,bnoS,chk,if_pos (fun _=>h.len),gdtt,Int.toNat_natCast,h1,bnoS,bndD,h2,decide_eq_false (by omega),Bool.not_false,bndD,Bool.and_true,bX,bnoS,chk,if_pos h.len,bnoS,h2,hid,bnoS,kH (by simp; omega) (by simp; omega),bnoS]
   rw [ih q (acc ++ [idP ns q]) f h3 (fun z hz=>hl z (by simp [hz])) (by simp; omega) (by simpa using hf)]
   rw [List.map_cons,List.append_assoc]; rfl
theorem Path_ts {A:AS} {ns:List Nk} {first:Int} {cl:List Int} {R K:Int} {N:List Nd} {E:List Int} (h:TS A ns first cl R K N E) (id:Int) (room keep:Int):jA id room keep A.Cells A.Free A.Used ns first cl=some (if hasN N id then fV N N.length id else []):=by
 obtain ⟨sp,kids,hR,h0⟩:=h.rl
 obtain ⟨r,hr⟩:=h.fv.rk
 have hN:N.length ≤ 24:=h.fv.ln
 unfold jA
 rcases qP h id room keep with ⟨f1,p,f2,f3,f4⟩ | ⟨f1,f4⟩
 · obtain ⟨l,l1,l2,l3,l4⟩:=vI hR (fun m hm=>(h.fv.ra m hm).1.1) hr h.fv.pa f2
   rw [f4,bnoS,if_pos f1,aB6 hR room keep A.Cells A.Free A.Used cl l p [] fuel l1 l2 (by simp; omega) (eS (by omega)),← f3,l4]; rfl
 · rw [f4,bnoS,if_neg f1]
   rfl
end Go.Fn
open Go Go.IL
namespace Go.Fn
def uG (ns:List Nk) (p:Nat):Nd:=⟨(ns.getD p default).id,(if (ns.getD p default).up = -1 then 0 else idP ns (ns.getD p default).up.toNat),(ns.getD p default).weight,(ns.getD p default).closed⟩
theorem tJ {A:AS} {sp:List Nat} {ns:List Nk} {first:Int} {kids:Option Nat → List Nat} {N:List Nd} (h:RL A sp ns first kids N) {p:Nat} (hp:fH A p):uG ns p ∈ N ∧ (uG ns p).ID=idP ns p ∧ ∃ n u,ns[p]? = some n ∧ n.up=upI u ∧ hdK A u ∧ uG ns p=asN ns n u:=by
 obtain ⟨u,n,k1,k2,k3,k4,k5⟩:=h.up p hp
 have e:uG ns p=asN ns n u:=by
  unfold uG asN
  rw [List.getD_eq_getElem?_getD,k2]
  show (⟨n.id,(if n.up = -1 then 0 else idP ns n.up.toNat),n.weight,n.closed⟩:Nd)=_
  rw [k3]
  cases u with
  | none=>rfl
  | some q =>
    rw [show upI (some q)=(q:Int) from rfl,if_neg (by omega),Int.toNat_natCast]; rfl
 rw [e]
 exact ⟨k5,(cR k2).symm,n,u,k2,k3,k1,rfl⟩
theorem aBx {A:AS} {sp:List Nat} {ns:List Nk} {first:Int} {kids:Option Nat → List Nat} {N:List Nd} (h:RL A sp ns first kids N) {lv:List Nat} (hl:lv.length ≤ 1000) (hc:∀ p ∈ lv,fH A p) (room keep:Int) (C:List AC) (F U:Int) (cl:List Int) (r:List Nat):∀ (q:List Nat) (f:Nat),lv=q ++ r → r.length < f → fD room keep C F U ns first cl (toI lv) f (q.map (uG ns)) (q.length:Int)=(bno (dI (lv.map (uG ns))) fun x31=>chk (x31.length=(lv.map (uG ns)).length) <| some x31):=by
 induction r with
 | nil =>
   intro q f h1 hf
   obtain ⟨f,rfl⟩:∃ g,f=g + 1:=⟨f - 1,by simp at hf; omega⟩
   rw [List.append_nil] at h1
   subst h1
   rw [fD,bndD,show (toI lv).length=lv.length by unfold toI; simp,decide_eq_false (by omega),bG]
 | cons p r ih =>
   intro q f h1 hf
   obtain ⟨f,rfl⟩:∃ g,f=g + 1:=⟨f - 1,by simp at hf; omega⟩
   obtain ⟨e1,e2,e3,e4⟩:=gixI h1 hl
   have hq:q.length ≤ 1000:=by rw [h1] at hl; simp at hl; omega
   obtain ⟨_,_,n,u,k1,k2,k3,k4⟩:=tJ h (hc p (by rw [h1]; simp))
   rw [fD,bndD,e1,bX,e2,bnoS,dS,k1,bnoS,chk,if_pos h.len,Int.toNat_natCast,k1,bnoS,k2,aAY h k3,bnoS,kH (by simp; omega) (by simp; omega),bnoS,bndD,e4]
   have:=ih (q ++ [p]) f (by rw [h1]; simp) (by simpa using hf)
   rw [List.map_append,List.map_singleton,k4] at this
   exact this
end Go.Fn
open Go Go.IL
namespace Go.Fn
theorem kids_L3 {A:AS} {sp:List Nat} {ns:List Nk} {first:Int} {kids:Option Nat → List Nat} {N:List Nd} (h:RL A sp ns first kids N) (room keep:Int) (C:List AC) (F U:Int) (cl:List Int):∀ (r:List Nat) (acc:List Int) (a:Int) (f:Nat),iQ ns a r → (∀ p ∈ r,fH A p) → acc.length + r.length ≤ 1000 → r.length < f → fN room keep C F U ns first cl f a acc=fO (acc ++ r.map (idP ns)):=by
 intro r
 induction r with
 | nil =>
   intro acc a f hc _ _ hf
   obtain ⟨f,rfl⟩:∃ g,f=g + 1:=⟨f - 1,by simp at hf; omega⟩
   have hc:a = -1:=hc
   rw [fN,bndD,hc,decide_eq_true rfl,Bool.not_true,bG,List.map_nil,List.append_nil]
 | cons p r ih =>
   intro acc a f hc hl ha hf
   obtain ⟨f,rfl⟩:∃ g,f=g + 1:=⟨f - 1,by simp at hf; omega⟩
   obtain ⟨h1,n,h2,h3⟩:=hc
   have hid:eH (p:Int) room keep C F U ns first cl=some (idP ns p):=aAY h (u:=some p) (hl p (by simp)) room keep C F U cl
   simp at ha
   rw [fN,bndD,h1,decide_eq_false (by omega),Bool.not_false,bX,dS,h2,bnoS,Int.toNat_natCast,h2,bnoS,hid,bnoS,kH (by simp; omega) (by simp; omega),bnoS]
   rw [ih (acc ++ [idP ns p]) n.next f h3 (fun z hz=>hl z (by simp [hz])) (by simp; omega) (by simpa using hf),List.map_cons,List.append_assoc]; rfl
theorem kids_L4 {A:AS} {sp:List Nat} {ns:List Nk} {first:Int} {kids:Option Nat → List Nat} {N:List Nd} (h:RL A sp ns first kids N) (room keep:Int) (C:List AC) (F U:Int) (cl:List Int):∀ (r:List Nat) (acc:List Int) (a:Int) (f:Nat),iQ ns a r → (∀ p ∈ r,fH A p) → acc.length + r.length ≤ 1000 → r.length < f → fM room keep C F U ns first cl f a acc=fO (acc ++ r.map (idP ns)):=by
 intro r
 induction r with
 | nil =>
   intro acc a f hc _ _ hf
   obtain ⟨f,rfl⟩:∃ g,f=g + 1:=⟨f - 1,by simp at hf; omega⟩
   have hc:a = -1:=hc
   rw [fM,bndD,hc,decide_eq_true rfl,Bool.not_true,bG,List.map_nil,List.append_nil]
 | cons p r ih =>
   intro acc a f hc hl ha hf
   obtain ⟨f,rfl⟩:∃ g,f=g + 1:=⟨f - 1,by simp at hf; omega⟩
   obtain ⟨h1,n,h2,h3⟩:=hc
   have hid:eH (p:Int) room keep C F U ns first cl=some (idP ns p):=aAY h (u:=some p) (hl p (by simp)) room keep C F U cl
   simp at ha
   rw [fM,bndD,h1,decide_eq_false (by omega),Bool.not_false,bX,dS,h2,bnoS,Int.toNat_natCast,h2,bnoS,hid,bnoS,kH (by simp; omega) (by simp; omega),bnoS]
   rw [ih (acc ++ [idP ns p]) n.next f h3 (fun z hz=>hl z (by simp [hz])) (by simp; omega) (by simpa using hf),List.map_cons,List.append_assoc]; rfl
end Go.Fn
open Go Go.IL
namespace Go.Fn
theorem aCW {A:AS} {ns:List Nk} {first:Int} {cl:List Int} {R K:Int} {N:List Nd} {E:List Int} (h:TS A ns first cl R K N E) (id:Int) (room keep:Int) :
 (¬ (hasN N id ∨ id=0) ∧ gD id room keep A.Cells A.Free A.Used ns first cl=some []) ∨
 (hasN N id ∨ id=0) ∧ ∃ l:List Int,gD id room keep A.Cells A.Free A.Used ns first cl=fO l ∧ l.Nodup ∧ l.length ≤ 64 ∧ (∀ m ∈ N,(m.ID ∈ l ↔ m.Parent=id)) ∧ ∀ i ∈ l,hasN N i:=by
 obtain ⟨sp,kids,hR,h0⟩:=h.rl
 have hpos:∀ m ∈ N,1 ≤ m.ID:=fun m hm=>(h.fv.ra m hm).1.1
 have hnd:∀ u,hdK A u → ((kids u).map (idP ns)).Nodup:=fun u hu =>
  List.pairwise_map.2 ((hR.lk.nd u hu).imp_of_mem fun {p q} hp hq hne e=>hne (hR.inj p q (hR.kid u p hu hp) (hR.kid u q hu hq) e))
 have hin:∀ u,hdK A u → ∀ i ∈ (kids u).map (idP ns),hasN N i:=fun u hu i hi=>by
  obtain ⟨p,hp,rfl⟩:=List.mem_map.1 hi
  obtain ⟨v,n,k1,k2,k3,k4,k5⟩:=hR.up p (hR.kid u p hu hp)
  exact ⟨_,k5,(cR k2).symm⟩
 unfold gD
 rcases qP h id room keep with ⟨f1,p,f2,f3,f4⟩ | ⟨f1,f4⟩
 · have hsz:=hR.lk.size hR.len (u:=some p) f2
   obtain ⟨v,n,k1,k2,k3,k4,k5⟩:=hR.up p f2
   have hch:=hR.lk.ch (some p) f2
   rw [kY k2] at hch
   refine .inr ⟨.inl f1,(kids (some p)).map (idP ns),?_,hnd (some p) f2,by rw [List.length_map]; exact hsz,fun m hm=>?_,hin (some p) f2⟩
   · rw [f4,bnoS,bndD,bndD,bndD,decide_eq_false (show ¬ (p:Int) = -1 by omega),Bool.false_and,bG,bndD,bG,dS,k2,bnoS,chk,if_pos hR.len,Int.toNat_natCast,k2,bnoS]
     rw [kids_L4 hR room keep A.Cells A.Free A.Used cl (kids (some p)) [] n.first fuel hch (fun z hz=>hR.kid (some p) z f2 hz) (by simp; omega) (eS (by omega))]; rfl
   · rw [rX hR hpos (u:=some p) f2 hm,← f3]; rfl
 · by_cases e:id=0
   · have hsz:=hR.lk.size hR.len (u:=none) trivial
     refine .inr ⟨.inr e,(kids none).map (idP ns),?_,hnd none trivial,by rw [List.length_map]; exact hsz,fun m hm=>?_,hin none trivial⟩
     · rw [f4,bnoS,bndD,bndD,bndD,decide_eq_true e,Bool.not_true,Bool.and_false,bG,bndD,show decide ((-1:Int) = -1)=true from rfl,bX,chk,if_pos hR.len]
       rw [kids_L3 hR room keep A.Cells A.Free A.Used cl (kids none) [] first fuel (hR.lk.ch none trivial) (fun z hz=>hR.kid none z trivial hz) (by simp; omega) (eS (by omega))]; rfl
     · rw [rX hR hpos (u:=none) trivial hm,e]; rfl
   · refine .inl ⟨fun hh=>hh.elim f1 e,?_⟩
     rw [f4,bnoS,bndD,bndD,bndD,decide_eq_false e,Bool.not_false,Bool.and_true,show decide ((-1:Int) = -1)=true from rfl,bX]
end Go.Fn
open Go Go.IL
namespace Go.Fn
theorem qM {α:Type} {k:α → Int}:∀ {w:List α},w.Pairwise (fun a b=>k a ≤ k b) → (w.map k).Nodup → w.Pairwise (fun a b=>k a < k b)
 | [],_,_=>.nil
 | x :: w,h,hn=>by
   obtain ⟨h1,h2⟩:=List.pairwise_cons.1 h
   obtain ⟨n1,n2⟩:=List.nodup_cons.1 hn
   refine List.pairwise_cons.2 ⟨fun y hy=>?_,qM h2 n2⟩
   have:=h1 y hy
   have:k x ≠ k y:=fun e=>n1 (List.mem_map.2 ⟨y,hy,e.symm⟩)
   omega
theorem aAl {l:List Int} (hl:l.length ≤ 24) (hn:l.Nodup):∃ w,yE l=some w ∧ w.Perm l ∧ w.Pairwise (· < ·):=by
 have hp:=mN id l
 refine ⟨_,sortI_t (by omega),hp,?_⟩
 refine qM (k:=id) (nJ id l) ?_
 rw [List.map_id]
 exact (hp.nodup_iff).2 hn
theorem ksort_t {l:List Nd} (hl:l.length ≤ 24) (hn:(l.map (·.ID)).Nodup) (hg:∀ m ∈ l,0 ≤ m.ID ∧ m.ID ≤ 1048576):∃ w,dI l=some w ∧ w.Perm l ∧ w.Pairwise (fun a b=>a.ID < b.ID):=by
 have hp:=mN (fun m:Nd=>m.ID) l
 refine ⟨_,sortK_t (by omega) (fun m hm=>?_) hn,hp,qM (nJ _ l) (((hp.map _).nodup_iff).2 hn)⟩
 have:=hg m hm
 rw [Bool.and_eq_true,decide_eq_true_iff,decide_eq_true_iff]
 exact this
end Go.Fn
