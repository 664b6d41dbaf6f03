/-
  A part of the proof: rules and plain facts. No condition.
-/
import Derived.Test.YtnokcmkfkfeaiaaGreatIlEq
import Derived.KernelRfl
import Derived.Test.YtnokcmkfkfeaiaaGreatIlA25bD
set_option linter.all false
open Go Go.IL
namespace Go.Fn
theorem iP {α : Type} {l p r : List α} {x : α} (h : l = p ++ x :: r) : gix l (p.length : Int) = some x:=by
  subst h; rw [aAu,List.getElem?_append_right (Nat.le_refl _)]; simp
theorem nT {α : Type} {l p r : List α} {x : α} (h : l = p ++ x :: r) : decide ((p.length : Int) < (l.length : Int)) = true:=by
  subst h; simp; omega
theorem qB {α : Type} {l p : List α} (h : l = p ++ []) : decide ((p.length : Int) < (l.length : Int)) = false:=by
  subst h; simp
theorem oY {α : Type} {l : List α} : decide ((l.length : Int) < (l.length : Int)) = false:=by simp
theorem w_at {α : Type} {l p r : List α} {x : α} (h : l = p ++ x :: r) (hl : l.length ≤ 1000000) : IntKind.wrap .i64 ((p.length : Int) + 1) = ((p ++ [x]).length : Int):=by
  subst h; simp only [List.length_append,List.length_cons,List.length_nil] at hl ⊢; rw [w64 (by omega) (by omega)]; omega
theorem iM {α : Type} {l p r : List α} {x : α} (h : l = p ++ x :: r) : l = (p ++ [x]) ++ r:=by rw [h]; simp
theorem tf : (true == false) = false:=rfl
theorem ft : (false == true) = false:=rfl
theorem aBk {α : Type} {l p r : List α} {x y : α} (h : l = (p ++ [x]) ++ y :: r) (hl : l.length ≤ 1000000) : gix l (IntKind.wrap .i64 (((p ++ [x]).length : Int) - 1)) = some x:=by
  have hp : p.length ≤ 1000000:=by rw [h] at hl; simp at hl; omega
  rw [show ((p ++ [x]).length : Int) - 1 = (p.length : Int) by simp,w64 (by omega) (by omega)]
  exact iP (r:=y :: r) (by rw [h]; simp)
theorem aA4 {α : Type} {l p r : List α} (h : l = p ++ r) : cut l 0 (p.length : Int) = some p:=by
  subst h; unfold cut; rw [if_pos (by simp; omega)]; simp
theorem aBs {α : Type} {l p r : List α} (h : l = p ++ r) : cut l (p.length : Int) (l.length : Int) = some r:=by
  subst h; unfold cut; rw [if_pos (by simp; omega),Int.toNat_natCast,Int.toNat_natCast,List.take_length,List.drop_left]
theorem rY {α : Type} {L : Nat → Int → Option Int} {l : List α} {q : α → Bool}
    (h1 : ∀ p x r f,l = p ++ x :: r → L (f + 1) (p.length : Int) = bif q x then some (p.length : Int) else L f ((p ++ [x]).length : Int)) (h0 : ∀ f,L (f + 1) (l.length : Int) = some (-1)) :
    ∀ (r p : List α) (f : Nat), l = p ++ r → r.length < f → (∀ y ∈ p, q y = false) →
      (L f (p.length : Int) = some (-1) ∧ ∀ y ∈ l,q y = false) ∨ ∃ a x t,l = a ++ x :: t ∧ (∀ y ∈ a,q y = false) ∧ q x = true ∧ L f (p.length : Int) = some (a.length : Int)
  | [], p, f + 1, h, _, ha => by
    left
    rw [List.append_nil] at h
    subst h
    exact ⟨h0 f,ha⟩
  | y :: r, p, f + 1, h, hf, ha => by
    rw [h1 p y r f h]
    rcases Bool.eq_false_or_eq_true (q y) with hb | hb
    · right; exact ⟨p,y,r,h,ha,hb,by rw [hb]; rfl⟩
    · rw [hb, cA]
      exact rY h1 h0 r (p ++ [y]) f (iM h) (by simpa using hf) (fun z hz=>by
        rcases List.mem_append.1 hz with hz | hz
        · exact ha z hz
        · rw [List.mem_singleton.1 hz]; exact hb)
theorem aBj {α : Type} {L : Nat → Int → Option Int} {l : List α} {q : α → Bool} (hl : l.length ≤ 1000000)
    (h1 : ∀ p x r f,l = p ++ x :: r → L (f + 1) (p.length : Int) = bif q x then some (p.length : Int) else L f ((p ++ [x]).length : Int)) (h0 : ∀ f,L (f + 1) (l.length : Int) = some (-1)) :
    ∃ k : Int,L fuel 0 = some k ∧ decide (0 ≤ k) = l.any q:=by
  rcases rY h1 h0 l [] fuel rfl (gC (by omega)) (fun _ h=>(List.not_mem_nil h).elim) with ⟨h2,h3⟩ | ⟨a,x,t,h2,h3,h4,h5⟩
  · refine ⟨-1, h2, ?_⟩
    symm
    have : l.any q = false:=by rw [List.any_eq_false]; intro y hy; rw [h3 y hy]; decide
    rw [this]; rfl
  · refine ⟨a.length, h5, ?_⟩
    have : l.any q = true:=List.any_eq_true.2 ⟨x,by rw [h2]; simp,h4⟩
    rw [this]; exact decide_eq_true (by omega)
theorem vK {α : Type} {L : Nat → List α → Int → Int → Option (List α)} {q : α → Bool}
    (h1 : ∀ (f : Nat) (l : List α) (i j : Nat) (x : α),l.length ≤ 100000 → i ≤ j → j < l.length → l[j]? = some x → L (f + 1) l (i : Int) (j : Int) = bif !q x then L f (l.set i x) ((i + 1 : Nat) : Int) ((j + 1 : Nat) : Int) else L f l (i : Int) ((j + 1 : Nat) : Int))
    (h0 : ∀ (f : Nat) (l : List α) (i : Nat),i ≤ l.length → L (f + 1) l (i : Int) (l.length : Int) = some (l.take i)) :
    ∀ (r k m : List α) (f : Nat), k.length + m.length + r.length ≤ 100000 → r.length < f →
      L f (k ++ m ++ r) (k.length : Int) ((k.length + m.length : Nat) : Int) = some (k ++ r.filter fun y=>!q y)
  | [], k, m, f + 1, hl, _ => by
    have:=h0 f (k ++ m) k.length (by simp)
    rw [List.append_nil,show ((k.length + m.length : Nat) : Int) = ((k ++ m).length : Int) by simp,this]; simp
  | y :: r, k, m, f + 1, hl, hf => by
    simp only [List.length_cons] at hl hf
    have hy : (k ++ m ++ y :: r)[k.length + m.length]? = some y:=by
      rw [List.getElem?_append_right (by simp)]; simp
    have hlen : (k ++ m ++ y :: r).length = k.length + m.length + (r.length + 1):=by simp; omega
    rw [h1 f (k ++ m ++ y :: r) k.length (k.length + m.length) y (by omega) (by omega) (by omega) hy]
    rcases Bool.eq_false_or_eq_true (q y) with hb | hb
    · rw [hb, Bool.not_true, cA, List.filter_cons_of_neg (by simp [hb])]
      have:=vK h1 h0 r k (m ++ [y]) f (by simp; omega) (by omega)
      rw [show k ++ m ++ y :: r = k ++ (m ++ [y]) ++ r by simp,← this]; congr 1; simp; omega
    · rw [hb, Bool.not_false, cR, List.filter_cons_of_pos (by simp [hb])]
      obtain ⟨m2,h3,h2⟩ : ∃ m2 : List α,m2.length = m.length ∧ (k ++ m ++ y :: r).set k.length y = k ++ [y] ++ m2 ++ r:=by
        rw [List.append_assoc k m,List.set_append_right _ _ (Nat.le_refl _),Nat.sub_self]
        cases m with
        | nil=>exact ⟨[],rfl,by simp⟩
        | cons a m=>exact ⟨m ++ [y],by simp,by simp⟩
      rw [h2]
      have:=vK h1 h0 r (k ++ [y]) m2 f (by simp; omega) (by omega)
      rw [show k ++ y :: List.filter (fun y=>!q y) r = k ++ [y] ++ List.filter (fun y=>!q y) r by simp,← this]
      congr 1 <;> simp <;> omega
theorem aBq {α : Type} {I : Nat → Int → Option Int} {L : Nat → List α → Int → Int → Option (List α)} {l : List α} {q : α → Bool} (hl : l.length ≤ 100000)
    (i1 : ∀ p x r f,l = p ++ x :: r → I (f + 1) (p.length : Int) = bif q x then some (p.length : Int) else I f ((p ++ [x]).length : Int)) (i0 : ∀ f,I (f + 1) (l.length : Int) = some (-1))
    (h1 : ∀ (f : Nat) (l : List α) (i j : Nat) (x : α),l.length ≤ 100000 → i ≤ j → j < l.length → l[j]? = some x → L (f + 1) l (i : Int) (j : Int) = bif !q x then L f (l.set i x) ((i + 1 : Nat) : Int) ((j + 1 : Nat) : Int) else L f l (i : Int) ((j + 1 : Nat) : Int))
    (h0 : ∀ (f : Nat) (l : List α) (i : Nat),i ≤ l.length → L (f + 1) l (i : Int) (l.length : Int) = some (l.take i)) :
    (bno (I fuel 0) fun x1=>bnd (decide (x1 = (-1))) fun x2=>bif x2 then some l else bnd (IntKind.wrap .i64 (x1 + 1)) fun x4=>L fuel l x1 x4) = some (l.filter fun y=>!q y):=by
  rcases rY i1 i0 l [] fuel rfl (gC (by omega)) (fun _ h=>(List.not_mem_nil h).elim) with ⟨e1,e2⟩ | ⟨a,x,t,e1,e2,e3,e4⟩
  · have e1 : I fuel 0 = some (-1) := e1
    rw [e1,bnoS]
    simp only [bndD,decide_true,cR]
    rw [List.filter_eq_self.2 (fun y hy=>by rw [e2 y hy]; rfl)]
  · have e4 : I fuel 0 = some (a.length : Int) := e4
    have hql : a.length + (t.length + 1) ≤ 100000:=by rw [e1] at hl; simpa using hl
    rw [e4,bnoS]
    simp only [bndD,decide_eq_false (show ¬ (a.length : Int) = -1 by omega),cA]
    rw [w64 (by omega) (by omega)]
    have:=vK h1 h0 t a [x] fuel (by simp; omega) (gC (by omega))
    rw [e1,List.filter_append,List.filter_cons_of_neg (by simp [e3]),List.filter_eq_self.2 (fun y hy=>by rw [e2 y hy]; rfl),← this]
    congr 1; simp
theorem wX {α : Type} [DecidableEq α] {L : Nat → Int → Option Bool} {l m : List α} (hm : l.length = m.length)
    (h1 : ∀ p x r s y t f,l = p ++ x :: r → m = s ++ y :: t → p.length = s.length → L (f + 1) (p.length : Int) = bif !decide (x = y) then some false else L f ((p ++ [x]).length : Int)) {z : Bool} (h0 : ∀ f,L (f + 1) (l.length : Int) = some z) :
    ∀ (r t p s : List α) (f : Nat),l = p ++ r → m = s ++ t → p.length = s.length → r.length < f → L f (p.length : Int) = some (decide (r = t) && z)
  | [], [], p, s, f + 1, h, k, e, _ => by
    rw [List.append_nil] at h
    subst h
    rw [h0]; simp
  | [],y :: t,p,s,f + 1,h,k,e,_=>by rw [h,k] at hm; simp at hm; omega
  | x :: r,[],p,s,f + 1,h,k,e,_=>by rw [h,k] at hm; simp at hm; omega
  | x :: r, y :: t, p, s, f + 1, h, k, e, hf => by
    rw [h1 p x r s y t f h k e]
    by_cases hx : x = y
    · subst hx
      rw [decide_eq_true rfl,Bool.not_true,cA]
      have:=wX hm h1 h0 r t (p ++ [x]) (s ++ [x]) f (iM h) (iM k) (by simp [e]) (by simpa using hf)
      rw [this]; simp
    · rw [decide_eq_false hx,Bool.not_false,cR]; simp [hx]
theorem aAw {α : Type} [DecidableEq α] {L : Nat → Int → Option Bool} {l m : List α} (hl : l.length ≤ 1000000)
    (h1 : ∀ p x r s y t f,l = p ++ x :: r → m = s ++ y :: t → p.length = s.length → L (f + 1) (p.length : Int) = bif !decide (x = y) then some false else L f ((p ++ [x]).length : Int)) {z : Bool} (h0 : l.length = m.length → ∀ f,L (f + 1) (l.length : Int) = some z) :
    (bnd (!decide ((l.length : Int) = (m.length : Int))) fun x1=>bif x1 then some false else L fuel 0) = some (decide (l = m) && z):=by
  by_cases hm : l.length = m.length
  · simp only [bndD, decide_eq_true (show (l.length : Int) = (m.length : Int) by omega), Bool.not_true, cA]
    exact wX hm h1 (h0 hm) l m [] [] fuel rfl rfl rfl (gC (by omega))
  · simp only [bndD, decide_eq_false (show ¬ (l.length : Int) = (m.length : Int) by omega), Bool.not_false, cR]
    rw [decide_eq_false (fun h=>hm (by rw [h]))]; rfl
theorem nR {α : Type} {P : α → Option Bool} {q : α → Bool} (hP : ∀ x,P x = some (q x)) {I : Nat → Int → Option Int} {l : List α}
    (hI : ∀ f v,I (f + 1) v = bnd (decide (v < (l.length : Int))) fun x14=>bif x14 then (bno (gix l v) fun x16=>bno (P x16) fun x17=>bif x17 then some v else (bnd (IntKind.wrap .i64 (v + 1)) fun x19=>I f x19)) else some (-1))
    (hl : l.length ≤ 1000000) : (bno (I fuel 0) fun x1=>bnd (decide (0 ≤ x1)) fun x2=>some x2) = some (l.any q):=by
  obtain ⟨k,h1,h2⟩:=aBj (L:=I) (q:=q) hl (fun p x r f h=>by
    rw [hI]; simp only [bndD,nT h,cR,iP h,bnoS,hP,w_at h hl]) (fun f=>by rw [hI]; simp only [bndD,oY,cA])
  rw [h1,bnoS,bndD,h2]
theorem pB {α : Type} {P : α → Option Bool} {q : α → Bool} (hP : ∀ x,P x = some (q x)) {I : Nat → Int → Option Int} {L : Nat → List α → Int → Int → Option (List α)} {l : List α}
    (hI : ∀ f v,I (f + 1) v = bnd (decide (v < (l.length : Int))) fun x14=>bif x14 then (bno (gix l v) fun x16=>bno (P x16) fun x17=>bif x17 then some v else (bnd (IntKind.wrap .i64 (v + 1)) fun x19=>I f x19)) else some (-1))
    (hL : ∀ f a b c,L (f + 1) a b c = bnd (decide (c < (a.length : Int))) fun x32=>bif x32 then (bno (gix a c) fun x34=>bno (a[(c : Int).toNat]?) fun x35=>bno (P x35) fun x36=>bif (!x36) then (bno (gix a b) fun x38=>bno (a[(b : Int).toNat]?) fun x39 =>
      bnd (a.set ((b : Int).toNat) x35) fun x40=>bnd (IntKind.wrap .i64 (b + 1)) fun x41=>bnd (IntKind.wrap .i64 (c + 1)) fun x42=>L f x40 x41 x42) else (bnd (IntKind.wrap .i64 (c + 1)) fun x43=>L f a b x43)) else (bno (cut a 0 b) fun x44=>bno (cut x44 0 b) fun x45=>some x45))
    (hl : l.length ≤ 100000) : (bno (I fuel 0) fun x1=>bnd (decide (x1 = (-1))) fun x2=>bif x2 then some l else bnd (IntKind.wrap .i64 (x1 + 1)) fun x4=>L fuel l x1 x4) = some (l.filter fun y=>!q y):=by
  refine aBq hl (fun p x r f h=>by
    rw [hI]; simp only [bndD,nT h,cR,iP h,bnoS,hP,w_at h (show l.length ≤ 1000000 by omega)]) (fun f=>by rw [hI]; simp only [bndD,oY,cA]) (fun f a i j x ha hij hj hx=>?_) (fun f a i hi=>?_)
  · rw [hL]
    have hi : i < a.length:=by omega
    simp only [bndD,decide_eq_true (show (j : Int) < (a.length : Int) by omega),cR,aAu,hx,bnoS,Int.toNat_natCast,hP,List.getElem?_eq_getElem hi,w64 (show -9223372036854775808 ≤ (j : Int) + 1 by omega) (by omega),w64 (show -9223372036854775808 ≤ (i : Int) + 1 by omega) (by omega)]
    rfl
  · rw [hL]
    have e : (a.take i).length = i:=by rw [List.length_take]; omega
    simp only [bndD,oY,cA]
    have h1:=aA4 (l:=a) (List.take_append_drop i a).symm
    have h2:=aA4 (l:=a.take i) (p:=a.take i) (r:=[]) (by simp)
    rw [e] at h1 h2
    rw [h1,bnoS,h2,bnoS]
theorem vL {α : Type} {l : List α} {i : Nat} (h : i ≤ l.length) : cut l 0 (i : Int) = some (l.take i):=by
  have h1:=aA4 (l:=l) (List.take_append_drop i l).symm
  rwa [show (l.take i).length = i by rw [List.length_take]; omega] at h1
end Go.Fn
open Go Go.IL
namespace Go.Fn
abbrev Iv:=aG
abbrev Pc:=aJ
abbrev S23:=aW
def mem (n : Int) (s : List Iv) : Prop:=∃ x ∈ s,x.From ≤ n ∧ n < x.To
def mayB (x : Iv) : Bool:=(decide (0 ≤ x.From) && decide (x.From ≤ 4611686018427387903)) && (decide (0 ≤ x.To) && decide (x.To ≤ 4611686018427387903))
theorem yP (x : Iv) : fU x = some (mayB x):=by
  unfold fU oJ mayB
  simp only [bndD,bnoS]
  cases decide (0 ≤ x.From) && decide (x.From ≤ 4611686018427387903) <;> rfl
theorem pI (x : Iv) : eX x = some (decide (x.To ≤ x.From)):=rfl
structure VS (s : List Iv) : Prop where
  pw : s.Pairwise (fun x y=>x.To < y.From)
  ne : ∀ x ∈ s,x.From < x.To
  lo : ∀ x ∈ s,0 ≤ x.From
  hi : ∀ x ∈ s,x.To ≤ 4398046511104
theorem VS.nil : VS []:=⟨.nil,fun _ h=>(List.not_mem_nil h).elim,fun _ h=>(List.not_mem_nil h).elim,fun _ h=>(List.not_mem_nil h).elim⟩
theorem vS : ∀ {s : List Iv} {a b : Int},s.Pairwise (fun x y=>x.To < y.From) → (∀ x ∈ s,x.From < x.To) → (∀ x ∈ s,a ≤ x.From ∧ x.To ≤ b) → a ≤ b → (s.length : Int) ≤ b - a
  | [],a,b,_,_,_,h=>by simp; omega
  | x :: s, a, b, hp, hn, hb, hab => by
    have hp:=List.pairwise_cons.1 hp
    have h1:=hn x (by simp)
    have h2:=hb x (by simp)
    have:=vS (s:=s) (a:=x.To) (b:=b) hp.2 (fun y hy=>hn y (by simp [hy])) (fun y hy=>⟨by have:=hp.1 y hy; omega,(hb y (by simp [hy])).2⟩) h2.2
    simp only [List.length_cons]; omega
theorem yT {s : List Iv} (hl : s.length ≤ 1000000) (hp : s.Pairwise (fun x y=>x.To < y.From)) : ∀ (r p : List Iv) (x : Iv) (f : Nat),s = (p ++ [x]) ++ r → r.length < f → fH s f ((p ++ [x]).length : Int) = some 0
  | [], p, x, f + 1, h, _ => by
    unfold fH
    simp only [bndD,qB h,cA]
  | y :: r, p, x, f + 1, h, hf => by
    unfold fH
    have hxy : x.To < y.From:=by
      rw [h] at hp
      exact (List.pairwise_append.1 hp).2.2 x (by simp) y (by simp)
    simp only [bndD,nT h,cR,aBk h hl,iP h,bnoS,decide_eq_false (show ¬ y.From ≤ x.To by omega),cA,w_at h hl]
    exact yT hl hp r (p ++ [x]) y f (iM h) (by simpa using hf)
theorem qH {s : List Iv} (hl : s.length ≤ 100000) (h : VS s) : iV s = some 0:=by
  unfold iV
  have h1 : cX s = some (s.any (fun x=>!mayB x)):=by
    have hc : ∀ x : Iv,kC (⟨x.From,x.To⟩ : Iv) = some (!mayB x):=fun x=>by unfold kC; rw [yP,bnoS]
    have hI : ∀ f v,bU s (f + 1) v = bnd (decide (v < (s.length : Int))) fun x14=>bif x14 then (bno (gix s v) fun x16=>bno (some (!mayB x16)) fun x17=>bif x17 then some v else (bnd (IntKind.wrap .i64 (v + 1)) fun x19=>bU s f x19)) else some (-1):=fun f v=>by
      rw [bU]
      simp only [hc]
    exact nR (P:=fun x : Iv=>some (!mayB x)) (fun _=>rfl) hI (by omega)
  have h2 : dG s = some (s.any (fun x=>decide (x.To ≤ x.From))):=by
    have hI : ∀ f v,bY s (f + 1) v = bnd (decide (v < (s.length : Int))) fun x14=>bif x14 then (bno (gix s v) fun x16=>bno (some (decide (x16.To ≤ x16.From))) fun x17=>bif x17 then some v else (bnd (IntKind.wrap .i64 (v + 1)) fun x19=>bY s f x19)) else some (-1):=fun f v=>by
      rw [bY]
      simp only [pI]
    exact nR (P:=fun x : Iv=>some (decide (x.To ≤ x.From))) (fun _=>rfl) hI (by omega)
  have e1 : s.any (fun x=>!mayB x) = false:=by
    rw [List.any_eq_false]; intro x hx
    have a1:=h.lo x hx
    have a2:=h.hi x hx
    have a3:=h.ne x hx
    unfold mayB; simp; omega
  have e2 : s.any (fun x=>decide (x.To ≤ x.From)) = false:=by
    rw [List.any_eq_false]; intro x hx
    have a3:=h.ne x hx
    simp; omega
  rw [h1,e1,bnoS,cA,h2,e2,bnoS,cA]
  cases hs : s with
  | nil =>
    have hf : fuel = 18446744073709551615 + 1:=rfl
    rw [hf]; rfl
  | cons x r =>
    have h3 : s = ([] ++ [x]) ++ r:=hs
    have:=yT (by omega) h.pw r [] x fuel h3 (gC (by rw [hs] at hl; simp at hl; omega))
    have this : fH s fuel 1 = _:=this
    rw [← hs]; exact this
theorem aB9 {l : List Iv} (hl : l.length ≤ 100000) : cZ l = some l:=by
  unfold cZ
  have h : (bno (app 16 ([] : (List Iv)) l) fun x3=>some x3) = some l:=by
    rw [mI (by simp; omega) (by simp; omega),bnoS,List.nil_append]
  rw [h,rB]
  rintro rfl; rfl
theorem iclone2 {l : List Iv} (hl : l.length ≤ 100000) : dP l = some l:=by
  unfold dP
  have h : (bno (app 16 ([] : (List Iv)) l) fun x3=>some x3) = some l:=by
    rw [mI (by simp; omega) (by simp; omega),bnoS,List.nil_append]
  rw [h,rB]
  rintro rfl; rfl
def parts (y x : Iv) : List Iv:=(if y.From < min y.To x.From then [⟨y.From,min y.To x.From⟩] else []) ++ (if max y.From x.To < y.To then [⟨max y.From x.To,y.To⟩] else [])
def cutS (s : List Iv) (x : Iv) : List Iv:=s.flatMap fun y=>parts y x
theorem sX {y x z : Iv} (h : z ∈ parts y x) : y.From ≤ z.From ∧ z.To ≤ y.To ∧ z.From < z.To ∧ (z.To ≤ x.From ∨ x.To ≤ z.From):=by
  unfold parts at h
  rcases List.mem_append.1 h with h | h
  · split at h
    · rw [List.mem_singleton.1 h]; refine ⟨Int.le_refl _,?_,?_,.inl ?_⟩ <;> simp only [] <;> omega
    · exact (List.not_mem_nil h).elim
  · split at h
    · rw [List.mem_singleton.1 h]; refine ⟨?_,Int.le_refl _,?_,.inr ?_⟩ <;> simp only [] <;> omega
    · exact (List.not_mem_nil h).elim
theorem aAR {y x : Iv} {n : Int} (h1 : y.From ≤ n ∧ n < y.To) (h2 : ¬ (x.From ≤ n ∧ n < x.To)) (hx : x.From < x.To) : ∃ z ∈ parts y x,z.From ≤ n ∧ n < z.To:=by
  unfold parts
  by_cases h : n < x.From
  · refine ⟨⟨y.From, min y.To x.From⟩, ?_, by simp only []; omega⟩
    rw [List.mem_append]; left; rw [if_pos (by omega)]; simp
  · refine ⟨⟨max y.From x.To, y.To⟩, ?_, by simp only []; omega⟩
    rw [List.mem_append]; right; rw [if_pos (by omega)]; simp
theorem aBV (y x : Iv) (hx : x.From < x.To) : (parts y x).Pairwise (fun a b=>a.To < b.From):=by
  unfold parts
  rw [List.pairwise_append]
  refine ⟨by split <;> simp,by split <;> simp,fun a ha b hb=>?_⟩
  split at ha
  · split at hb
    · rw [List.mem_singleton.1 ha,List.mem_singleton.1 hb]; show min y.To x.From < max y.From x.To; omega
    · exact (List.not_mem_nil hb).elim
  · exact (List.not_mem_nil ha).elim
theorem aAS (y x : Iv) : (parts y x).length ≤ 2:=by unfold parts; rw [List.length_append]; (repeat' split) <;> simp
theorem oT {s : List Iv} {x z : Iv} (h : z ∈ cutS s x) : ∃ y ∈ s,y.From ≤ z.From ∧ z.To ≤ y.To ∧ z.From < z.To ∧ (z.To ≤ x.From ∨ x.To ≤ z.From):=by
  obtain ⟨y,hy,hz⟩:=List.mem_flatMap.1 h
  exact ⟨y,hy,sX hz⟩
theorem aA5 {s : List Iv} {x : Iv} (h : VS s) (hx : x.From < x.To) : VS (cutS s x):=by
  refine ⟨?_,fun z hz=>?_,fun z hz=>?_,fun z hz=>?_⟩
  · unfold cutS
    rw [List.pairwise_flatMap]
    refine ⟨fun y _=>aBV y x hx,h.pw.imp fun {a b} hab z hz w hw=>?_⟩
    have h1:=sX hz
    have h2:=sX hw
    omega
  · obtain ⟨y,hy,h1,h2,h3,_⟩:=oT hz; exact h3
  · obtain ⟨y,hy,h1,h2,h3,_⟩:=oT hz; have:=h.lo y hy; omega
  · obtain ⟨y,hy,h1,h2,h3,_⟩:=oT hz; have:=h.hi y hy; omega
theorem yW {s : List Iv} {x : Iv} (hx : x.From < x.To) {n : Int} : mem n (cutS s x) ↔ mem n s ∧ ¬ (x.From ≤ n ∧ n < x.To):=by
  constructor
  · rintro ⟨z, hz, h1, h2⟩
    obtain ⟨y,hy,a1,a2,a3,a4⟩:=oT hz
    exact ⟨⟨y,hy,by omega,by omega⟩,by omega⟩
  · rintro ⟨⟨y, hy, h1⟩, h2⟩
    obtain ⟨z,hz,h3⟩:=aAR h1 h2 hx
    exact ⟨z,List.mem_flatMap.2 ⟨y,hy,hz⟩,h3⟩
theorem yX (x : Iv) : ∀ (s : List Iv),(cutS s x).length ≤ 2 * s.length
  | []=>Nat.le_refl _
  | y :: s => by
    have h1:=yX x s
    have h2:=aAS y x
    show (parts y x ++ cutS s x).length ≤ _
    rw [List.length_append,List.length_cons]; omega
theorem aA6 {s : List Iv} {x : Iv} (h : ∀ y ∈ s,y.From < y.To ∧ (y.To ≤ x.From ∨ x.To ≤ y.From)) (hx : x.From < x.To) : cutS s x = s:=by
  induction s with
  | nil=>rfl
  | cons y s ih =>
    have h1:=h y (by simp)
    show parts y x ++ cutS s x = y :: s
    rw [ih (fun z hz=>h z (by simp [hz]))]
    have : parts y x = [y]:=by
      unfold parts
      rcases h1.2 with h2 | h2
      · rw [if_pos (by omega),if_neg (by omega),show min y.To x.From = y.To by omega]; rfl
      · rw [if_neg (by omega),if_pos (by omega),show max y.From x.To = y.From by omega]; rfl
    rw [this]; rfl
theorem cut_one {x : Iv} {k : Int} {kk0 : Int → List Iv → Option (List Iv)} (y : Iv) (acc : List Iv) (n : Nat) (ha : acc.length ≤ 100000) :
    fA k kk0 y (min y.To x.From) (max y.From x.To) (n + 3) 0 acc = kk0 (IntKind.wrap .i64 (k + 1)) (acc ++ parts y x):=by
  have w0 : IntKind.wrap .i64 (0 + 1) = 1:=rfl
  have w1 : IntKind.wrap .i64 (1 + 1) = 2:=rfl
  have g0 : ∀ a b : Iv,gix [a,b] 0 = some a:=fun _ _=>rfl
  have g1 : ∀ a b : Iv,gix [a,b] 1 = some b:=fun _ _=>rfl
  unfold parts
  have e2 : ∀ (m : Nat) (a : List Iv),fA k kk0 y (min y.To x.From) (max y.From x.To) (m + 1) 2 a = kk0 (IntKind.wrap .i64 (k + 1)) a:=fun m a=>by
    rw [fA]
    simp only [bndD,show decide ((2 : Int) < 2) = false from rfl,cA]
  have e1 : ∀ (m : Nat) (a : List Iv),a.length ≤ 100001 → fA k kk0 y (min y.To x.From) (max y.From x.To) (m + 2) 1 a = kk0 (IntKind.wrap .i64 (k + 1)) (a ++ if max y.From x.To < y.To then [⟨max y.From x.To,y.To⟩] else []):=fun m a hal=>by
    rw [fA]
    simp only [bndD,show decide ((1 : Int) < 2) = true from rfl,cR,g1,bnoS,pI]
    by_cases h : max y.From x.To < y.To
    · rw [decide_eq_false (by omega), if_pos h]
      simp only [Bool.not_false,beq_self_eq_true,cR,Bool.not_true,Bool.and_false,cA,w1]
      rw [mI (by simp; omega) (by simp; omega),bnoS,e2 m]
    · rw [decide_eq_true (by omega), if_neg h, List.append_nil]
      simp only [Bool.not_true,ft,cA,Bool.not_false,Bool.and_true,w1,e2 m]
  rw [fA]
  simp only [bndD,show decide ((0 : Int) < 2) = true from rfl,cR,g0,bnoS,pI]
  by_cases h : y.From < min y.To x.From
  · rw [decide_eq_false (by omega), if_pos h]
    simp only [Bool.not_false,beq_self_eq_true,cR,Bool.not_true,Bool.and_false,cA,w0]
    rw [mI (by simp; omega) (by simp; omega),bnoS,e1 n _ (by simp; omega),List.append_assoc]
  · rw [decide_eq_true (by omega), if_neg h, List.nil_append]
    simp only [Bool.not_true,ft,cA,Bool.not_false,Bool.and_true,w0]
    rw [e1 n _ (by omega)]
theorem cut_L {s : List Iv} {x : Iv} (hl : s.length ≤ 20000) : ∀ (r p : List Iv) (f : Nat),s = p ++ r → r.length < f → gO s x f (p.length : Int) (cutS p x) = some (cutS s x)
  | [], p, f + 1, h, _ => by
    unfold gO
    simp only [bndD,qB h,cA]
    rw [List.append_nil] at h; rw [h]
  | y :: r, p, f + 1, h, hf => by
    unfold gO
    have hp : p.length + (r.length + 1) = s.length:=by rw [h]; simp
    have hc:=yX x p
    simp only [bndD,nT h,cR,iP h,bnoS]
    have hfu : fuel = 18446744073709551613 + 3:=rfl
    rw [hfu,cut_one y (cutS p x) _ (by omega),w_at h (by omega)]
    have ih:=cut_L (x:=x) hl r (p ++ [y]) f (iM h) (by simpa using hf)
    have e : cutS (p ++ [y]) x = cutS p x ++ parts y x:=by simp [cutS]
    rw [e] at ih
    exact ih
theorem aA3 {s : List Iv} {x : Iv} (hl : s.length ≤ 20000) (h : VS s) (hx : 0 ≤ x.From ∧ x.From ≤ 4398046511104 ∧ 0 ≤ x.To ∧ x.To ≤ 4398046511104) : lV s x = some (if x.To ≤ x.From then s else cutS s x):=by
  have hm : mayB x = true:=by unfold mayB; simp; omega
  unfold lV
  rw [yP (⟨x.From,x.To⟩ : Iv),show mayB (⟨x.From,x.To⟩ : Iv) = true from hm,bnoS]
  simp only [bndD,Bool.not_true,beq_self_eq_true,gdtt,pI,bnoS,Bool.false_or]
  by_cases hn : x.To ≤ x.From
  · rw [decide_eq_true hn, if_pos hn]
    simp only [tf,gdff,bnoS,Bool.true_or,cR,aB9 (show s.length ≤ 100000 by omega)]
  · rw [decide_eq_false hn, if_neg hn]
    simp only [beq_self_eq_true,gdtt,qH (show s.length ≤ 100000 by omega) h,bnoS,decide_true,Bool.not_true,Bool.or_self,cA]
    exact cut_L hl s [] fuel rfl (gC (by omega))
end Go.Fn
open Go Go.IL
namespace Go.Fn
def putS (s : List Iv) (x : Iv) : List Iv:=match s.getLast? with
  | some y=>if x.From ≤ y.To then s.dropLast ++ [⟨y.From,max y.To x.To⟩] else s ++ [x]
  | none=>s ++ [x]
theorem aBS (x : Iv) : putS [] x = [x]:=rfl
theorem aAP (p : List Iv) (y x : Iv) : putS (p ++ [y]) x = if x.From ≤ y.To then p ++ [⟨y.From,max y.To x.To⟩] else p ++ [y] ++ [x]:=by
  unfold putS; simp
theorem aAO {s : List Iv} {x : Iv} (hl : s.length ≤ 100000) (hx : x.From < x.To) : fY x s = some (putS s x):=by
  unfold fY
  rw [pI (⟨x.From,x.To⟩ : Iv),show decide ((⟨x.From,x.To⟩ : Iv).To ≤ (⟨x.From,x.To⟩ : Iv).From) = false from decide_eq_false (by show ¬ x.To ≤ x.From; omega),bnoS,cA]
  rcases List.eq_nil_or_concat s with rfl | ⟨p,y,hs⟩
  · simp only [bndD, List.length_nil, show decide ((0 : Int) < ((0 : Nat) : Int)) = false from rfl, ft, gdff, bnoS, Bool.false_and, cA]
    rw [mI (by simp) (by simp),bnoS]; rfl
  · rw [List.concat_eq_append] at hs
    subst hs
    have hlen : (p ++ [y]).length = p.length + 1:=by simp
    have hw : IntKind.wrap .i64 (((p ++ [y]).length : Int) - 1) = (p.length : Int):=by rw [hlen,w64 (by omega) (by omega)]; omega
    have hg : gix (p ++ [y]) (p.length : Int) = some y:=iP (r:=[]) rfl
    have hge : (p ++ [y])[p.length]? = some y:=by rw [List.getElem?_append_right (Nat.le_refl _)]; simp
    have hset : ∀ z : Iv,(p ++ [y]).set p.length z = p ++ [z]:=fun z=>by rw [List.set_append_right _ _ (Nat.le_refl _)]; simp
    simp only [bndD,decide_eq_true (show (0 : Int) < ((p ++ [y]).length : Int) by omega),beq_self_eq_true,gdtt,hw,hg,bnoS,Int.toNat_natCast,hge,Bool.true_and,hset]
    rw [aAP]
    by_cases h : x.From ≤ y.To
    · rw [decide_eq_true h,cR,if_pos h]
    · rw [decide_eq_false h,cA,if_neg h,mI (by simp; omega) (by simp; omega),bnoS]
theorem aAN {s : List Iv} {x : Iv} (h : VS s) (hx : x.From < x.To) (h0 : 0 ≤ x.From) (h1 : x.To ≤ 4398046511104) (hle : ∀ y ∈ s, y.From ≤ x.From) :
    VS (putS s x) ∧ (∀ n,mem n (putS s x) ↔ mem n s ∨ (x.From ≤ n ∧ n < x.To)) ∧ (∀ y ∈ putS s x,y.From ≤ x.From) ∧ (putS s x).length ≤ s.length + 1:=by
  rcases List.eq_nil_or_concat s with rfl | ⟨p,y,hs⟩
  · rw [aBS]
    refine ⟨⟨by simp,fun z hz=>?_,fun z hz=>?_,fun z hz=>?_⟩,fun n=>?_,fun z hz=>?_,by simp⟩
    · rw [List.mem_singleton.1 hz]; exact hx
    · rw [List.mem_singleton.1 hz]; exact h0
    · rw [List.mem_singleton.1 hz]; exact h1
    · constructor
      · rintro ⟨z,hz,h2⟩; rw [List.mem_singleton.1 hz] at h2; exact .inr h2
      · rintro (⟨z, hz, _⟩ | h2)
        · exact (List.not_mem_nil hz).elim
        · exact ⟨x,by simp,h2⟩
    · rw [List.mem_singleton.1 hz]; exact Int.le_refl _
  · rw [List.concat_eq_append] at hs
    subst hs
    rw [aAP]
    have hy:=hle y (by simp)
    have hyn:=h.ne y (by simp)
    have hpp:=List.pairwise_append.1 h.pw
    by_cases hc : x.From ≤ y.To
    · rw [if_pos hc]
      have hmem : ∀ z,z ∈ p ++ [(⟨y.From,max y.To x.To⟩ : Iv)] → z ∈ p ∨ z = ⟨y.From,max y.To x.To⟩:=fun z hz=>by
        rcases List.mem_append.1 hz with hz | hz
        · exact .inl hz
        · exact .inr (List.mem_singleton.1 hz)
      refine ⟨⟨?_,fun z hz=>?_,fun z hz=>?_,fun z hz=>?_⟩,fun n=>?_,fun z hz=>?_,by simp⟩
      · rw [List.pairwise_append]
        refine ⟨hpp.1,by simp,fun a ha b hb=>?_⟩
        rw [List.mem_singleton.1 hb]; exact hpp.2.2 a ha y (by simp)
      · rcases hmem z hz with hz | rfl
        · exact h.ne z (by simp [hz])
        · show y.From < max y.To x.To; omega
      · rcases hmem z hz with hz | rfl
        · exact h.lo z (by simp [hz])
        · exact h.lo y (by simp)
      · rcases hmem z hz with hz | rfl
        · exact h.hi z (by simp [hz])
        · have:=h.hi y (by simp); show max y.To x.To ≤ _; omega
      · constructor
        · rintro ⟨z, hz, h2, h3⟩
          rcases hmem z hz with hz | rfl
          · exact .inl ⟨z,by simp [hz],h2,h3⟩
          · have h2 : y.From ≤ n := h2
            have h3 : n < max y.To x.To:=h3
            by_cases h4 : n < y.To
            · exact .inl ⟨y,by simp,h2,h4⟩
            · exact .inr (by omega)
        · rintro (⟨z, hz, h2, h3⟩ | h2)
          · rcases List.mem_append.1 hz with hz | hz
            · exact ⟨z,by simp [hz],h2,h3⟩
            · rw [List.mem_singleton.1 hz] at h2 h3
              exact ⟨_,List.mem_append.2 (.inr (List.mem_singleton.2 rfl)),h2,by show n < max y.To x.To; omega⟩
          · exact ⟨_,List.mem_append.2 (.inr (List.mem_singleton.2 rfl)),by show y.From ≤ n; omega,by show n < max y.To x.To; omega⟩
      · rcases hmem z hz with hz | rfl
        · exact hle z (by simp [hz])
        · exact hy
    · rw [if_neg hc]
      refine ⟨⟨?_,fun z hz=>?_,fun z hz=>?_,fun z hz=>?_⟩,fun n=>?_,fun z hz=>?_,by simp⟩
      · rw [List.pairwise_append]
        refine ⟨h.pw,by simp,fun a ha b hb=>?_⟩
        rw [List.mem_singleton.1 hb]
        rcases List.mem_append.1 ha with ha | ha
        · have:=hpp.2.2 a ha y (by simp); omega
        · rw [List.mem_singleton.1 ha]; omega
      · rcases List.mem_append.1 hz with hz | hz
        · exact h.ne z hz
        · rw [List.mem_singleton.1 hz]; exact hx
      · rcases List.mem_append.1 hz with hz | hz
        · exact h.lo z hz
        · rw [List.mem_singleton.1 hz]; exact h0
      · rcases List.mem_append.1 hz with hz | hz
        · exact h.hi z hz
        · rw [List.mem_singleton.1 hz]; exact h1
      · constructor
        · rintro ⟨z, hz, h2⟩
          rcases List.mem_append.1 hz with hz | hz
          · exact .inl ⟨z,hz,h2⟩
          · rw [List.mem_singleton.1 hz] at h2; exact .inr h2
        · rintro (⟨z, hz, h2⟩ | h2)
          · exact ⟨z,List.mem_append.2 (.inl hz),h2⟩
          · exact ⟨x,List.mem_append.2 (.inr (by simp)),h2⟩
      · rcases List.mem_append.1 hz with hz | hz
        · exact hle z hz
        · rw [List.mem_singleton.1 hz]; exact Int.le_refl _
theorem mem_app {n : Int} {p : List Iv} {y : Iv} : mem n (p ++ [y]) ↔ mem n p ∨ (y.From ≤ n ∧ n < y.To):=by
  constructor
  · rintro ⟨z, hz, h2⟩
    rcases List.mem_append.1 hz with hz | hz
    · exact .inl ⟨z,hz,h2⟩
    · rw [List.mem_singleton.1 hz] at h2; exact .inr h2
  · rintro (⟨z, hz, h2⟩ | h2)
    · exact ⟨z,List.mem_append.2 (.inl hz),h2⟩
    · exact ⟨y,List.mem_append.2 (.inr (by simp)),h2⟩
theorem add_L {s : List Iv} {x : Iv} (hl : s.length ≤ 20000) (h : VS s) (hx : x.From < x.To) (h0 : 0 ≤ x.From) (h1 : x.To ≤ 4398046511104) : ∀ (r p : List Iv) (f : Nat) (out : List Iv) (laid : Bool), s = p ++ r → r.length < f → VS out →
    (∀ y ∈ out,∀ z ∈ r,y.From ≤ z.From) → (laid = false → ∀ y ∈ out,y.From ≤ x.From) → (∀ n,mem n out ↔ mem n p ∨ (laid = true ∧ x.From ≤ n ∧ n < x.To)) → out.length ≤ p.length + 1 → (laid = false → out.length ≤ p.length) →
    ∃ t,fK s x f out laid (p.length : Int) = some t ∧ VS t ∧ (∀ n,mem n t ↔ mem n s ∨ (x.From ≤ n ∧ n < x.To)) ∧ t.length ≤ s.length + 1:=by
  intro r
  induction r with
  | nil =>
    intro p f out laid hs hf hv ha hb hm hc hd
    obtain ⟨f,rfl⟩ : ∃ g,f = g + 1:=⟨f - 1,by simp at hf; omega⟩
    have hps : p = s:=by rw [hs,List.append_nil]
    subst hps
    unfold fK
    simp only [bndD,oY,cA]
    cases laid
    · obtain ⟨v1, v2, v3, v4⟩ := aAN hv hx h0 h1 (hb rfl)
      have:=hd rfl
      refine ⟨putS out x,?_,v1,fun n=>?_,by omega⟩
      · rw [Bool.not_false,cR,aAO (x:=(⟨x.From,x.To⟩ : Iv)) (by omega) hx,bnoS]
      · rw [v2,hm]; simp
    · refine ⟨out, by rw [Bool.not_true, cA], hv, fun n => ?_, hc⟩
      rw [hm]; simp
  | cons y r ih =>
    intro p f out laid hs hf hv ha hb hm hc hd
    obtain ⟨f,rfl⟩ : ∃ g,f = g + 1:=⟨f - 1,by simp at hf; omega⟩
    have hpl : p.length + (r.length + 1) = s.length:=by rw [hs]; simp
    have hym : y ∈ s:=by rw [hs]; simp
    have hyn:=h.ne y hym
    have hyr : ∀ z ∈ r,y.From ≤ z.From:=fun z hz=>by
      have:=h.pw
      rw [hs] at this
      have:=(List.pairwise_cons.1 (List.pairwise_append.1 this).2.1).1 z hz
      omega
    unfold fK
    simp only [bndD,nT hs,cR,iP hs,bnoS]
    have fin : ∀ (o1 : List Iv) (l1 : Bool),VS o1 → (∀ z ∈ o1,z.From ≤ y.From) → (l1 = false → y.From ≤ x.From) → (∀ n,mem n o1 ↔ mem n p ∨ (l1 = true ∧ x.From ≤ n ∧ n < x.To)) → o1.length ≤ p.length + 1 → (l1 = false → o1.length ≤ p.length) →
        ∃ t,jV (p.length : Int) (fK s x f) y o1 l1 = some t ∧ VS t ∧ (∀ n,mem n t ↔ mem n s ∨ (x.From ≤ n ∧ n < x.To)) ∧ t.length ≤ s.length + 1:=fun o1 l1 b1 b2 b3 b4 b5 b6=>by
      obtain ⟨v1,v2,v3,v4⟩:=aAN b1 hyn (h.lo y hym) (h.hi y hym) b2
      unfold jV
      rw [aAO (x:=(⟨y.From,y.To⟩ : Iv)) (by omega) hyn,bnoS,bndD,w_at hs (by omega)]
      refine ih (p ++ [y]) f (putS o1 y) l1 (iM hs) (by simpa using hf) v1 (fun z hz w hw=>?_) (fun hl1 z hz=>?_) (fun n=>?_) ?_ (fun hl1=>?_)
      · have:=v3 z hz; have:=hyr w hw; omega
      · have:=v3 z hz; have:=b3 hl1; omega
      · rw [v2, b4, mem_app]
        constructor
        · rintro ((h5 | h5) | h5)
          · exact .inl (.inl h5)
          · exact .inr h5
          · exact .inl (.inr h5)
        · rintro ((h5 | h5) | h5)
          · exact .inl (.inl h5)
          · exact .inr h5
          · exact .inl (.inr h5)
      · rw [List.length_append,List.length_singleton]; omega
      · have:=b6 hl1; rw [List.length_append,List.length_singleton]; omega
    by_cases hcond : laid = false ∧ x.From ≤ y.From
    · rw [hcond.1, decide_eq_true hcond.2]
      obtain ⟨v1,v2,v3,v4⟩:=aAN hv hx h0 h1 (hb hcond.1)
      have:=hd hcond.1
      simp only [Bool.not_false,Bool.and_self,cR]
      rw [aAO (x:=(⟨x.From,x.To⟩ : Iv)) (by omega) hx,bnoS]
      refine fin (putS out x) true v1 (fun z hz=>by have:=v3 z hz; omega) (fun h=>by cases h) (fun n=>?_) (by omega) (fun h=>by cases h)
      rw [v2,hm,hcond.1]; simp
    · rw [show (!laid && decide (x.From ≤ y.From)) = false by
        cases laid
        · simp only [true_and] at hcond; rw [decide_eq_false hcond]; rfl
        · rfl,cA]
      refine fin out laid hv (fun z hz=>ha z hz y (by simp)) (fun hl1=>?_) hm hc hd
      simp only [hl1,true_and] at hcond; omega
theorem add_eq {s : List Iv} {x : Iv} (hl : s.length ≤ 20000) (h : VS s) (h0 : 0 ≤ x.From) (h1 : x.To ≤ 4398046511104) (hx : x.From ≤ x.To) :
    ∃ t,oK s x = some t ∧ VS t ∧ (∀ n,mem n t ↔ mem n s ∨ (x.From ≤ n ∧ n < x.To)) ∧ (x.From = x.To → t = s) ∧ t.length ≤ s.length + 1:=by
  have hm : mayB x = true:=by unfold mayB; simp; omega
  unfold oK
  rw [yP (⟨x.From,x.To⟩ : Iv),show mayB (⟨x.From,x.To⟩ : Iv) = true from hm,bnoS]
  simp only [bndD,Bool.not_true,beq_self_eq_true,gdtt,pI,bnoS,Bool.false_or]
  by_cases hn : x.To ≤ x.From
  · rw [decide_eq_true hn]
    refine ⟨s,?_,h,fun n=>⟨.inl,fun h=>by rcases h with h | h; exact h; omega⟩,fun _=>rfl,by omega⟩
    simp only [tf,gdff,bnoS,Bool.true_or,cR,aB9 (show s.length ≤ 100000 by omega)]
  · rw [decide_eq_false hn]
    obtain ⟨t,e1,e2,e3,e4⟩:=add_L hl h (by omega) h0 h1 s [] fuel [] false rfl (gC (by omega)) VS.nil (fun _ h=>(List.not_mem_nil h).elim) (fun _ _ h=>(List.not_mem_nil h).elim) (fun n=>by simp) (by simp) (fun _=>by simp)
    refine ⟨t,?_,e2,e3,fun h=>by omega,e4⟩
    simp only [beq_self_eq_true,gdtt,qH (show s.length ≤ 100000 by omega) h,bnoS,decide_true,Bool.not_true,Bool.or_self,cA]
    exact e1
theorem aCB {s : List Iv} {x : Iv} (hl : s.length ≤ 20000) (h : VS s) (hx : x.From < x.To) (h0 : 0 ≤ x.From) (h1 : x.To ≤ 4398046511104) (hd : ∀ y ∈ s,y.To ≤ x.From ∨ x.To ≤ y.From) : ∀ (r p : List Iv) (f : Nat),s = p ++ r → r.length < f → gN s f [x] (p.length : Int) = some [x]
  | [], p, f + 1, hs, _ => by
    unfold gN
    simp only [bndD,qB hs,cA]
  | y :: r, p, f + 1, hs, hf => by
    have hym : y ∈ s:=by rw [hs]; simp
    have hyn:=h.ne y hym
    have a1:=h.lo y hym
    have a2:=h.hi y hym
    have hdy:=hd y hym
    have hv : VS [x]:=⟨by simp,fun z hz=>by rw [List.mem_singleton.1 hz]; exact hx,fun z hz=>by rw [List.mem_singleton.1 hz]; exact h0,fun z hz=>by rw [List.mem_singleton.1 hz]; exact h1⟩
    unfold gN
    simp only [bndD,nT hs,cR,iP hs,bnoS]
    rw [aA3 (x:=(⟨y.From,y.To⟩ : Iv)) (by simp) hv ⟨a1,by show y.From ≤ _; omega,by show 0 ≤ y.To; omega,a2⟩,if_neg (by show ¬ y.To ≤ y.From; omega),aA6 (x:=(⟨y.From,y.To⟩ : Iv)) (fun z hz=>by rw [List.mem_singleton.1 hz]; exact ⟨hx,by show x.To ≤ y.From ∨ y.To ≤ x.From; omega⟩) hyn,bnoS,w_at hs (by omega)]
    exact aCB hl h hx h0 h1 hd r (p ++ [y]) f (iM hs) (by simpa using hf)
theorem gaps_eq {s : List Iv} {x : Iv} (hl : s.length ≤ 20000) (h : VS s) (hx : x.From < x.To) (h0 : 0 ≤ x.From) (h1 : x.To ≤ 4398046511104) (hd : ∀ n,x.From ≤ n → n < x.To → ¬ mem n s) : mY s x = some [x]:=by
  have hm : mayB x = true:=by unfold mayB; simp; omega
  have hd2 : ∀ y ∈ s,y.To ≤ x.From ∨ x.To ≤ y.From:=fun y hy=>by
    have hyn:=h.ne y hy
    by_cases hc : y.To ≤ x.From ∨ x.To ≤ y.From
    · exact hc
    · exact absurd ⟨y,hy,by omega,by omega⟩ (hd (max x.From y.From) (by omega) (by omega))
  unfold mY
  rw [yP (⟨x.From,x.To⟩ : Iv),show mayB (⟨x.From,x.To⟩ : Iv) = true from hm,bnoS]
  simp only [bndD,Bool.not_true,beq_self_eq_true,gdtt,qH (show s.length ≤ 100000 by omega) h,bnoS,decide_true,Bool.or_self,pI,decide_eq_false (show ¬ x.To ≤ x.From by omega),cA]
  exact aCB hl h hx h0 h1 hd2 s [] fuel rfl (gC (by omega))
theorem isame {l m : List Iv} (hl : l.length ≤ 1000000) : lJ l m = some (decide (l = m)):=by
  have heq : ∀ x y : Iv,(decide (x.From = y.From) && (decide (x.To = y.To) && true)) = decide (x = y):=fun x y=>by
    obtain ⟨a,b⟩:=x; obtain ⟨c,d⟩:=y; rw [Bool.eq_iff_iff]; simp
  have:=aAw (L:=cJ l m) (m:=m) (z:=true) hl (fun p x r s y t f h k e=>by
    rw [cJ]
    simp only [bndD,nT h,cR,iP h,show gix m (p.length : Int) = some y by rw [e]; exact iP k,bnoS,heq,w_at h hl]) (fun _ f=>by
    rw [cJ]
    simp only [bndD,oY,cA])
  rw [Bool.and_true] at this
  have this : eB l m = _:=this
  unfold lJ
  rw [this,bnoS]
end Go.Fn
open Go Go.IL
namespace Go.Fn
def endS (s : S23) : Int:=s.Base + (s.Data.length : Int)
def fins (l : List Pc) : Nat:=(l.filter (·.Fin)).length
structure G (s : S23) : Prop where
  b0 : 0 ≤ s.Base
  bn : s.Base ≤ s.Next
  nd : s.Next ≤ endS s
  en : endS s ≤ 1099511623680
  dl : s.Data.length ≤ 4096
  lv : VS s.Lost
  lb : ∀ x ∈ s.Lost,s.Base ≤ x.From ∧ x.To ≤ s.Next
  pw : s.Pieces.Pairwise (fun p q=>p.To ≤ q.From)
  pb : ∀ p ∈ s.Pieces,(s.Base ≤ p.From ∧ p.From ≤ p.To ∧ p.To ≤ s.Next) ∧ 0 ≤ p.Path ∧ p.Path < 4
  pf : ∀ p ∈ s.Pieces,p.From = p.To → p.Fin = true
  pd : ∀ p ∈ s.Pieces,∀ n,p.From ≤ n → n < p.To → ¬ mem n s.Lost
  fe : ∀ p ∈ s.Pieces,p.Fin = true → p.To = endS s
  fc : fins s.Pieces = if s.Sent = true ∧ s.Again = false ∧ s.Done = false then 1 else 0
  se : s.Sent = true → s.Closed = true ∧ s.Next = endS s ∧ ¬ (s.Again = true ∧ s.Done = true)
  ns : s.Sent = false → s.Again = false ∧ s.Done = false
  cov : ∀ n,s.Base ≤ n → n < s.Next → mem n s.Lost ∨ ∃ p ∈ s.Pieces,p.From ≤ n ∧ n < p.To
theorem aB7 : ∀ {l : List Pc} {a b : Int},l.Pairwise (fun p q=>p.To ≤ q.From) → (∀ p ∈ l,a ≤ p.From ∧ p.From ≤ p.To ∧ p.To ≤ b) → (∀ p ∈ l,p.From = p.To → p.Fin = true) → a ≤ b → (l.length : Int) ≤ b - a + fins l
  | [],a,b,_,_,_,h=>by simp [fins]; omega
  | x :: l, a, b, hp, hb, hf, hab => by
    have hp:=List.pairwise_cons.1 hp
    have h1:=hb x (by simp)
    have:=aB7 (l:=l) (a:=x.To) (b:=b) hp.2 (fun y hy=>⟨hp.1 y hy,(hb y (by simp [hy])).2⟩) (fun y hy=>hf y (by simp [hy])) h1.2.2
    have hf1 : fins (x :: l) = fins l + if x.Fin = true then 1 else 0:=by unfold fins; rw [List.filter_cons]; split <;> simp
    rw [hf1]
    by_cases he : x.From = x.To
    · rw [if_pos (hf x (by simp) he)]
      simp only [List.length_cons]; omega
    · simp only [List.length_cons]; split <;> omega
theorem G.ll {s : S23} (h : G s) : s.Lost.length ≤ 4096:=by
  have h1:=vS h.lv.pw h.lv.ne h.lb h.bn
  have h2:=h.nd
  have h3:=h.dl
  unfold endS at h2; omega
theorem G.pl {s : S23} (h : G s) : s.Pieces.length ≤ 4097:=by
  have h1:=aB7 h.pw (fun p hp=>(h.pb p hp).1) h.pf h.bn
  have h2:=h.nd
  have h3:=h.dl
  have h4 : fins s.Pieces ≤ 1:=by rw [h.fc]; split <;> omega
  unfold endS at h2; omega
theorem G.num {s : S23} (h : G s) : 0 ≤ s.Base ∧ s.Base ≤ s.Next ∧ s.Next ≤ endS s ∧ endS s ≤ 1099511623680:=⟨h.b0,h.bn,h.nd,h.en⟩
theorem mF {s : S23} (h : G s) : eI s = some (endS s):=by
  obtain ⟨h1,h2,h3,h4⟩:=h.num
  unfold eI
  rw [bndD]; unfold endS at *; rw [w64 (by omega) (by omega)]
theorem zM {s : S23} (hp : s.Pieces.length ≤ 100000) (hl : s.Lost.length ≤ 100000) : eO s = some (s.Base,s.Data,s.Next,s.Pieces,s.Lost,s.Closed,s.Sent,s.Again,s.Done):=by
  unfold eO
  have e : cpy (List.replicate s.Pieces.length (⟨0,0,0,false⟩ : Pc)) s.Pieces = s.Pieces:=by
    unfold cpy
    rw [List.length_replicate,List.take_length,List.drop_of_length_le (by rw [List.length_replicate]; exact Nat.le_refl _),List.append_nil]
  rw [made_ok (by omega) (by omega) (by omega),bnoS,Int.toNat_natCast,bndD,e,iclone2 hl,bnoS]
theorem lost23 {s : S23} (h : G s) : iQ s = some true:=by
  have hl:=h.ll
  unfold iQ
  rw [qH (by omega) h.lv,bnoS]
  simp only [bndD,decide_true,Bool.not_true,cA]
  cases hs : s.Lost with
  | nil=>rfl
  | cons x r =>
    obtain ⟨p,y,hy⟩ : ∃ p y,x :: r = p ++ [y]:=by
      rcases List.eq_nil_or_concat (x :: r) with h | ⟨p,y,h⟩
      · cases h
      · exact ⟨p,y,by rw [h,List.concat_eq_append]⟩
    have hlen : ((x :: r).length : Int) = (p.length : Int) + 1:=by rw [hy]; simp
    have hpl : p.length ≤ 5000:=by rw [hs,hy] at hl; simp at hl; omega
    have hw : IntKind.wrap .i64 (((x :: r).length : Int) - 1) = (p.length : Int):=by rw [hlen,w64 (by omega) (by omega)]; omega
    have hg : gix (x :: r) (p.length : Int) = some y:=iP (r:=[]) hy
    have h0 : gix (x :: r) 0 = some x:=rfl
    have hx:=h.lb x (by rw [hs]; simp)
    have hyb:=h.lb y (by rw [hs,hy]; simp)
    simp only [decide_eq_false (show ¬ ((x :: r).length : Int) = 0 by omega),beq_self_eq_true,gdtt,h0,bnoS,decide_eq_true hx.1,Bool.and_self,hw,hg,decide_eq_true hyb.2,Bool.or_true]
theorem fits23 {s : S23} (h : G s) {p : Pc} (hp : p ∈ s.Pieces) {at_ : Int} (ha : at_ ≤ p.From) : iR s p at_ = some true:=by
  obtain ⟨⟨a1,a2,a3⟩,a4,a5⟩:=h.pb p hp
  obtain ⟨n1,n2,n3,n4⟩:=h.num
  have hl:=h.ll
  unfold iR lO eW
  simp only [bndD,decide_eq_false (show ¬ p.From < at_ by omega),decide_eq_false (show ¬ p.To < p.From by omega),decide_eq_false (show ¬ s.Next < p.To by omega),Bool.or_self,beq_self_eq_true,gdtt,decide_eq_true a4,decide_eq_true a5,Bool.and_self,bnoS,Bool.not_true,cA]
  by_cases he : p.From = p.To
  · rw [decide_eq_true he,cR,h.pf p hp he]
  · rw [decide_eq_false he,cA,gaps_eq (x:=(⟨p.From,p.To⟩ : Iv)) (by omega) h.lv (by show p.From < p.To; omega) (by show 0 ≤ p.From; omega) (by show p.To ≤ _; omega) (h.pd p hp),bnoS,isame (by simp),bnoS,decide_eq_true rfl]
theorem rZ (l m : List Pc) : fins (l ++ m) = fins l + fins m:=by unfold fins; rw [List.filter_append,List.length_append]
theorem aCC {s : S23} (h : G s) : ∀ (r p : List Pc) (f : Nat),s.Pieces = p ++ r → r.length < f → eC s f (fins p : Int) (p.length : Int) = some true
  | [], p, f + 1, hs, _ => by
    unfold eC
    rw [List.append_nil] at hs
    have hc:=h.fc
    rw [hs] at hc
    simp only [bndD,show decide ((p.length : Int) < (s.Pieces.length : Int)) = false by rw [hs]; exact oY,cA]
    cases hS : s.Sent
    · obtain ⟨h1, h2⟩ := h.ns hS
      rw [hS] at hc
      simp at hc
      simp [hc,h1,h2]
    · obtain ⟨h1, h2, h3⟩ := h.se hS
      rw [hS] at hc
      simp only [h1,Bool.not_true,cA,beq_self_eq_true,gdtt,mF h,bnoS,decide_eq_true h2,Bool.or_self,Bool.false_or]
      cases hA : s.Again <;> cases hD : s.Done <;> rw [hA,hD] at hc h3 <;> simp at hc h3 <;> simp [hc]
  | x :: r, p, f + 1, hs, hf => by
    have hx : x ∈ s.Pieces:=by rw [hs]; simp
    have hpl:=h.pl
    have hpp : p.length + (r.length + 1) = s.Pieces.length:=by rw [hs]; simp
    have hfl : fins p ≤ p.length:=List.length_filter_le _ _
    have ih:=aCC h r (p ++ [x]) f (iM hs) (by simpa using hf)
    rw [rZ] at ih
    unfold eC
    simp only [bndD,nT hs,cR,iP hs,bnoS,mF h,w_at hs (show s.Pieces.length ≤ 1000000 by omega)]
    cases hF : x.Fin
    · rw [cA]
      have : fins [x] = 0:=by simp [fins,hF]
      rw [this] at ih; exact ih
    · have : fins [x] = 1 := by simp [fins, hF]
      rw [this] at ih
      rw [cR,decide_eq_true (h.fe x hx hF),Bool.not_true,cA,w64 (by omega) (by omega)]
      exact ih
theorem yY {s : S23} (h : G s) : ∀ (r p : List Pc) (f : Nat) (at_ : Int),s.Pieces = p ++ r → r.length < f → (∀ q ∈ r,at_ ≤ q.From) → gG s f at_ (p.length : Int) = some 0
  | [], p, f + 1, at_, hs, _, _ => by
    unfold gG
    have he:=aCC h s.Pieces [] fuel rfl (gC (by have:=h.pl; omega))
    have he : jZ s = some true:=he
    simp only [bndD,qB hs,cA,he,bnoS,Bool.not_true]
  | x :: r, p, f + 1, at_, hs, hf, ha => by
    have hx : x ∈ s.Pieces:=by rw [hs]; simp
    have hpl:=h.pl
    unfold gG
    simp only [bndD,nT hs,cR,iP hs,bnoS,fits23 h hx (ha x (by simp)),Bool.not_true,cA,w_at hs (show s.Pieces.length ≤ 1000000 by omega)]
    refine yY h r (p ++ [x]) f x.To (iM hs) (by simpa using hf) (fun q hq=>?_)
    have:=h.pw
    rw [hs] at this
    exact (List.pairwise_cons.1 (List.pairwise_append.1 this).2.1).1 q hq
theorem pN {s : S23} (h : G s) : hG s = some 0:=by
  obtain ⟨n1,n2,n3,n4⟩:=h.num
  have hd:=h.dl
  have e : endS s = s.Base + (s.Data.length : Int):=rfl
  unfold hG iD
  simp only [bndD,decide_eq_false (show ¬ s.Base < 0 by omega),decide_eq_false (show ¬ 1099511623680 < s.Base by omega),decide_eq_false (show ¬ s.Next < s.Base by omega),w64 (show -9223372036854775808 ≤ s.Next - s.Base by omega) (by omega),decide_eq_false (show ¬ (s.Data.length : Int) < s.Next - s.Base by omega),decide_eq_false (show ¬ (4096 : Int) < (s.Data.length : Int) by omega),cA,lost23 h,bnoS,Bool.not_true]
  exact yY h s.Pieces [] fuel s.Base rfl (gC (by have:=h.pl; omega)) (fun q hq=>(h.pb q hq).1.1)
def aBW : S23:=⟨0,[],0,[],[],false,false,false,false⟩
theorem g_new : G aBW:=⟨by decide,by decide,by decide,by decide,by decide,VS.nil,fun _ h=>(List.not_mem_nil h).elim,.nil,fun _ h=>(List.not_mem_nil h).elim,fun _ h=>(List.not_mem_nil h).elim,fun _ h=>(List.not_mem_nil h).elim,fun _ h=>(List.not_mem_nil h).elim,rfl,fun h=>(by cases h),fun _=>⟨rfl,rfl⟩,fun n h1 h2=>by have h1 : (0 : Int) ≤ n:=h1; have h2 : n < 0:=h2; omega⟩
def pS (s : S23) : Int:=if s.Closed = true then 0 else 4096 - (s.Data.length : Int)
theorem room23 {s : S23} (h : G s) : nY s = some (pS s):=by
  have hd:=h.dl
  unfold nY pS
  cases s.Closed
  · rw [cA,bndD,w64 (by omega) (by omega)]; rfl
  · rfl
def writeN (s : S23) (str : List UInt8) : Nat:=if endS s ≤ 1099511623680 - min (pS s) (str.length : Int) then (min (pS s) (str.length : Int)).toNat else 0
def rC (s : S23) (str : List UInt8) : S23:=⟨s.Base,s.Data ++ str.take (writeN s str),s.Next,s.Pieces,s.Lost,s.Closed,s.Sent,s.Again,s.Done⟩
theorem qP {s : S23} (h : G s) : 0 ≤ pS s ∧ pS s ≤ 4096 - (s.Data.length : Int):=by
  have hd:=h.dl
  unfold pS; split <;> omega
theorem sD {s : S23} (h : G s) (str : List UInt8) : (writeN s str : Int) ≤ pS s ∧ writeN s str ≤ str.length:=by
  have:=qP h
  unfold writeN; split <;> omega
theorem write23 {s : S23} (h : G s) (str : List UInt8) (hs : str.length ≤ 100000) : mO s str = some (rC s str,(writeN s str : Int)):=by
  have hp:=h.pl
  have hl:=h.ll
  have hr:=qP h
  have hd:=h.dl
  obtain ⟨n1,n2,n3,n4⟩:=h.num
  unfold mO
  rw [zM (by omega) (by omega),bnoS,pN h,bnoS]
  simp only [bndD,decide_true,Bool.not_true,cA,room23 h,bnoS,mF h,w64 (show -9223372036854775808 ≤ 1099511623680 - min (pS s) (str.length : Int) by omega) (by omega)]
  unfold rC writeN
  by_cases hc : endS s ≤ 1099511623680 - min (pS s) (str.length : Int)
  · rw [decide_eq_false (by omega), cA, if_pos hc]
    obtain ⟨k,hk⟩ : ∃ k : Nat,min (pS s) (str.length : Int) = (k : Int):=⟨(min (pS s) (str.length : Int)).toNat,by omega⟩
    have hkl : k ≤ str.length:=by omega
    have hcat : cat s.Data (str.take k) = some (s.Data ++ str.take k):=by unfold cat; rw [if_pos (by rw [List.length_take]; omega)]
    rw [hk,vL hkl,bnoS,hcat,bnoS,Int.toNat_natCast]
  · rw [decide_eq_true (by omega), cR, if_neg hc]
    simp
theorem aAv {s : S23} (h : G s) (str : List UInt8) : G (rC s str) := by
  obtain ⟨k1,k2⟩:=sD h str
  have hr:=qP h
  obtain ⟨n1,n2,n3,n4⟩:=h.num
  have hd:=h.dl
  have hdl : (rC s str).Data.length = s.Data.length + writeN s str:=by show (s.Data ++ str.take _).length = _; rw [List.length_append,List.length_take]; omega
  have he : endS (rC s str) = endS s + writeN s str:=by unfold endS; rw [hdl]; show s.Base + _ = _; omega
  have hen : endS s + writeN s str ≤ 1099511623680:=by unfold writeN; split <;> omega
  have hcl : s.Closed = true → writeN s str = 0 := fun hc => by have : pS s = 0 := by unfold pS; rw [if_pos hc]
                                                                omega
  refine ⟨h.b0,h.bn,by rw [he]; show s.Next ≤ _; omega,by rw [he]; exact hen,by rw [hdl]; omega,h.lv,h.lb,h.pw,h.pb,h.pf,h.pd,fun p hp hF=>?_,h.fc,fun hS=>?_,h.ns,h.cov⟩
  · rw [he, h.fe p hp hF]
    have : s.Sent = true:=by
      cases hS : s.Sent
      · have hc := h.fc
        rw [hS] at hc; simp at hc
        have : p ∈ s.Pieces.filter (·.Fin):=List.mem_filter.2 ⟨hp,hF⟩
        rw [List.length_eq_zero_iff.1 hc] at this
        exact (List.not_mem_nil this).elim
      · rfl
    rw [hcl (h.se this).1]; omega
  · obtain ⟨a1, a2, a3⟩ := h.se hS
    refine ⟨a1,?_,a3⟩
    rw [he,hcl a1]; show s.Next = _; omega
def rN (s : S23) : S23:=⟨s.Base,s.Data,s.Next,s.Pieces,s.Lost,true,s.Sent,s.Again,s.Done⟩
theorem close23 {s : S23} (h : G s) : mP s = some (rN s):=by
  have hp:=h.pl
  have hl:=h.ll
  unfold mP rN
  rw [zM (by omega) (by omega),bnoS]
  simp only [bndD,pN h]
  cases s.Closed
  · simp only [beq_self_eq_true,gdtt,bnoS,decide_true,Bool.or_true]
  · simp only [tf,gdff,bnoS,Bool.true_or]
theorem g_close {s : S23} (h : G s) : G (rN s):=⟨h.b0,h.bn,h.nd,h.en,h.dl,h.lv,h.lb,h.pw,h.pb,h.pf,h.pd,h.fe,h.fc,fun hS=>⟨rfl,(h.se hS).2⟩,h.ns,h.cov⟩
end Go.Fn
open Go Go.IL
namespace Go.Fn
def dueS (s : S23) : Bool:=if (!s.Closed || s.Done) = true then false else s.Again || !s.Sent
theorem due23 (s : S23) : iJ s = some (dueS s):=by
  unfold iJ dueS
  simp only [bndD]
  cases !s.Closed || s.Done <;> rfl
theorem aA1 {s : S23} (h : dueS s = true) : s.Closed = true ∧ s.Done = false ∧ (s.Again = true ∨ s.Sent = false):=by
  unfold dueS at h
  cases hC : s.Closed <;> cases hD : s.Done <;> rw [hC,hD] at h <;> simp at h
  exact ⟨rfl,rfl,by simpa using h⟩
def eV (s : S23) (most limit : Int) : Pc × Bool:=match s.Lost with
  | x :: _=>(⟨x.From,x.From + min most (x.To - x.From),0,false⟩,true)
  | []=>if 0 < endS s - s.Next then (⟨s.Next,s.Next + min (min (endS s - s.Next) most) (max limit s.Next - s.Next),0,false⟩,decide (0 < min (min (endS s - s.Next) most) (max limit s.Next - s.Next))) else (⟨s.Next,s.Next,0,false⟩,dueS s)
theorem aB8 {s : S23} (h : G s) {most limit : Int} (hm : 1 ≤ most ∧ most ≤ 1000000) (hl : 0 ≤ limit ∧ limit ≤ 4398046511104) : gZ s most limit = some (eV s most limit):=by
  obtain ⟨n1,n2,n3,n4⟩:=h.num
  unfold gZ eV
  cases hs : s.Lost with
  | cons x r =>
    have hx : x ∈ s.Lost:=by rw [hs]; simp
    have a1:=h.lv.ne x hx
    have a2:=h.lb x hx
    have h0 : gix (x :: r) 0 = some x:=rfl
    simp only [bndD,decide_eq_true (show (0 : Int) < ((x :: r).length : Int) by simp only [List.length_cons]; omega),cR,h0,bnoS,w64 (show -9223372036854775808 ≤ x.To - x.From by omega) (by omega),w64 (show -9223372036854775808 ≤ x.From + min most (x.To - x.From) by omega) (by omega)]
  | nil =>
    simp only [bndD,List.length_nil,show decide ((0 : Int) < ((0 : Nat) : Int)) = false from rfl,cA,mF h,bnoS,w64 (show -9223372036854775808 ≤ endS s - s.Next by omega) (by omega)]
    by_cases hc : 0 < endS s - s.Next
    · rw [decide_eq_true hc,cR,if_pos hc,w64 (show -9223372036854775808 ≤ max limit s.Next - s.Next by omega) (by omega),w64 (show -9223372036854775808 ≤ s.Next + min (min (endS s - s.Next) most) (max limit s.Next - s.Next) by omega) (by omega)]
    · rw [decide_eq_false hc,cA,if_neg hc,due23,bnoS]
def before (p q : Pc) : Bool:=decide (p.From < q.From) || (decide (q.From = p.From) && decide (p.To ≤ q.To))
theorem place23 {s : S23} (h : G s) (p : Pc) (hp : p.From ≤ endS s) (hp2 : p.From = endS s → p.To ≤ endS s) : ∃ A B : List Pc, s.Pieces = A ++ B ∧ (∀ a ∈ A, before p a = false) ∧ (∀ b B', B = b :: B' → before p b = true) ∧ iH s p = some (A.length : Int) := by
  obtain ⟨n1,n2,n3,n4⟩:=h.num
  have hpl:=h.pl
  have hsent : before p (⟨endS s,endS s + 1,0,false⟩ : Pc) = true:=by
    unfold before
    by_cases he : p.From = endS s
    · have := hp2 he
      simp [he]; omega
    · simp; left; omega
  rcases rY (L:=bP (s.Pieces ++ [(⟨endS s,endS s + 1,0,false⟩ : Pc)]) p) (q:=before p) (l:=s.Pieces ++ [(⟨endS s,endS s + 1,0,false⟩ : Pc)]) (fun p' x r f hh=>by
      rw [bP]
      have hx : iN x p = some (before p x):=rfl
      simp only [bndD,nT hh,cR,iP hh,bnoS,hx,w_at hh (by simp; omega)]) (fun f=>by
      rw [bP]
      simp only [bndD,oY,cA]) (s.Pieces ++ [(⟨endS s,endS s + 1,0,false⟩ : Pc)]) [] fuel rfl (gC (by simp; omega)) (fun _ h=>(List.not_mem_nil h).elim) with ⟨_,e2⟩ | ⟨a,x,t,e1,e2,e3,e4⟩
  · have := e2 _ (List.mem_append.2 (.inr (List.mem_singleton.2 rfl)))
    rw [hsent] at this; cases this
  · have hal : a.length ≤ s.Pieces.length := by have := congrArg List.length e1; simp at this; omega
    have hA : a = s.Pieces.take a.length:=by
      have:=congrArg (List.take a.length) e1
      rw [List.take_append_of_le_length hal,List.take_append_of_le_length (Nat.le_refl _),List.take_length] at this
      exact this.symm
    refine ⟨a,s.Pieces.drop a.length,by conv=>lhs; rw [← List.take_append_drop a.length s.Pieces,← hA],e2,fun b B' hb=>?_,?_⟩
    · have h5 : (s.Pieces ++ [(⟨endS s, endS s + 1, 0, false⟩ : Pc)])[a.length]? = some x := by rw [e1, List.getElem?_append_right (Nat.le_refl _)]; simp
      have hlt : a.length < s.Pieces.length:=by
        have:=congrArg List.length hb
        rw [List.length_drop,List.length_cons] at this; omega
      rw [List.getElem?_append_left hlt] at h5
      have h6 : (s.Pieces.drop a.length)[0]? = some x:=by rw [List.getElem?_drop]; simpa using h5
      rw [hb] at h6
      have : b = x:=by simpa using h6
      rw [this]; exact e3
    · unfold iH dF
      have hc:=vL (l:=s.Pieces) (Nat.le_refl _)
      rw [List.take_length] at hc
      simp only [bndD,hc,bnoS,mF h,w64 (show -9223372036854775808 ≤ endS s + 1 by omega) (by omega)]
      rw [mI (by simp; omega) (by simp; omega),bnoS]
      have e4 : bP (s.Pieces ++ [(⟨endS s,endS s + 1,0,false⟩ : Pc)]) p fuel 0 = _:=e4
      rw [e4,bnoS]
structure Pk (s : S23) (p : Pc) (lost : List Iv) : Prop where
  lo : s.Base ≤ p.From
  le : p.From ≤ p.To
  nx : p.From ≤ s.Next
  hi : p.To ≤ endS s
  pa : 0 ≤ p.Path ∧ p.Path < 4
  em : p.From = p.To → p.From = s.Next ∧ p.Fin = true
  dj : ∀ q ∈ s.Pieces,∀ n,p.From ≤ n → n < p.To → ¬ (q.From ≤ n ∧ n < q.To)
  fi : p.Fin = (decide (p.To = endS s) && dueS s)
  lv : VS lost
  lb : ∀ x ∈ lost,s.Base ≤ x.From ∧ x.To ≤ s.Next
  lm : ∀ n,mem n lost ↔ mem n s.Lost ∧ ¬ (p.From ≤ n ∧ n < p.To)
def iO (s : S23) (p : Pc) (lost : List Iv) (A B : List Pc) : S23:=⟨s.Base,s.Data,max s.Next p.To,A ++ [p] ++ B,lost,s.Closed,if p.Fin = true then true else s.Sent,if p.Fin = true then false else s.Again,s.Done⟩
theorem g_pick {s : S23} (h : G s) {p : Pc} {lost : List Iv} {A B : List Pc} (k : Pk s p lost) (hs : s.Pieces = A ++ B) (hA : ∀ a ∈ A, before p a = false) (hB : ∀ b B', B = b :: B' → before p b = true) : G (iO s p lost A B) := by
  obtain ⟨n1,n2,n3,n4⟩:=h.num
  have he : endS (iO s p lost A B) = endS s:=rfl
  have hmem : ∀ q,q ∈ A ++ [p] ++ B ↔ q = p ∨ q ∈ s.Pieces:=fun q=>by
    rw [hs]; simp only [List.mem_append,List.mem_singleton]
    constructor
    · rintro ((h1 | h1) | h1)
      · exact .inr (.inl h1)
      · exact .inl h1
      · exact .inr (.inr h1)
    · rintro (h1 | h1 | h1)
      · exact .inl (.inr h1)
      · exact .inl (.inl h1)
      · exact .inr h1
  have k1:=k.lo; have k2:=k.le; have k3:=k.nx; have k4:=k.hi
  have hap : ∀ a ∈ A,a.To ≤ p.From:=fun a ha=>by
    have hb:=hA a ha
    have ham : a ∈ s.Pieces:=by rw [hs]; simp [ha]
    have hpb:=(h.pb a ham).1
    unfold before at hb
    simp only [Bool.or_eq_false_iff,Bool.and_eq_false_iff,decide_eq_false_iff_not] at hb
    obtain ⟨b1,b2⟩:=hb
    by_cases hpe : p.From = p.To
    · have:=(k.em hpe).1; omega
    · by_cases hae : a.From = a.To
      · omega
      · have := k.dj a ham (max p.From a.From) (by omega)
        by_cases hc : a.To ≤ p.From
        · exact hc
        · exfalso; exact this (by omega) ⟨by omega,by omega⟩
  have hpb : ∀ b ∈ B,p.To ≤ b.From:=fun b hb=>by
    cases hBB : B with
    | nil=>rw [hBB] at hb; exact (List.not_mem_nil hb).elim
    | cons b0 B' =>
      have hb0:=hB b0 B' hBB
      have hbm : b0 ∈ s.Pieces:=by rw [hs,hBB]; simp
      have hbb:=(h.pb b0 hbm).1
      have key : p.To ≤ b0.From:=by
        unfold before at hb0
        simp only [Bool.or_eq_true,Bool.and_eq_true,decide_eq_true_iff] at hb0
        by_cases hpe : p.From = p.To
        · omega
        · by_cases hbe : b0.From = b0.To
          · have:=h.fe b0 hbm (h.pf b0 hbm hbe); omega
          · have := k.dj b0 hbm (max p.From b0.From) (by omega)
            by_cases hc : p.To ≤ b0.From
            · exact hc
            · exfalso; exact this (by omega) ⟨by omega,by omega⟩
      rw [hBB] at hb
      rcases List.mem_cons.1 hb with rfl | hb
      · exact key
      · have := h.pw
        rw [hs,hBB] at this
        have:=(List.pairwise_cons.1 (List.pairwise_append.1 this).2.1).1 b hb
        omega
  have hpw:=List.pairwise_append.1 (hs ▸ h.pw)
  refine ⟨h.b0,by show s.Base ≤ max s.Next p.To; omega,by rw [he]; show max s.Next p.To ≤ _; omega,h.en,h.dl,k.lv,fun x hx=>⟨(k.lb x hx).1,by have:=(k.lb x hx).2; show x.To ≤ max s.Next p.To; omega⟩,?_,fun q hq=>?_,fun q hq hqe=>?_,fun q hq n h1 h2=>?_,fun q hq hF=>?_,?_,fun hS=>?_,fun hS=>?_,fun n h1 h2=>?_⟩
  · show (A ++ [p] ++ B).Pairwise _
    rw [List.pairwise_append,List.pairwise_append]
    refine ⟨⟨hpw.1,by simp,fun a ha b hb=>?_⟩,hpw.2.1,fun a ha b hb=>?_⟩
    · rw [List.mem_singleton.1 hb]; exact hap a ha
    · rcases List.mem_append.1 ha with ha | ha
      · exact hpw.2.2 a ha b hb
      · rw [List.mem_singleton.1 ha]; exact hpb b hb
  · rcases (hmem q).1 hq with rfl | hq
    · exact ⟨⟨k1,k2,by show q.To ≤ max s.Next q.To; omega⟩,k.pa⟩
    · obtain ⟨⟨a1, a2, a3⟩, a4⟩ := h.pb q hq
      exact ⟨⟨a1,a2,by show q.To ≤ max s.Next p.To; omega⟩,a4⟩
  · rcases (hmem q).1 hq with rfl | hq
    · exact (k.em hqe).2
    · exact h.pf q hq hqe
  · rcases (hmem q).1 hq with rfl | hq
    · intro hm; exact ((k.lm n).1 hm).2 ⟨h1,h2⟩
    · intro hm; exact h.pd q hq n h1 h2 ((k.lm n).1 hm).1
  · rcases (hmem q).1 hq with rfl | hq
    · rw [k.fi,Bool.and_eq_true,decide_eq_true_iff] at hF; exact hF.1
    · exact h.fe q hq hF
  · show fins (A ++ [p] ++ B) = _
    have hf : fins (A ++ [p] ++ B) = fins s.Pieces + if p.Fin = true then 1 else 0:=by
      rw [hs,rZ,rZ,rZ]
      have : fins [p] = if p.Fin = true then 1 else 0:=by unfold fins; rw [List.filter_cons]; split <;> rfl
      rw [this]; omega
    rw [hf,h.fc]
    unfold iO
    cases hF : p.Fin
    · simp
    · have hd := k.fi
      rw [hF] at hd
      have hd2:=aA1 (Bool.and_eq_true _ _ |>.mp hd.symm).2
      simp only [if_true]
      rw [if_neg (by rintro ⟨x1,x2,x3⟩; rcases hd2.2.2 with x4 | x4 <;> simp_all),if_pos (by simp [hd2.2.1])]
  · rw [he]
    cases hF : p.Fin
    · have hS : s.Sent = true := by have : (if p.Fin = true then true else s.Sent) = true := hS; rwa [hF] at this
      obtain ⟨a1,a2,a3⟩:=h.se hS
      refine ⟨a1,by show max s.Next p.To = _; omega,?_⟩
      show ¬ ((if p.Fin = true then false else s.Again) = true ∧ s.Done = true)
      rw [hF]; exact a3
    · have hd := k.fi
      rw [hF] at hd
      have hd1:=Bool.and_eq_true _ _ |>.mp hd.symm
      have hd2:=aA1 hd1.2
      refine ⟨hd2.1,by have:=of_decide_eq_true hd1.1; show max s.Next p.To = _; omega,?_⟩
      show ¬ ((if p.Fin = true then false else s.Again) = true ∧ s.Done = true)
      rw [hF]; simp
  · have hS : (if p.Fin = true then true else s.Sent) = false := hS
    cases hF : p.Fin
    · rw [hF] at hS
      have:=h.ns (by simpa using hS)
      refine ⟨?_,this.2⟩
      show (if p.Fin = true then false else s.Again) = false
      rw [hF]; exact this.1
    · rw [hF] at hS; cases hS
  · have h2 : n < max s.Next p.To := h2
    by_cases hp : p.From ≤ n ∧ n < p.To
    · exact .inr ⟨p,(hmem p).2 (.inl rfl),hp⟩
    · rcases h.cov n h1 (by omega) with hm | ⟨q, hq, hqn⟩
      · exact .inl ((k.lm n).2 ⟨hm,hp⟩)
      · exact .inr ⟨q,(hmem q).2 (.inr hq),hqn⟩
def pieceS (s : S23) (by_ most limit : Int) : Pc:=⟨(eV s most limit).1.From,(eV s most limit).1.To,by_,decide ((eV s most limit).1.To = endS s) && dueS s⟩
def jX (s : S23) (p : Pc) : List Iv:=if p.To ≤ p.From then s.Lost else cutS s.Lost ⟨p.From,p.To⟩
theorem pk_of {s : S23} (h : G s) {by_ most limit : Int} (hb : 0 ≤ by_ ∧ by_ < 4) (hm : 1 ≤ most ∧ most ≤ 1000000) (hl : 0 ≤ limit ∧ limit ≤ 4398046511104) (his : (eV s most limit).2 = true) : Pk s (pieceS s by_ most limit) (jX s (pieceS s by_ most limit)) := by
  obtain ⟨n1,n2,n3,n4⟩:=h.num
  have hlost : ∀ p : Pc,p.From ≤ p.To → VS (jX s p) ∧ (∀ x ∈ jX s p,s.Base ≤ x.From ∧ x.To ≤ s.Next) ∧ ∀ n,mem n (jX s p) ↔ mem n s.Lost ∧ ¬ (p.From ≤ n ∧ n < p.To):=fun p hp=>by
    unfold jX
    by_cases hc : p.To ≤ p.From
    · rw [if_pos hc]
      exact ⟨h.lv,h.lb,fun n=>⟨fun hm=>⟨hm,by omega⟩,fun hm=>hm.1⟩⟩
    · rw [if_neg hc]
      have hx : (⟨p.From,p.To⟩ : Iv).From < (⟨p.From,p.To⟩ : Iv).To:=by show p.From < p.To; omega
      refine ⟨aA5 h.lv hx,fun x hxm=>?_,fun n=>yW hx⟩
      obtain ⟨y,hy,a1,a2,a3,_⟩:=oT hxm
      have:=h.lb y hy
      omega
  unfold pieceS
  unfold eV at his ⊢
  cases hs : s.Lost with
  | cons x r =>
    simp only []
    have hx : x ∈ s.Lost:=by rw [hs]; simp
    have a1:=h.lv.ne x hx
    have a2:=h.lb x hx
    have hle : x.From ≤ x.From + min most (x.To - x.From):=by omega
    obtain ⟨b1,b2,b3⟩:=hlost ⟨x.From,x.From + min most (x.To - x.From),by_,decide (x.From + min most (x.To - x.From) = endS s) && dueS s⟩ hle
    refine ⟨a2.1,hle,by show x.From ≤ s.Next; omega,by show x.From + min most (x.To - x.From) ≤ _; omega,hb,fun he=>?_,fun q hq n h1 h2 hqn=>?_,rfl,b1,b2,b3⟩
    · have he : x.From = x.From + min most (x.To - x.From) := he
      omega
    · have h1 : x.From ≤ n := h1
      have h2 : n < x.From + min most (x.To - x.From):=h2
      exact h.pd q hq n hqn.1 hqn.2 ⟨x,hx,h1,by omega⟩
  | nil =>
    rw [hs] at his
    simp only [] at his ⊢
    by_cases hc : 0 < endS s - s.Next
    · rw [if_pos hc] at his
      simp only [if_pos hc]
      have hn:=of_decide_eq_true his
      have hle : s.Next ≤ s.Next + min (min (endS s - s.Next) most) (max limit s.Next - s.Next):=by omega
      obtain ⟨b1,b2,b3⟩:=hlost ⟨s.Next,s.Next + min (min (endS s - s.Next) most) (max limit s.Next - s.Next),by_,decide (s.Next + min (min (endS s - s.Next) most) (max limit s.Next - s.Next) = endS s) && dueS s⟩ hle
      refine ⟨n2,hle,Int.le_refl _,by show s.Next + min (min (endS s - s.Next) most) (max limit s.Next - s.Next) ≤ _; omega,hb,fun he=>?_,fun q hq n h1 h2 hqn=>?_,rfl,b1,b2,b3⟩
      · have he : s.Next = s.Next + min (min (endS s - s.Next) most) (max limit s.Next - s.Next) := he
        omega
      · have h1 : s.Next ≤ n := h1
        have:=(h.pb q hq).1; omega
    · rw [if_neg hc] at his
      simp only [if_neg hc]
      have hd : dueS s = true:=his
      have hne : s.Next = endS s:=by omega
      obtain ⟨b1,b2,b3⟩:=hlost ⟨s.Next,s.Next,by_,decide (s.Next = endS s) && dueS s⟩ (Int.le_refl _)
      refine ⟨n2,Int.le_refl _,Int.le_refl _,by show s.Next ≤ _; omega,hb,fun he=>⟨rfl,by show (decide (s.Next = endS s) && dueS s) = true; rw [hd,decide_eq_true hne]; rfl⟩,fun q hq n h1 h2 hqn=>?_,rfl,b1,b2,b3⟩
      have h1 : s.Next ≤ n:=h1
      have h2 : n < s.Next:=h2
      omega
theorem pick_no {s : S23} (h : G s) {by_ most limit : Int} (hb : 0 ≤ by_ ∧ by_ < 4) (hm : most ≤ 1000000) (hl : 0 ≤ limit ∧ limit ≤ 4398046511104) (his : most < 1 ∨ (eV s most limit).2 = false) : kB s by_ most limit = some (s,⟨0,0,0,false⟩,[],false):=by
  have hp:=h.pl
  have hll:=h.ll
  unfold kB lO
  rw [zM (by omega) (by omega),bnoS]
  simp only [bndD,decide_eq_true hb.1,decide_eq_true hb.2,Bool.and_self,bnoS,Bool.not_true,Bool.false_or]
  by_cases h1 : most < 1
  · rw [decide_eq_true h1]
    simp only [tf,gdff,bnoS,Bool.true_or,cR]
  · rw [decide_eq_false h1]
    have h2 : (eV s most limit).2 = false:=by rcases his with h2 | h2; exact absurd h2 h1; exact h2
    simp only [beq_self_eq_true,gdtt,pN h,bnoS,decide_true,Bool.not_true,Bool.or_self,cA,aB8 h ⟨by omega,hm⟩ hl,h2,Bool.not_false,cR]
theorem aBU {s : S23} (h : G s) {by_ most limit : Int} (hb : 0 ≤ by_ ∧ by_ < 4) (hm : 1 ≤ most ∧ most ≤ 1000000) (hl : 0 ≤ limit ∧ limit ≤ 4398046511104) (his : (eV s most limit).2 = true) :
    ∃ A B : List Pc, s.Pieces = A ++ B ∧ G (iO s (pieceS s by_ most limit) (jX s (pieceS s by_ most limit)) A B) ∧
      kB s by_ most limit = some (iO s (pieceS s by_ most limit) (jX s (pieceS s by_ most limit)) A B,pieceS s by_ most limit,(s.Data.take ((pieceS s by_ most limit).To - s.Base).toNat).drop ((pieceS s by_ most limit).From - s.Base).toNat,true):=by
  obtain ⟨n1,n2,n3,n4⟩:=h.num
  have hp:=h.pl
  have hll:=h.ll
  have k:=pk_of h hb hm hl his
  have k1:=k.lo; have k2:=k.le; have k3:=k.nx; have k4:=k.hi
  obtain ⟨A,B,e1,e2,e3,e4⟩:=place23 h (pieceS s by_ most limit) (by omega) (fun _=>k4)
  have hg:=g_pick h k e1 e2 e3
  refine ⟨A,B,e1,hg,?_⟩
  have hAl : A.length ≤ s.Pieces.length:=by rw [e1]; simp
  have hcut : cut s.Data ((pieceS s by_ most limit).From - s.Base) ((pieceS s by_ most limit).To - s.Base) = some ((s.Data.take ((pieceS s by_ most limit).To - s.Base).toNat).drop ((pieceS s by_ most limit).From - s.Base).toNat):=by
    unfold cut; rw [if_pos (by unfold endS at k4; omega)]
  have hJ1 : ∀ (p : Pc) (S1 A1 : Bool) (L : List Iv),p = pieceS s by_ most limit → hY s by_ (s.Base,s.Data,s.Next,s.Pieces,s.Lost,s.Closed,s.Sent,s.Again,s.Done) (eV s most limit) (max s.Next (eV s most limit).1.To) L S1 A1 p.Fin =
      some (⟨s.Base,s.Data,max s.Next p.To,A ++ [p] ++ B,L,s.Closed,S1,A1,s.Done⟩,p,(s.Data.take (p.To - s.Base).toNat).drop (p.From - s.Base).toNat,true):=fun p S1 A1 L hp'=>by
    have hpe : (⟨(eV s most limit).1.From,(eV s most limit).1.To,by_,p.Fin⟩ : Pc) = p:=by rw [hp']; rfl
    have hto : (eV s most limit).1.To = p.To:=by rw [hp']; rfl
    have hpe2 : (⟨p.From,p.To,by_,p.Fin⟩ : Pc) = p:=by rw [hp']; rfl
    have hfr : (eV s most limit).1.From = p.From:=by rw [hp']; rfl
    rw [← hp'] at e4 hcut k1 k2 k3 k4
    unfold hY
    simp only [hpe,hto,hfr,hpe2,e4,bnoS,eK]
    rw [insS_ok (by omega) (by omega) (by simp; omega) (by simp; omega),bnoS]
    simp only [bndD,w64 (show -9223372036854775808 ≤ p.From - s.Base by omega) (by omega),w64 (show -9223372036854775808 ≤ p.To - s.Base by omega) (by omega),hcut,bnoS,Int.toNat_natCast]
    rw [show s.Pieces.take A.length = A by rw [e1]; simp,show s.Pieces.drop A.length = B by rw [e1]; simp]
  have hJ0 : ∀ L : List Iv,jQ s by_ (s.Base,s.Data,s.Next,s.Pieces,s.Lost,s.Closed,s.Sent,s.Again,s.Done) (eV s most limit) (max s.Next (eV s most limit).1.To) L =
      some (⟨s.Base,s.Data,max s.Next (pieceS s by_ most limit).To,A ++ [pieceS s by_ most limit] ++ B,L,s.Closed,if (pieceS s by_ most limit).Fin = true then true else s.Sent,if (pieceS s by_ most limit).Fin = true then false else s.Again,s.Done⟩,pieceS s by_ most limit,(s.Data.take ((pieceS s by_ most limit).To - s.Base).toNat).drop ((pieceS s by_ most limit).From - s.Base).toNat,true):=fun L=>by
    have hfin : ∀ {β : Type} (g : Bool → Option β),(bno (gd (decide ((eV s most limit).1.To = endS s) == true) (some (dueS s)) default) fun x32=>g (decide ((eV s most limit).1.To = endS s) && x32)) = g (pieceS s by_ most limit).Fin:=fun g=>by
      show _ = g (decide ((eV s most limit).1.To = endS s) && dueS s)
      cases decide ((eV s most limit).1.To = endS s) <;> rfl
    unfold jQ
    simp only [mF h,bnoS,bndD,due23]
    rw [hfin (fun z=>bif z then hY s by_ (s.Base,s.Data,s.Next,s.Pieces,s.Lost,s.Closed,s.Sent,s.Again,s.Done) (eV s most limit) (max s.Next (eV s most limit).1.To) L true false z else hY s by_ (s.Base,s.Data,s.Next,s.Pieces,s.Lost,s.Closed,s.Sent,s.Again,s.Done) (eV s most limit) (max s.Next (eV s most limit).1.To) L s.Sent s.Again z)]
    have a1:=hJ1 _ true false L rfl
    have a2:=hJ1 _ s.Sent s.Again L rfl
    cases hF : (pieceS s by_ most limit).Fin
    · rw [hF] at a2; rw [cA,a2]; rfl
    · rw [hF] at a1; rw [cR,a1]; rfl
  unfold kB lO
  rw [zM (by omega) (by omega),bnoS]
  simp only [bndD,decide_eq_true hb.1,decide_eq_true hb.2,Bool.and_self,bnoS,Bool.not_true,Bool.false_or,decide_eq_false (show ¬ most < 1 by omega),beq_self_eq_true,gdtt,pN h,decide_true,Bool.or_self,cA,aB8 h hm hl,his]
  unfold eW
  have hpf : (pieceS s by_ most limit).From = (eV s most limit).1.From:=rfl
  have hpt : (pieceS s by_ most limit).To = (eV s most limit).1.To:=rfl
  by_cases hc : (eV s most limit).1.From < (eV s most limit).1.To
  · rw [decide_eq_true hc, cR, bnoS]
    simp only []
    rw [aA3 (x:=(⟨(eV s most limit).1.From,(eV s most limit).1.To⟩ : Iv)) (by omega) h.lv ⟨by show 0 ≤ (eV s most limit).1.From; omega,by show (eV s most limit).1.From ≤ _; omega,by show 0 ≤ (eV s most limit).1.To; omega,by show (eV s most limit).1.To ≤ _; omega⟩,bnoS]
    exact hJ0 _
  · rw [decide_eq_false hc, cA]
    have hL : jX s (pieceS s by_ most limit) = s.Lost:=by unfold jX; rw [if_pos (by omega)]
    have:=hJ0 s.Lost
    rw [hL]
    exact this
end Go.Fn
open Go Go.IL
namespace Go.Fn
def cmap (b : Int) (fin : Bool) (p : Pc) : Pc:=⟨max p.From b,max p.To b,p.Path,p.Fin && !fin⟩
def tW (p : Pc) : Bool:=decide (p.From = p.To) && !p.Fin
def rR (l : List Iv) (b : Int) : List Iv:=if b ≤ 0 then l else cutS l ⟨0,b⟩
def tN (s : S23) (n : Int) (fin : Bool) : S23:=⟨max n s.Base,s.Data.drop (max n s.Base - s.Base).toNat,s.Next,(s.Pieces.map (cmap (max n s.Base) fin)).filter (fun p=>!tW p),rR s.Lost (max n s.Base),s.Closed,s.Sent,if fin = true then false else s.Again,if fin = true then true else s.Done⟩
def nE (s : S23) (n : Int) (fin : Bool) : Prop:=0 ≤ n ∧ n ≤ s.Next ∧ (fin = true → n = endS s ∧ s.Sent = true)
instance (s : S23) (n : Int) (fin : Bool) : Decidable (nE s n fin):=by unfold nE; infer_instance
theorem delC {l : List Pc} (hl : l.length ≤ 100000) : cW l = some (l.filter fun y=>!tW y) :=
  pB (P:=fun x=>lP x) (q:=tW) (I:=cH l) (L:=bX) (fun _=>rfl) (fun _ _=>rfl) (fun _ _ _ _=>rfl) hl
theorem delD {l : List Pc} {k : Int} (hl : l.length ≤ 100000) : cV l k = some (l.filter fun y=>!decide (y.Path = k)) :=
  pB (P:=fun x=>jM x k) (q:=fun y=>decide (y.Path = k)) (I:=cG l k) (L:=bW k) (fun _=>rfl) (fun _ _=>rfl) (fun _ _ _ _=>rfl) hl
theorem set_at {α : Type} {p r : List α} {x y : α} : (p ++ x :: r).set p.length y = p ++ y :: r:=by rw [List.set_append_right _ _ (Nat.le_refl _)]; simp
theorem get_at {α : Type} {p r : List α} {x : α} : (p ++ x :: r)[p.length]? = some x:=by rw [List.getElem?_append_right (Nat.le_refl _)]; simp
def tup (s : S23) : (Int × (List UInt8) × Int × (List aJ) × (List aG) × Bool × Bool × Bool × Bool):=(s.Base,s.Data,s.Next,s.Pieces,s.Lost,s.Closed,s.Sent,s.Again,s.Done)
theorem aCH {s : S23} (h : G s) {n : Int} {fin : Bool} (hn : nE s n fin) : ∀ (r p : List Pc) (f : Nat),s.Pieces = p ++ r → r.length < f → iA s fin (tup s) (max n s.Base) f (p.length : Int) (p.map (cmap (max n s.Base) fin) ++ r) = some (tN s n fin)
  | [], p, f + 1, hs, _ => by
    obtain ⟨n1,n2,n3,n4⟩:=h.num
    obtain ⟨c1,c2,c3⟩:=hn
    have hpl:=h.pl
    have hll:=h.ll
    have hlen : p.length = s.Pieces.length:=by rw [hs]; simp
    rw [List.append_nil] at hs
    unfold iA
    have hcut : cut s.Data (max n s.Base - s.Base) (s.Data.length : Int) = some (s.Data.drop (max n s.Base - s.Base).toNat):=by
      unfold cut
      unfold endS at n3
      rw [if_pos (by omega),Int.toNat_natCast,List.take_length]
    rw [List.append_nil,← hs]
    have hlt : decide ((s.Pieces.length : Int) < ((tup s).2.2.2.1.length : Int)) = false:=oY
    have hL : (tup s).2.2.2.2.1 = s.Lost:=rfl
    simp only [bndD,hlt,cA]
    rw [delC (by rw [List.length_map]; omega),bnoS,w64 (by omega) (by omega),hcut,bnoS,hL,aA3 (x:=(⟨0,max n s.Base⟩ : Iv)) (by omega) h.lv ⟨Int.le_refl _,by show (0 : Int) ≤ _; decide,by show 0 ≤ max n s.Base; omega,by show max n s.Base ≤ _; omega⟩,bnoS]
    unfold tN rR
    cases fin <;> rfl
  | x :: r, p, f + 1, hs, hf => by
    have hpl:=h.pl
    have hpp : p.length + (r.length + 1) = s.Pieces.length:=by rw [hs]; simp
    have ih:=aCH h hn r (p ++ [x]) f (iM hs) (by simpa using hf)
    unfold iA
    have hlt : decide ((p.length : Int) < ((tup s).2.2.2.1.length : Int)) = true:=nT hs
    have hm : (p.map (cmap (max n s.Base) fin)).length = p.length:=List.length_map _
    have hg : ∀ y : Pc,(p.map (cmap (max n s.Base) fin) ++ y :: r)[((p.length : Int)).toNat]? = some y:=fun y=>by rw [Int.toNat_natCast,← hm]; exact get_at
    have hst : ∀ y z : Pc,(p.map (cmap (max n s.Base) fin) ++ y :: r).set ((p.length : Int)).toNat z = p.map (cmap (max n s.Base) fin) ++ z :: r:=fun y z=>by rw [Int.toNat_natCast,← hm]; exact set_at
    have hgx : gix (p.map (cmap (max n s.Base) fin) ++ x :: r) (p.length : Int) = some x:=by rw [← hm]; exact iP rfl
    simp only [bndD,hlt,cR,hgx,hg,hst,bnoS,w_at hs (show s.Pieces.length ≤ 1000000 by omega)]
    rw [List.map_append,List.append_assoc] at ih
    exact ih
theorem aA9 {s : S23} (h : G s) (n : Int) (fin : Bool) : mQ s n fin = some (if nE s n fin then tN s n fin else s) := by
  have hp:=h.pl
  have hl:=h.ll
  unfold mQ
  rw [zM (by omega) (by omega),bnoS,pN h,bnoS]
  simp only [bndD,decide_true,Bool.not_true,Bool.false_or]
  by_cases hc : nE s n fin
  · obtain ⟨c1, c2, c3⟩ := hc
    rw [if_pos ⟨c1,c2,c3⟩,decide_eq_false (show ¬ n < 0 by omega),decide_eq_false (show ¬ s.Next < n by omega)]
    have:=aCH h ⟨c1,c2,c3⟩ s.Pieces [] fuel rfl (gC (by omega))
    cases fin
    · simp only [Bool.or_self, beq_self_eq_true, ft, Bool.and_false, gdff, bnoS, Bool.false_and, cA]
      exact this
    · obtain ⟨c4, c5⟩ := c3 rfl
      have hx : (!decide (n = endS s) || !s.Sent) = false:=by rw [decide_eq_true c4,c5]; rfl
      simp only [Bool.or_self,beq_self_eq_true,Bool.and_self,gdtt,mF h,bnoS,hx,Bool.and_false,cA]
      exact this
  · rw [if_neg hc]
    by_cases c1 : n < 0
    · rw [decide_eq_true c1]
      simp only [Bool.true_or,tf,Bool.false_and,gdff,bnoS,cR]
    · by_cases c2 : s.Next < n
      · rw [decide_eq_true c2]
        simp only [Bool.or_true,Bool.true_or,tf,Bool.false_and,gdff,bnoS,cR]
      · cases fin
        · exact absurd ⟨by omega,by omega,fun h=>(by cases h)⟩ hc
        · have : (!decide (n = endS s) || !s.Sent) = true := by
            cases hS : s.Sent
            · simp
            · by_cases c3 : n = endS s
              · exact absurd ⟨by omega,by omega,fun _=>⟨c3,hS⟩⟩ hc
              · rw [decide_eq_false c3]; rfl
          rw [decide_eq_false c1,decide_eq_false c2]
          simp only [Bool.or_self,beq_self_eq_true,Bool.and_self,gdtt,mF h,bnoS,this,Bool.and_true,Bool.or_true,cR]
theorem sY {l : List Iv} {b : Int} (hl : ∀ x ∈ l,0 ≤ x.From) {n : Int} : mem n (rR l b) ↔ mem n l ∧ b ≤ n:=by
  unfold rR
  split
  · refine ⟨fun hm => ⟨hm, ?_⟩, fun hm => hm.1⟩
    obtain ⟨x,hx,h1,h2⟩:=hm
    have:=hl x hx; omega
  · rw [yW (by show 0 < b; omega)]
    refine ⟨fun hm=>⟨hm.1,?_⟩,fun hm=>⟨hm.1,by have:=hm.2; show ¬ (0 ≤ n ∧ n < b); omega⟩⟩
    obtain ⟨x,hx,h1,h2⟩:=hm.1
    have:=hl x hx
    have h3 : ¬ (0 ≤ n ∧ n < b):=hm.2
    omega
theorem aBm (b : Int) (l : List Pc) : fins ((l.map (cmap b false)).filter (fun p=>!tW p)) = fins l:=by
  unfold fins
  rw [List.filter_filter,List.filter_map,List.length_map]
  congr 1
  apply List.filter_congr
  intro p _
  unfold tW cmap
  cases hp : p.Fin <;> simp [hp]
theorem qL {s : S23} {b : Int} {fin : Bool} {q : Pc} (hq : q ∈ (s.Pieces.map (cmap b fin)).filter (fun p=>!tW p)) : ∃ p ∈ s.Pieces,q = cmap b fin p ∧ (q.From = q.To → q.Fin = true):=by
  obtain ⟨h1,h2⟩:=List.mem_filter.1 hq
  obtain ⟨p,hp,rfl⟩:=List.mem_map.1 h1
  refine ⟨p,hp,rfl,fun he=>?_⟩
  unfold tW at h2
  rw [decide_eq_true he] at h2
  simpa using h2
theorem vM {s : S23} (h : G s) {n : Int} {fin : Bool} (hc : nE s n fin) : endS (tN s n fin) = endS s:=by
  obtain ⟨n1,n2,n3,n4⟩:=h.num
  obtain ⟨c1,c2,c3⟩:=hc
  unfold endS at n3
  show max n s.Base + ((s.Data.drop (max n s.Base - s.Base).toNat).length : Int) = s.Base + _
  rw [List.length_drop]; omega
theorem g_came {s : S23} (h : G s) {n : Int} {fin : Bool} (hc : nE s n fin) : G (tN s n fin) := by
  obtain ⟨n1,n2,n3,n4⟩:=h.num
  have he:=vM h hc
  obtain ⟨c1,c2,c3⟩:=hc
  have hd:=h.dl
  refine ⟨by show 0 ≤ max n s.Base; omega,by show max n s.Base ≤ s.Next; omega,by rw [he]; exact n3,by rw [he]; exact n4,by show (s.Data.drop _).length ≤ _; rw [List.length_drop]; omega,?_,fun x hx=>?_,?_,fun q hq=>?_,fun q hq=>?_,fun q hq m h1 h2=>?_,fun q hq hF=>?_,?_,fun hS=>?_,fun hS=>?_,fun m h1 h2=>?_⟩
  · show VS (rR s.Lost (max n s.Base))
    unfold rR
    split
    · exact h.lv
    · exact aA5 h.lv (by show 0 < max n s.Base; omega)
  · have hx : x ∈ rR s.Lost (max n s.Base) := hx
    show max n s.Base ≤ x.From ∧ x.To ≤ s.Next
    unfold rR at hx
    split at hx
    · have:=h.lb x hx; omega
    · obtain ⟨y, hy, a1, a2, a3, a4⟩ := oT hx
      have:=h.lb y hy
      have a4 : x.To ≤ 0 ∨ max n s.Base ≤ x.From:=a4
      omega
  · show ((s.Pieces.map (cmap (max n s.Base) fin)).filter (fun p => !tW p)).Pairwise _
    refine List.Pairwise.filter _ ?_
    rw [List.pairwise_map]
    exact h.pw.imp fun {a b} hab=>by show max a.To _ ≤ max b.From _; omega
  · obtain ⟨p, hp, rfl, _⟩ := qL hq
    obtain ⟨⟨a1,a2,a3⟩,a4⟩:=h.pb p hp
    exact ⟨⟨by show max n s.Base ≤ max p.From _; omega,by show max p.From _ ≤ max p.To _; omega,by show max p.To _ ≤ s.Next; omega⟩,a4⟩
  · obtain ⟨p, hp, rfl, h1⟩ := qL hq
    exact h1
  · obtain ⟨p, hp, rfl, _⟩ := qL hq
    have h1 : max p.From (max n s.Base) ≤ m:=h1
    have h2 : m < max p.To (max n s.Base):=h2
    intro hm
    have hm : mem m (rR s.Lost (max n s.Base)):=hm
    exact h.pd p hp m (by omega) (by omega) ((sY h.lv.lo).1 hm).1
  · obtain ⟨p, hp, rfl, _⟩ := qL hq
    have hF : (p.Fin && !fin) = true:=hF
    rw [he]
    show max p.To _ = _
    rw [h.fe p hp (Bool.and_eq_true _ _ |>.mp hF).1]; omega
  · show fins ((s.Pieces.map (cmap (max n s.Base) fin)).filter (fun p => !tW p)) = _
    cases fin
    · rw [aBm,h.fc]; rfl
    · have h0 : fins ((s.Pieces.map (cmap (max n s.Base) true)).filter (fun p => !tW p)) = 0 := by
        unfold fins
        rw [List.length_eq_zero_iff,List.filter_eq_nil_iff]
        intro q hq hF
        obtain ⟨p,hp,rfl,_⟩:=qL hq
        have hF : (p.Fin && !true) = true:=hF
        simp at hF
      rw [h0,if_neg]
      rintro ⟨x1,x2,x3⟩
      have x3 : (if true = true then true else s.Done) = false:=x3
      simp at x3
  · obtain ⟨a1, a2, a3⟩ := h.se hS
    refine ⟨a1,by rw [he]; exact a2,?_⟩
    show ¬ ((if fin = true then false else s.Again) = true ∧ (if fin = true then true else s.Done) = true)
    cases fin
    · exact a3
    · simp
  · have hS : s.Sent = false := hS
    cases fin
    · exact h.ns hS
    · have h5 : s.Sent = true := (c3 rfl).2
      exact absurd (hS.symm.trans h5) (by decide)
  · have h1 : max n s.Base ≤ m := h1
    have h2 : m < s.Next:=h2
    rcases h.cov m (by omega) h2 with hm | ⟨p,hp,hpm⟩
    · exact .inl ((sY h.lv.lo).2 ⟨hm,h1⟩)
    · refine .inr ⟨cmap (max n s.Base) fin p, List.mem_filter.2 ⟨List.mem_map.2 ⟨p, hp, rfl⟩, ?_⟩, by show max p.From _ ≤ m; omega, by show m < max p.To _; omega⟩
      show (!(decide (max p.From (max n s.Base) = max p.To (max n s.Base)) && !(p.Fin && !fin))) = true
      rw [decide_eq_false (show ¬ max p.From (max n s.Base) = max p.To (max n s.Base) by omega)]; rfl
theorem pw_ne {l : List Pc} (h : l.Pairwise (fun p q=>p.To ≤ q.From)) {p q : Pc} (hp : p ∈ l) (hq : q ∈ l) (hne : p ≠ q) : p.To ≤ q.From ∨ q.To ≤ p.From:=by
  induction l with
  | nil=>exact (List.not_mem_nil hp).elim
  | cons x l ih =>
    have h:=List.pairwise_cons.1 h
    rcases List.mem_cons.1 hp with h1 | h1
    · rcases List.mem_cons.1 hq with h2 | h2
      · exact absurd (h1.trans h2.symm) hne
      · rw [h1]; exact .inl (h.1 q h2)
    · rcases List.mem_cons.1 hq with h2 | h2
      · rw [h2]; exact .inr (h.1 p h1)
      · exact ih h.2 h1 h2
def anyD (l : List Pc) (k : Int) : Bool:=l.any fun p=>decide (p.Path = k) && p.Fin
structure DL (s : S23) (p : List Pc) (k : Int) (L : List Iv) : Prop where
  lv : VS L
  lb : ∀ x ∈ L,s.Base ≤ x.From ∧ x.To ≤ s.Next
  lm : ∀ n,mem n L ↔ mem n s.Lost ∨ ∃ q ∈ p,q.Path = k ∧ q.From ≤ n ∧ n < q.To
  le : (∀ q ∈ p,q.Path = k → q.From = q.To) → L = s.Lost
theorem aBC {L : List Iv} {a b : Int} (h : VS L) (hm : ∀ n,mem n L → a ≤ n ∧ n < b) : ∀ x ∈ L,a ≤ x.From ∧ x.To ≤ b:=fun x hx=>by
  have h0:=h.ne x hx
  have h1:=hm x.From ⟨x,hx,by omega,by omega⟩
  have h2:=hm (x.To - 1) ⟨x,hx,by omega,by omega⟩
  omega
theorem DL.len {s : S23} (h : G s) {p : List Pc} {k : Int} {L : List Iv} (d : DL s p k L) : L.length ≤ 4096:=by
  have h1:=vS d.lv.pw d.lv.ne d.lb h.bn
  have h2:=h.nd
  have h3:=h.dl
  unfold endS at h2; omega
def zV (s : S23) (k : Int) (L : List Iv) : S23:=⟨s.Base,s.Data,s.Next,s.Pieces.filter (fun y=>!decide (y.Path = k)),L,s.Closed,s.Sent,s.Again || anyD s.Pieces k,s.Done⟩
theorem aA2 {s : S23} (h : G s) (k : Int) : ∀ (r p : List Pc) (f : Nat) (L : List Iv), s.Pieces = p ++ r → r.length < f → DL s p k L → ∃ L', DL s s.Pieces k L' ∧ gF s k (tup s) f (p.length : Int) L (s.Again || anyD p k) = some (zV s k L')
  | [], p, f + 1, L, hs, _, d => by
    have hpl:=h.pl
    rw [List.append_nil] at hs
    rw [← hs] at d ⊢
    refine ⟨L,d,?_⟩
    unfold gF
    simp only [tup,bndD,oY,cA,delD (show s.Pieces.length ≤ 100000 by omega),bnoS]
    rfl
  | x :: r, p, f + 1, L, hs, hf, d => by
    have hx : x ∈ s.Pieces:=by rw [hs]; simp
    have hpl:=h.pl
    obtain ⟨n1,n2,n3,n4⟩:=h.num
    obtain ⟨⟨a1,a2,a3⟩,a4⟩:=h.pb x hx
    have hd1 : jM x k = some (decide (x.Path = k)):=rfl
    have hany : anyD (p ++ [x]) k = (anyD p k || (decide (x.Path = k) && x.Fin)):=by unfold anyD; rw [List.any_append]; simp
    unfold gF
    simp only [bndD,nT hs,cR,iP hs,bnoS,hd1,w_at hs (show s.Pieces.length ≤ 1000000 by omega)]
    by_cases hk : x.Path = k
    · have hdl := d.len h
      obtain ⟨t,e1,e2,e3,e4,e5⟩:=add_eq (s:=L) (x:=(⟨x.From,x.To⟩ : Iv)) (by omega) d.lv (by show 0 ≤ x.From; omega) (by show x.To ≤ _; omega) a2
      have hb : ∀ y ∈ t,s.Base ≤ y.From ∧ y.To ≤ s.Next:=aBC e2 fun n hm=>by
        rcases (e3 n).1 hm with hm | hm
        · obtain ⟨y, hy, h1, h2⟩ := hm
          have:=d.lb y hy; omega
        · have : x.From ≤ n ∧ n < x.To := hm
          omega
      have d2 : DL s (p ++ [x]) k t := by
        refine ⟨e2,hb,fun n=>?_,fun hq=>?_⟩
        · rw [e3, d.lm]
          constructor
          · rintro ((h1 | ⟨q, hq, h2⟩) | h1)
            · exact .inl h1
            · exact .inr ⟨q,by simp [hq],h2⟩
            · exact .inr ⟨x,by simp,hk,h1⟩
          · rintro (h1 | ⟨q, hq, h2⟩)
            · exact .inl (.inl h1)
            · rcases List.mem_append.1 hq with hq | hq
              · exact .inl (.inr ⟨q,hq,h2⟩)
              · rw [List.mem_singleton.1 hq] at h2
                exact .inr h2.2
        · rw [e4 (hq x (by simp) hk)]
          exact d.le fun q hq'=>hq q (by simp [hq'])
      have ih:=aA2 h k r (p ++ [x]) f t (iM hs) (by simpa using hf) d2
      rw [hany,decide_eq_true hk,Bool.true_and,← Bool.or_assoc] at ih
      rw [decide_eq_true hk,cR]
      unfold eW
      simp only [bnoS,e1]
      exact ih
    · have d2 : DL s (p ++ [x]) k L := by
        refine ⟨d.lv,d.lb,fun n=>?_,fun hq=>d.le fun q hq'=>hq q (by simp [hq'])⟩
        rw [d.lm]
        constructor
        · rintro (h1 | ⟨q, hq, h2⟩)
          · exact .inl h1
          · exact .inr ⟨q,by simp [hq],h2⟩
        · rintro (h1 | ⟨q, hq, h2⟩)
          · exact .inl h1
          · rcases List.mem_append.1 hq with hq | hq
            · exact .inr ⟨q,hq,h2⟩
            · rw [List.mem_singleton.1 hq] at h2
              exact absurd h2.1 hk
      have ih:=aA2 h k r (p ++ [x]) f L (iM hs) (by simpa using hf) d2
      rw [hany,decide_eq_false hk,Bool.false_and,Bool.or_false] at ih
      rw [decide_eq_false hk,cA]
      exact ih
theorem dead23 {s : S23} (h : G s) (k : Int) : ∃ L,DL s s.Pieces k L ∧ nZ s k = some (zV s k L):=by
  have hp:=h.pl
  have hl:=h.ll
  obtain ⟨L,d,e⟩:=aA2 h k s.Pieces [] fuel s.Lost rfl (gC (by omega)) ⟨h.lv,h.lb,fun n=>by simp,fun _=>rfl⟩
  refine ⟨L,d,?_⟩
  unfold nZ
  rw [zM (by omega) (by omega),bnoS,pN h,bnoS]
  simp only [bndD,decide_true,Bool.not_true,cA]
  rw [show anyD [] k = false from rfl,Bool.or_false] at e
  exact e
theorem uL (l : List Pc) (k : Int) : fins l = fins (l.filter fun y=>!decide (y.Path = k)) + (l.filter fun p=>decide (p.Path = k) && p.Fin).length:=by
  unfold fins
  rw [List.filter_filter]
  induction l with
  | nil=>rfl
  | cons x l ih =>
    simp only [List.filter_cons]
    cases hF : x.Fin <;> by_cases hk : x.Path = k <;> simp [hF,hk] <;> omega
theorem g_dead {s : S23} (h : G s) {k : Int} {L : List Iv} (d : DL s s.Pieces k L) : G (zV s k L):=by
  obtain ⟨n1,n2,n3,n4⟩:=h.num
  have hmem : ∀ q,q ∈ s.Pieces.filter (fun y=>!decide (y.Path = k)) ↔ q ∈ s.Pieces ∧ q.Path ≠ k:=fun q=>by rw [List.mem_filter]; simp
  have hany : anyD s.Pieces k = true → s.Sent = true ∧ s.Again = false ∧ s.Done = false ∧ fins (s.Pieces.filter fun y=>!decide (y.Path = k)) = 0:=fun ha=>by
    unfold anyD at ha
    obtain ⟨p,hp,hpk⟩:=List.any_eq_true.1 ha
    have h1 : 0 < (s.Pieces.filter fun p=>decide (p.Path = k) && p.Fin).length:=List.length_pos_of_mem (List.mem_filter.2 ⟨hp,hpk⟩)
    have h2:=uL s.Pieces k
    have h3:=h.fc
    by_cases hc : s.Sent = true ∧ s.Again = false ∧ s.Done = false
    · rw [if_pos hc] at h3
      exact ⟨hc.1,hc.2.1,hc.2.2,by rw [h3] at h2; generalize fins (s.Pieces.filter fun y=>!decide (y.Path = k)) = a at *; generalize (s.Pieces.filter fun p=>decide (p.Path = k) && p.Fin).length = b at *; clear h; omega⟩
    · rw [if_neg hc] at h3; rw [h3] at h2; generalize fins (s.Pieces.filter fun y=>!decide (y.Path = k)) = a at *; generalize (s.Pieces.filter fun p=>decide (p.Path = k) && p.Fin).length = b at *; clear h; omega
  have hno : anyD s.Pieces k = false → fins (s.Pieces.filter fun y=>!decide (y.Path = k)) = fins s.Pieces:=fun ha=>by
    have h2:=uL s.Pieces k
    have h1 : (s.Pieces.filter fun p=>decide (p.Path = k) && p.Fin) = []:=by
      rw [List.filter_eq_nil_iff]
      intro p hp
      exact Bool.not_eq_true _ |>.mpr (List.any_eq_false.1 ha p hp |> fun h=>by simpa using h)
    rw [h1] at h2; simpa using h2.symm
  refine ⟨h.b0,h.bn,h.nd,h.en,h.dl,d.lv,d.lb,List.Pairwise.filter _ h.pw,fun q hq=>h.pb q ((hmem q).1 hq).1,fun q hq=>h.pf q ((hmem q).1 hq).1,fun q hq m h1 h2 hm=>?_,fun q hq=>h.fe q ((hmem q).1 hq).1,?_,fun hS=>?_,fun hS=>?_,fun m h1 h2=>?_⟩
  · obtain ⟨q1, q2⟩ := (hmem q).1 hq
    rcases (d.lm m).1 hm with hm | ⟨p,hp,hpk,h3,h4⟩
    · exact h.pd q q1 m h1 h2 hm
    · have hne : p ≠ q := fun e => q2 (e ▸ hpk)
      have:=pw_ne h.pw hp q1 hne
      omega
  · show fins (s.Pieces.filter fun y => !decide (y.Path = k)) = if s.Sent = true ∧ (s.Again || anyD s.Pieces k) = false ∧ s.Done = false then 1 else 0
    cases ha : anyD s.Pieces k
    · rw [hno ha,h.fc,Bool.or_false]
    · rw [(hany ha).2.2.2,Bool.or_true]; simp
  · obtain ⟨a1, a2, a3⟩ := h.se hS
    refine ⟨a1,a2,?_⟩
    show ¬ ((s.Again || anyD s.Pieces k) = true ∧ s.Done = true)
    cases ha : anyD s.Pieces k
    · rw [Bool.or_false]; exact a3
    · rw [(hany ha).2.2.1]; simp
  · have hS : s.Sent = false := hS
    obtain ⟨a1,a2⟩:=h.ns hS
    refine ⟨?_,a2⟩
    show (s.Again || anyD s.Pieces k) = false
    cases ha : anyD s.Pieces k
    · rw [a1]; rfl
    · have:=(hany ha).1; rw [hS] at this; cases this
  · rcases h.cov m h1 h2 with hm | ⟨p, hp, hpm⟩
    · exact .inl ((d.lm m).2 (.inl hm))
    · by_cases hk : p.Path = k
      · exact .inl ((d.lm m).2 (.inr ⟨p,hp,hk,hpm⟩))
      · exact .inr ⟨p,(hmem p).2 ⟨hp,hk⟩,hpm⟩
end Go.Fn
open Go Go.IL
namespace Go.Fn
structure Went (s s' : S23) : Prop where
  g : G s'
  base : s.Base ≤ s'.Base
  data : s'.Data = s.Data.drop (s'.Base - s.Base).toNat
  next : s.Next ≤ s'.Next
  done : s.Done = true → s'.Done = true
  en : endS s' = endS s
theorem Went.refl {s : S23} (h : G s) : Went s s:=⟨h,Int.le_refl _,by simp,Int.le_refl _,id,rfl⟩
theorem aAA {s : S23} (h : G s) (n : Int) (fin : Bool) : ∃ s',mQ s n fin = some s' ∧ Went s s':=by
  refine ⟨_,aA9 h n fin,?_⟩
  split
  · rename_i hc
    refine ⟨g_came h hc,by show s.Base ≤ max n s.Base; omega,rfl,Int.le_refl _,fun hd=>?_,vM h hc⟩
    show (if fin = true then true else s.Done) = true
    cases fin <;> simp [hd]
  · exact .refl h
structure All (s : S23) (all : List UInt8) : Prop where
  g : G s
  data : s.Data = all.drop s.Base.toNat
  len : (all.length : Int) = endS s
theorem aBz {s s' : S23} {all : List UInt8} (h : All s all) (w : Went s s') : All s' all:=by
  have hb:=h.g.b0
  have hn:=w.g.num
  have hn0:=h.g.num
  have hb1:=w.base
  have hd : s'.Data = all.drop s'.Base.toNat:=by
    rw [w.data,h.data,List.drop_drop]
    congr 1; omega
  exact ⟨w.g,hd,by rw [w.en]; exact h.len⟩
theorem all_cut {s : S23} {all ext : List UInt8} (h : All s all) {i j : Int} (h0 : s.Base ≤ i) (h1 : i ≤ j) (h2 : j ≤ endS s) : cut (all ++ ext) i j = some ((s.Data.take (j - s.Base).toNat).drop (i - s.Base).toNat):=by
  have hb:=h.g.b0
  have hl:=h.len
  unfold cut
  rw [if_pos (by rw [List.length_append]; omega),List.take_append_of_le_length (by omega),h.data]
  congr 1
  apply List.ext_getElem?
  intro n
  rw [List.getElem?_drop,List.getElem?_drop,List.getElem?_take,List.getElem?_take,List.getElem?_drop]
  by_cases hc : i.toNat + n < j.toNat
  · rw [if_pos hc,if_pos (by omega)]; congr 1; omega
  · rw [if_neg hc,if_neg (by omega)]
theorem aA0 {s : S23} (h : dueS s = true) : s.Closed = true:=(aA1 h).1
theorem next_to {s : S23} (h : G s) {m limit : Int} (hm : 1 ≤ m) (hl : 0 ≤ limit) : (eV s m limit).1.To ≤ max s.Next limit:=by
  unfold eV
  cases hs : s.Lost with
  | cons x r =>
    have:=h.lb x (by rw [hs]; simp)
    show x.From + min m (x.To - x.From) ≤ _
    omega
  | nil =>
    simp only []
    split
    · show s.Next + min (min (endS s - s.Next) m) (max limit s.Next - s.Next) ≤ _
      omega
    · show s.Next ≤ _
      omega
theorem aBF {s : S23} {all : List UInt8} (h : All s all) (str : List UInt8) : All (rC s str) (all ++ str.take (writeN s str)):=by
  have hb:=h.g.b0
  have hn:=h.g.num
  have hl:=h.len
  obtain ⟨k1,k2⟩:=sD h.g str
  refine ⟨aAv h.g str,?_,?_⟩
  · show s.Data ++ _ = (all ++ _).drop s.Base.toNat
    rw [h.data,List.drop_append_of_le_length (by omega)]
  · rw [List.length_append, List.length_take, Nat.min_eq_left k2]
    unfold endS at *
    show _ = s.Base + ((s.Data ++ str.take (writeN s str)).length : Int)
    rw [List.length_append,List.length_take,Nat.min_eq_left k2]; omega
end Go.Fn
open Go Go.IL
namespace Go.Fn
end Go.Fn
open Go Go.IL
namespace Go.Fn
end Go.Fn
open Go Go.IL
namespace Go.Fn
def sl (W : List UInt8) (a b : Int) : List UInt8:=(W.take b.toNat).drop a.toNat
theorem kF {W : List UInt8} {a b : Int} (h0 : 0 ≤ a) (h1 : a ≤ b) (h2 : b ≤ (W.length : Int)) : ((sl W a b).length : Int) = b - a:=by
  unfold sl; rw [List.length_drop,List.length_take]; omega
theorem vY {W : List UInt8} {a b : Int} (n : Nat) : (sl W a b)[n]? = if a.toNat + n < b.toNat then W[a.toNat + n]? else none:=by
  unfold sl; rw [List.getElem?_drop,List.getElem?_take]
theorem uA {W : List UInt8} {a b : Int} (h : b ≤ a) : sl W a b = []:=by
  unfold sl; rw [List.drop_eq_nil_iff,List.length_take]; omega
theorem vZ {W : List UInt8} {a b c : Int} (h0 : 0 ≤ a) (h1 : a ≤ b) (h2 : b ≤ c) (h3 : c ≤ (W.length : Int)) : sl W a b ++ sl W b c = sl W a c:=by
  apply List.ext_getElem?
  intro n
  have hl:=kF (W:=W) h0 h1 (by omega)
  rw [List.getElem?_append,vY,vY,vY]
  by_cases hn : n < (sl W a b).length
  · rw [if_pos hn,if_pos (by omega),if_pos (by omega)]
  · rw [if_neg hn]
    by_cases hc : a.toNat + n < c.toNat
    · rw [if_pos (by omega),if_pos hc]; congr 1; omega
    · rw [if_neg (by omega),if_neg hc]
theorem sF {W : List UInt8} {a b i j : Int} (h0 : 0 ≤ a) (h1 : a ≤ b) (h2 : b ≤ (W.length : Int)) (h3 : 0 ≤ i) (h4 : i ≤ j) (h5 : j ≤ b - a) : cut (sl W a b) i j = some (sl W (a + i) (a + j)):=by
  have hl:=kF (W:=W) h0 h1 h2
  unfold cut
  rw [if_pos (by omega)]
  congr 1
  apply List.ext_getElem?
  intro n
  rw [List.getElem?_drop,List.getElem?_take,vY,vY]
  by_cases hc : i.toNat + n < j.toNat
  · rw [if_pos hc,if_pos (by omega),if_pos (by omega)]; congr 1; omega
  · rw [if_neg hc,if_neg (by omega)]
theorem yK {W e : List UInt8} {a b : Int} (h : b ≤ (W.length : Int)) : sl (W ++ e) a b = sl W a b:=by
  unfold sl; rw [List.take_append_of_le_length (by omega)]
theorem aB3 (W : List UInt8) : sl W 0 (W.length : Int) = W:=by unfold sl; simp
end Go.Fn
open Go Go.IL
namespace Go.Fn
def jB (u : Iv) : List Iv → Iv × List Iv
  | []=>(u,[])
  | p :: r=>if u.To < p.From then (u,p :: r) else jB ⟨min u.From p.From,max u.To p.To⟩ r
structure Jd (u : Iv) (R : List Iv) (v : Iv) (C : List Iv) (B : List Iv) : Prop where
  sp : R = B ++ C
  f : v.From ≤ u.From
  t : u.To ≤ v.To
  c : ∀ y ∈ C,v.To < y.From
  m : ∀ n,(v.From ≤ n ∧ n < v.To) ↔ ((u.From ≤ n ∧ n < u.To) ∨ mem n B)
  vf : v.From = u.From ∨ ∃ y ∈ B,v.From = y.From
  vt : v.To = u.To ∨ ∃ y ∈ B,v.To = y.To
theorem mem_cons {n : Int} {y : Iv} {p : List Iv} : mem n (y :: p) ↔ (y.From ≤ n ∧ n < y.To) ∨ mem n p:=by
  unfold mem
  constructor
  · rintro ⟨x, hx, h⟩
    rcases List.mem_cons.1 hx with rfl | hx
    · exact .inl h
    · exact .inr ⟨x,hx,h⟩
  · rintro (h | ⟨x, hx, h⟩)
    · exact ⟨y,by simp,h⟩
    · exact ⟨x,by simp [hx],h⟩
theorem jB_ok : ∀ (R : List Iv) (u : Iv), u.From < u.To → R.Pairwise (fun x y => x.To < y.From) → (∀ x ∈ R, x.From < x.To) → (∀ y ∈ R, u.From ≤ y.To) → ∃ B, Jd u R (jB u R).1 (jB u R).2 B
  | [],u,hu,_,_,_=>⟨[],rfl,Int.le_refl _,Int.le_refl _,fun _ h=>(List.not_mem_nil h).elim,fun n=>⟨.inl,fun h=>h.elim id (fun ⟨_,h,_⟩=>(List.not_mem_nil h).elim)⟩,.inl rfl,.inl rfl⟩
  | p :: r, u, hu, hp, hn, ht => by
    have hp:=List.pairwise_cons.1 hp
    have hpn:=hn p (by simp)
    have htp:=ht p (by simp)
    unfold jB
    by_cases hc : u.To < p.From
    · rw [if_pos hc]
      refine ⟨[],rfl,Int.le_refl _,Int.le_refl _,fun y hy=>?_,fun n=>⟨.inl,fun h=>h.elim id (fun ⟨_,h,_⟩=>(List.not_mem_nil h).elim)⟩,.inl rfl,.inl rfl⟩
      rcases List.mem_cons.1 hy with rfl | hy
      · exact hc
      · have:=hp.1 y hy; show u.To < y.From; omega
    · rw [if_neg hc]
      obtain ⟨B,j⟩:=jB_ok r ⟨min u.From p.From,max u.To p.To⟩ (by show min u.From p.From < max u.To p.To; omega) hp.2 (fun x hx=>hn x (by simp [hx])) (fun y hy=>by have:=ht y (by simp [hy]); show min u.From p.From ≤ _; omega)
      have j1 : _ ≤ min u.From p.From:=j.f
      have j2 : max u.To p.To ≤ _:=j.t
      refine ⟨p :: B,congrArg (List.cons p) j.sp,by omega,by omega,j.c,fun n=>?_,?_,?_⟩
      · rw [j.m, mem_cons]
        show ((min u.From p.From ≤ n ∧ n < max u.To p.To) ∨ _) ↔ _
        constructor
        · rintro (h | h)
          · by_cases hh : u.From ≤ n ∧ n < u.To
            · exact .inl hh
            · exact .inr (.inl (by omega))
          · exact .inr (.inr h)
        · rintro (h | h | h)
          · exact .inl (by omega)
          · exact .inl (by omega)
          · exact .inr h
      · rcases j.vf with h | ⟨y, hy, h⟩
        · have h : _ = min u.From p.From := h
          by_cases hh : u.From ≤ p.From
          · left; omega
          · right; exact ⟨p,by simp,by omega⟩
        · right; exact ⟨y,by simp [hy],h⟩
      · rcases j.vt with h | ⟨y, hy, h⟩
        · have h : _ = max u.To p.To := h
          by_cases hh : p.To ≤ u.To
          · left; omega
          · right; exact ⟨p,by simp,by omega⟩
        · right; exact ⟨y,by simp [hy],h⟩
def jA (x : Iv) (l : List Iv) : List Iv:=l.takeWhile fun p=>decide (p.To < x.From)
def jR (x : Iv) (l : List Iv) : List Iv:=l.dropWhile fun p=>decide (p.To < x.From)
def sZ (x : Iv) (l : List Iv) : List Iv:=jA x l ++ [(jB x (jR x l)).1] ++ (jB x (jR x l)).2
theorem jA_R (x : Iv) (l : List Iv) : jA x l ++ jR x l = l:=List.takeWhile_append_dropWhile
theorem jA_lt {x : Iv} {l : List Iv} : ∀ y ∈ jA x l,y.To < x.From:=fun y hy=>by
  have:=List.all_takeWhile (p:=fun p : Iv=>decide (p.To < x.From)) (l:=l)
  exact of_decide_eq_true (List.all_eq_true.1 this y hy)
theorem jR_ge {x : Iv} : ∀ {l : List Iv},l.Pairwise (fun x y=>x.To < y.From) → (∀ x ∈ l,x.From < x.To) → ∀ y ∈ jR x l,x.From ≤ y.To
  | [],_,_=>fun _ h=>(List.not_mem_nil h).elim
  | p :: r, hp, hn => by
    have hp:=List.pairwise_cons.1 hp
    unfold jR
    rw [List.dropWhile_cons]
    split
    · exact jR_ge hp.2 (fun x hx=>hn x (by simp [hx]))
    · rename_i h
      intro y hy
      have h : ¬ p.To < x.From:=by simpa using h
      rcases List.mem_cons.1 hy with rfl | hy
      · omega
      · have:=hp.1 y hy; have:=hn y (by simp [hy]); omega
structure aBG (x : Iv) (l : List Iv) (A : List Iv) (v : Iv) (B C : List Iv) : Prop where
  e : sZ x l = A ++ [v] ++ C
  sp : l = A ++ (B ++ C)
  j : Jd x (B ++ C) v C B
  a : ∀ y ∈ A,y.To < x.From
  av : ∀ y ∈ A,y.To < v.From
theorem aBa {x : Iv} {l : List Iv} (hx : x.From < x.To) (h : VS l) : ∃ A v B C,aBG x l A v B C:=by
  have hs:=jA_R x l
  have hpw:=h.pw
  rw [← hs] at hpw
  have hpw:=List.pairwise_append.1 hpw
  obtain ⟨B,j⟩:=jB_ok (jR x l) x hx hpw.2.1 (fun y hy=>h.ne y (by rw [← hs]; simp [hy])) (jR_ge h.pw h.ne)
  refine ⟨jA x l,(jB x (jR x l)).1,B,(jB x (jR x l)).2,rfl,by rw [← j.sp,hs],by rw [← j.sp]; exact j,jA_lt,fun y hy=>?_⟩
  rcases j.vf with h1 | ⟨z,hz,h1⟩
  · rw [h1]; exact jA_lt y hy
  · rw [h1]
    exact hpw.2.2 y hy z (by rw [j.sp]; simp [hz])
theorem aAW {x : Iv} {l A B C : List Iv} {v : Iv} (h : VS l) (k : aBG x l A v B C) (hx : x.From < x.To) (h0 : 0 ≤ x.From) (h1 : x.To ≤ 4398046511104) : VS (A ++ [v] ++ C):=by
  have hA : ∀ y ∈ A,y ∈ l:=fun y hy=>by rw [k.sp]; simp [hy]
  have hB : ∀ y ∈ B,y ∈ l:=fun y hy=>by rw [k.sp]; simp [hy]
  have hC : ∀ y ∈ C,y ∈ l:=fun y hy=>by rw [k.sp]; simp [hy]
  have hpw:=h.pw
  rw [k.sp] at hpw
  have p1:=List.pairwise_append.1 hpw
  have p2:=List.pairwise_append.1 p1.2.1
  have hf:=k.j.f; have ht:=k.j.t
  have hmem : ∀ y,y ∈ A ++ [v] ++ C ↔ y ∈ A ∨ y = v ∨ y ∈ C:=fun y=>by simp only [List.mem_append,List.mem_singleton,or_assoc]
  refine ⟨?_,fun y hy=>?_,fun y hy=>?_,fun y hy=>?_⟩
  · rw [List.pairwise_append, List.pairwise_append]
    refine ⟨⟨p1.1,by simp,fun a ha b hb=>by rw [List.mem_singleton.1 hb]; exact k.av a ha⟩,p2.2.1,fun a ha b hb=>?_⟩
    rcases List.mem_append.1 ha with ha | ha
    · exact p1.2.2 a ha b (by simp [hb])
    · rw [List.mem_singleton.1 ha]; exact k.j.c b hb
  · rcases (hmem y).1 hy with hy | rfl | hy
    · exact h.ne y (hA y hy)
    · omega
    · exact h.ne y (hC y hy)
  · rcases (hmem y).1 hy with hy | rfl | hy
    · exact h.lo y (hA y hy)
    · rcases k.j.vf with h2 | ⟨z, hz, h2⟩
      · omega
      · rw [h2]; exact h.lo z (hB z hz)
    · exact h.lo y (hC y hy)
  · rcases (hmem y).1 hy with hy | rfl | hy
    · exact h.hi y (hA y hy)
    · rcases k.j.vt with h2 | ⟨z, hz, h2⟩
      · omega
      · rw [h2]; exact h.hi z (hB z hz)
    · exact h.hi y (hC y hy)
def mJ (b : Int) (l : List Iv) (h : Int) : Prop:=b ≤ h ∧ (∀ y ∈ l,y.To ≤ h) ∧ (h = b ∨ ∃ y ∈ l,y.To = h)
theorem mJ.uniq {b : Int} {l : List Iv} {h k : Int} (p : mJ b l h) (q : mJ b l k) : h = k:=by
  obtain ⟨p1,p2,p3⟩:=p
  obtain ⟨q1,q2,q3⟩:=q
  have a : h ≤ k:=by
    rcases p3 with e | ⟨y,hy,e⟩
    · omega
    · have:=q2 y hy; omega
  have b : k ≤ h:=by
    rcases q3 with e | ⟨y,hy,e⟩
    · omega
    · have:=p2 y hy; omega
  omega
theorem xW {x : Iv} {l A B C : List Iv} {v : Iv} {b h : Int} (k : aBG x l A v B C) (hne : ∀ y ∈ l, y.From < y.To) (hb : b ≤ x.From) (hx : x.From < x.To) (hh : mJ b l h) : mJ b (A ++ [v] ++ C) (max h x.To) ∧ (A = [] → mJ v.To C (max h x.To)) := by
  obtain ⟨p1,p2,p3⟩:=hh
  have hA : ∀ y ∈ A,y ∈ l:=fun y hy=>by rw [k.sp]; simp [hy]
  have hB : ∀ y ∈ B,y ∈ l:=fun y hy=>by rw [k.sp]; simp [hy]
  have hC : ∀ y ∈ C,y ∈ l:=fun y hy=>by rw [k.sp]; simp [hy]
  have hf:=k.j.f; have ht:=k.j.t
  have hmem : ∀ y,y ∈ A ++ [v] ++ C ↔ y ∈ A ∨ y = v ∨ y ∈ C:=fun y=>by simp only [List.mem_append,List.mem_singleton,or_assoc]
  have hv : v.To ≤ max h x.To:=by
    rcases k.j.vt with e | ⟨y,hy,e⟩
    · omega
    · have:=p2 y (hB y hy); omega
  have hex : max h x.To = v.To ∨ (∃ y ∈ A,y.To = max h x.To) ∨ ∃ y ∈ C,y.To = max h x.To:=by
    by_cases hc : h ≤ x.To
    · left; omega
    · rcases p3 with e | ⟨y, hy, e⟩
      · omega
      · rw [k.sp] at hy
        rcases List.mem_append.1 hy with hy | hy
        · exact .inr (.inl ⟨y,hy,by omega⟩)
        · rcases List.mem_append.1 hy with hy | hy
          · left
            have:=hne y (hB y hy)
            have:=(k.j.m (y.To - 1)).2 (.inr ⟨y,hy,by omega,by omega⟩)
            omega
          · exact .inr (.inr ⟨y,hy,by omega⟩)
  refine ⟨⟨by omega,fun y hy=>?_,?_⟩,fun hA0=>⟨by omega,fun y hy=>by have:=p2 y (hC y hy); omega,?_⟩⟩
  · rcases (hmem y).1 hy with hy | rfl | hy
    · have:=p2 y (hA y hy); omega
    · exact hv
    · have:=p2 y (hC y hy); omega
  · right
    rcases hex with e | ⟨y,hy,e⟩ | ⟨y,hy,e⟩
    · exact ⟨v,by simp,e.symm⟩
    · exact ⟨y,(hmem y).2 (.inl hy),e⟩
    · exact ⟨y,(hmem y).2 (.inr (.inr hy)),e⟩
  · rcases hex with e | ⟨y, hy, e⟩ | ⟨y, hy, e⟩
    · exact .inl e
    · rw [hA0] at hy; exact (List.not_mem_nil hy).elim
    · exact .inr ⟨y,hy,e⟩
end Go.Fn
open Go Go.IL
namespace Go.Fn
theorem vX (W : List UInt8) (a b : Int) : (sl W a b).length ≤ W.length:=by unfold sl; rw [List.length_drop,List.length_take]; omega
abbrev Pt:=aN
abbrev R12:=bJ
def pt (W : List UInt8) (x : Iv) : Pt:=⟨x.From,sl W x.From x.To⟩
theorem uD {W : List UInt8} {x : Iv} (h0 : 0 ≤ x.From) (h1 : x.From < x.To) (h2 : x.To ≤ (W.length : Int)) (hw : W.length ≤ 100000) : eN (pt W x) = some x.To:=by
  have:=kF (W:=W) h0 (by omega : x.From ≤ x.To) h2
  unfold eN pt
  simp only [bndD,this,w64 (show -9223372036854775808 ≤ x.From + (x.To - x.From) by omega) (by omega)]
  congr 1; omega
structure RQ (W : List UInt8) (I : List Iv) (s : R12) : Prop where
  wl : W.length ≤ 100000
  b0 : 0 ≤ s.Base
  bw : s.Base ≤ (W.length : Int)
  rl : (s.Ready.length : Int) ≤ s.Base
  rm : s.Ready.length ≤ 4096
  rd : s.Ready = sl W (s.Base - s.Ready.length) s.Base
  ps : s.Parts = I.map (pt W)
  vs : VS I
  ib : ∀ x ∈ I,s.Base < x.From ∧ x.To ≤ (W.length : Int)
  lim : ∀ x ∈ I,x.To ≤ s.Base - s.Ready.length + 4096
theorem RQ.il {W : List UInt8} {I : List Iv} {s : R12} (h : RQ W I s) : I.length ≤ 100000:=by
  have:=vS h.vs.pw h.vs.ne (fun x hx=>⟨by have:=(h.ib x hx).1; omega,(h.ib x hx).2⟩) h.bw
  have:=h.wl; have:=h.b0
  omega
theorem RQ.pl {W : List UInt8} {I : List Iv} {s : R12} (h : RQ W I s) : s.Parts.length ≤ 100000:=by rw [h.ps,List.length_map]; exact h.il
theorem aB5 {W : List UInt8} {I : List Iv} {s : R12} (h : RQ W I s) : kI s = some (s.Base - s.Ready.length + 4096):=by
  have a:=h.wl; have b:=h.b0; have c:=h.bw; have d:=h.rl
  unfold kI
  simp only [bndD,w64 (show -9223372036854775808 ≤ s.Base - (s.Ready.length : Int) by omega) (by omega),w64 (show -9223372036854775808 ≤ s.Base - (s.Ready.length : Int) + 4096 by omega) (by omega)]
  congr 1; omega
theorem yO {W : List UInt8} {I : List Iv} {s : R12} (h : RQ W I s) : ∀ (r p : List Iv) (f : Nat) (e : Int),I = p ++ r → r.length < f → (∀ y ∈ r,e < y.From) → fR s (s.Base - s.Ready.length + 4096) f e (p.length : Int) = some 0
  | [], p, f + 1, e, hs, _, _ => by
    have h1 : s.Parts = p.map (pt W) ++ []:=by rw [h.ps,hs,List.map_append]; rfl
    have h2:=qB h1
    rw [List.length_map] at h2
    unfold fR
    simp only [bndD,h2,cA]
  | x :: r, p, f + 1, e, hs, hf, he => by
    have h1 : s.Parts = p.map (pt W) ++ pt W x :: r.map (pt W):=by rw [h.ps,hs,List.map_append]; rfl
    have h2:=nT h1
    have h3:=iP h1
    have h4:=w_at h1 (by have:=h.pl; omega)
    rw [List.length_map] at h2 h3 h4
    have h5 : ((p.map (pt W) ++ [pt W x]).length : Int) = ((p ++ [x]).length : Int):=by simp
    rw [h5] at h4
    have hx : x ∈ I:=by rw [hs]; simp
    have a:=h.wl; have b:=h.b0; have c:=h.bw; have d:=h.rl
    have i1:=h.ib x hx; have i2:=h.vs.ne x hx; have i3:=h.lim x hx
    have hl:=kF (W:=W) (show 0 ≤ x.From by omega) (by omega : x.From ≤ x.To) i1.2
    have he1:=he x (by simp)
    have hne : (pt W x).Data ≠ []:=fun hq=>by
      have hq : sl W x.From x.To = []:=hq
      rw [hq] at hl; simp at hl; omega
    have hat : (pt W x).At = x.From:=rfl
    have hdl : ((pt W x).Data.length : Int) = x.To - x.From:=hl
    unfold fR
    simp only [bndD,h2,cR,h3,bnoS,hat,decide_eq_false (show ¬ x.From ≤ e by omega),decide_eq_false hne,Bool.or_self,decide_eq_false (show ¬ s.Base - (s.Ready.length : Int) + 4096 < x.From by omega),w64 (show -9223372036854775808 ≤ s.Base - (s.Ready.length : Int) + 4096 - x.From by omega) (by omega),hdl,decide_eq_false (show ¬ s.Base - (s.Ready.length : Int) + 4096 - x.From < x.To - x.From by omega),cA,uD (show 0 ≤ x.From by omega) i2 i1.2 a,h4]
    refine yO h r (p ++ [x]) f x.To (iM hs) (by simpa using hf) (fun y hy=>?_)
    have:=h.vs.pw
    rw [hs] at this
    exact (List.pairwise_cons.1 (List.pairwise_append.1 this).2.1).1 y hy
theorem aAM {W : List UInt8} {I : List Iv} {s : R12} (h : RQ W I s) : jN s = some 0:=by
  have a:=h.wl; have b:=h.b0; have c:=h.bw; have d:=h.rl; have e:=h.rm
  unfold jN
  simp only [bndD,decide_eq_false (show ¬ s.Base < 0 by omega),decide_eq_false (show ¬ 1099511627776 < s.Base by omega),Bool.or_self,decide_eq_false (show ¬ min s.Base 4096 < (s.Ready.length : Int) by omega),cA,aB5 h,bnoS]
  exact yO h I [] fuel s.Base rfl (gC (by have:=h.il; omega)) (fun y hy=>(h.ib y hy).1)
theorem aB6 {l : List Pt} (hl : l.length ≤ 100000) : dC l = some l:=by
  unfold dC
  have h : (bno (app 24 ([] : (List aN)) l) fun x3=>some x3) = some l:=by
    rw [mI (by simp; omega) (by simp; omega),bnoS,List.nil_append]
  rw [h,rB]
  rintro rfl; rfl
theorem rhigh {W : List UInt8} {I : List Iv} {s : R12} (h : RQ W I s) (e : Int) : ∃ k, gD ⟨s, e⟩ = some k ∧ mJ s.Base I k := by
  unfold gD
  rcases List.eq_nil_or_concat I with hI | ⟨p,y,hI⟩
  · have hp : s.Parts = [] := by rw [h.ps, hI]; rfl
    refine ⟨s.Base,?_,Int.le_refl _,fun y hy=>by rw [hI] at hy; exact (List.not_mem_nil hy).elim,.inl rfl⟩
    simp only [bndD,hp,List.length_nil,show decide ((0 : Int) < ((0 : Nat) : Int)) = false from rfl,cA]
  · rw [List.concat_eq_append] at hI
    have hp : s.Parts = p.map (pt W) ++ [pt W y]:=by rw [h.ps,hI,List.map_append]; rfl
    have hpl:=h.pl
    have hlen : (s.Parts.length : Int) = (p.length : Int) + 1:=by rw [hp]; simp
    have hg : gix s.Parts (p.length : Int) = some (pt W y):=by
      have:=iP (r:=[]) hp
      rwa [List.length_map] at this
    have hy : y ∈ I:=by rw [hI]; simp
    have a:=h.wl; have b:=h.b0
    have i1:=h.ib y hy; have i2:=h.vs.ne y hy
    have hl:=kF (W:=W) (show 0 ≤ y.From by omega) (by omega : y.From ≤ y.To) i1.2
    have hdl : ((pt W y).Data.length : Int) = y.To - y.From:=hl
    have hat : (pt W y).At = y.From:=rfl
    have hw : IntKind.wrap .i64 ((s.Parts.length : Int) - 1) = (p.length : Int):=by rw [hlen,w64 (by omega) (by omega)]; omega
    refine ⟨y.To,?_,by omega,fun z hz=>?_,.inr ⟨y,hy,rfl⟩⟩
    · simp only [bndD, decide_eq_true (show (0 : Int) < (s.Parts.length : Int) by omega), cR, hw, hg, bnoS, hat, hdl, w64 (show -9223372036854775808 ≤ y.From + (y.To - y.From) by omega) (by omega)]
      have q : y.From + (y.To - y.From) = y.To:=by omega
      rw [q]
    · rw [hI] at hz
      rcases List.mem_append.1 hz with hz | hz
      · have := h.vs.pw
        rw [hI] at this
        have:=(List.pairwise_append.1 this).2.2 z hz y (by simp)
        omega
      · rw [List.mem_singleton.1 hz]; exact Int.le_refl _
theorem aCA {s : R12} (hl : s.Parts.length ≤ 100000) : ∀ (r p : List Pt) (f : Nat) (v : Int),s.Parts = p ++ r → r.length < f → ∃ n,gJ s f v (p.length : Int) = some n
  | [], p, f + 1, v, hs, _ => by
    unfold gJ
    simp only [bndD,qB hs,cA]
    exact ⟨_,rfl⟩
  | x :: r, p, f + 1, v, hs, hf => by
    unfold gJ
    simp only [bndD,nT hs,cR,iP hs,bnoS,w_at hs (by omega)]
    exact aCA hl r (p ++ [x]) f _ (iM hs) (by simpa using hf)
theorem held {s : R12} (hl : s.Parts.length ≤ 100000) : ∃ n,mS s = some n:=aCA hl s.Parts [] fuel _ rfl (gC (by omega))
theorem aAZ (x : Iv) : sZ x [] = [x]:=rfl
theorem aBb {x y : Iv} {r : List Iv} (h : y.To < x.From) : sZ x (y :: r) = y :: sZ x r:=by
  unfold sZ jA jR
  rw [List.takeWhile_cons,List.dropWhile_cons,decide_eq_true h]; rfl
theorem aBc {x y : Iv} {r : List Iv} (h : ¬ y.To < x.From) : sZ x (y :: r) = (jB x (y :: r)).1 :: (jB x (y :: r)).2:=by
  unfold sZ jA jR
  rw [List.takeWhile_cons,List.dropWhile_cons,decide_eq_false h]; rfl
structure JI (W : List UInt8) (I : List Iv) : Prop where
  wl : W.length ≤ 100000
  il : I.length ≤ 100000
  pw : I.Pairwise (fun x y=>x.To < y.From)
  ne : ∀ x ∈ I,x.From < x.To
  lo : ∀ x ∈ I,0 ≤ x.From
  hi : ∀ x ∈ I,x.To ≤ (W.length : Int)
theorem aAY {W : List UInt8} {I : List Iv} (h : JI W I) {r q : List Iv} {out : List Pt} (ho : out.length ≤ 100000) (hs : I = q ++ r) (x : Pt) : hM (I.map (pt W)) out (q.length : Int) x.At x.Data = some (out ++ (x :: r.map (pt W))):=by
  have h1 : I.map (pt W) = q.map (pt W) ++ r.map (pt W):=by rw [hs,List.map_append]
  have h2:=aBs h1
  rw [List.length_map] at h2
  have hil:=h.il
  have hrl : r.length ≤ I.length:=by rw [hs]; simp
  unfold hM
  rw [mI (by simp; omega) (by simp; omega),bnoS,h2,bnoS,mI (by simp; omega) (by simp; omega),bnoS]
  simp
theorem xX {W : List UInt8} {I : List Iv} (h : JI W I) {out : List Pt} (ho : out.length ≤ 100000) : ∀ (r q : List Iv) (f : Nat) (u : Iv), I = q ++ r → r.length < f → 0 ≤ u.From → u.From < u.To → u.To ≤ (W.length : Int) → (∀ y ∈ r, u.From ≤ y.To) →
    eM (I.map (pt W)) out f (q.length : Int) u.From (sl W u.From u.To) = some (out ++ ((jB u r).1 :: (jB u r).2).map (pt W))
  | [], q, f + 1, u, hs, _, _, _, _, _ => by
    have h1 : I.map (pt W) = q.map (pt W) ++ []:=by rw [hs,List.map_append]; rfl
    have h2:=qB h1
    rw [List.length_map] at h2
    unfold eM
    simp only [bndD,h2,cA]
    exact aAY h ho hs (pt W u)
  | y :: r, q, f + 1, u, hs, hf, u0, u1, u2, hu => by
    have h1 : I.map (pt W) = q.map (pt W) ++ pt W y :: r.map (pt W):=by rw [hs,List.map_append]; rfl
    have h2:=nT h1
    have h3:=iP h1
    have h4:=w_at h1 (by rw [List.length_map]; have:=h.il; omega)
    rw [List.length_map] at h2 h3 h4
    have h5 : ((q.map (pt W) ++ [pt W y]).length : Int) = ((q ++ [y]).length : Int):=by simp
    rw [h5] at h4
    have hy : y ∈ I:=by rw [hs]; simp
    have a:=h.wl; have i1:=h.hi y hy; have i2:=h.ne y hy; have i3:=h.lo y hy
    have hul:=kF (W:=W) u0 (by omega : u.From ≤ u.To) u2
    have hyl:=kF (W:=W) i3 (by omega : y.From ≤ y.To) i1
    have hat : (pt W y).At = y.From:=rfl
    have hda : (pt W y).Data = sl W y.From y.To:=rfl
    have hyu:=hu y (by simp)
    have hpe : eN (⟨u.From,sl W u.From u.To⟩ : Pt) = some u.To:=uD u0 u1 u2 a
    unfold eM
    simp only [bndD,h2,cR,h3,bnoS,hpe,hat]
    by_cases hc : u.To < y.From
    · rw [decide_eq_true hc, cR]
      have:=aAY h ho hs (pt W u)
      unfold jB
      rw [if_pos hc]
      exact this
    · rw [decide_eq_false hc, cA]
      have hj : jB u (y :: r) = jB ⟨min u.From y.From,max u.To y.To⟩ r:=by
        conv=>lhs; unfold jB
        rw [if_neg hc]
      have hnx : ∀ z ∈ r,min u.From y.From ≤ z.To:=fun z hz=>by have:=hu z (by simp [hz]); omega
      have ih:=xX h ho r (q ++ [y]) f ⟨min u.From y.From,max u.To y.To⟩ (iM hs) (by simpa using hf) (by show 0 ≤ min u.From y.From; omega) (by show min u.From y.From < max u.To y.To; omega) (by show max u.To y.To ≤ _; omega) hnx
      rw [hj,← ih]
      show _ = eM (I.map (pt W)) out f ((q ++ [y]).length : Int) (min u.From y.From) (sl W (min u.From y.From) (max u.To y.To))
      by_cases hd : y.From ≤ u.From
      · rw [decide_eq_true hd, cR, uD i3 i2 i1 a, bnoS]
        simp only [w64 (show -9223372036854775808 ≤ y.To - u.From by omega) (by omega),hul,hda]
        rw [sF u0 (by omega) u2 (by omega) (by omega) (by omega),bnoS,tM (by have q1:=vX W (u.From + min (u.To - u.From) (y.To - u.From)) (u.From + (u.To - u.From)); have q2:=vX W u.From y.To; have q3:=vX W y.From y.To; omega),bnoS,h4]
        congr 1
        · omega
        · rw [show u.From + (u.To - u.From) = u.To by omega]
          by_cases he : y.To ≤ u.To
          · rw [show u.From + min (u.To - u.From) (y.To - u.From) = y.To by omega,vZ i3 (by omega) he u2,show min u.From y.From = y.From by omega,show max u.To y.To = u.To by omega]
          · rw [show u.From + min (u.To - u.From) (y.To - u.From) = u.To by omega,uA (Int.le_refl _),List.append_nil,show min u.From y.From = y.From by omega,show max u.To y.To = y.To by omega]
      · rw [decide_eq_false hd, cA]
        simp only [w64 (show -9223372036854775808 ≤ y.From - u.From by omega) (by omega),hda]
        rw [sF u0 (by omega) u2 (by omega) (by omega) (by omega),bnoS,show u.From + (0 : Int) = u.From by omega,show u.From + (y.From - u.From) = y.From by omega]
        have hc1 : cat (sl W u.From y.From) (sl W y.From y.To) = some (sl W u.From y.To):=by
          rw [tM (by have:=kF (W:=W) u0 (by omega : u.From ≤ y.From) (by omega); omega),vZ u0 (by omega) (by omega) i1]
        rw [hc1,bnoS,uD i3 i2 i1 a,bnoS]
        simp only [w64 (show -9223372036854775808 ≤ y.To - u.From by omega) (by omega),hul]
        rw [sF u0 (by omega) u2 (by omega) (by omega) (by omega),bnoS,tM (by have q1:=vX W (u.From + min (u.To - u.From) (y.To - u.From)) (u.From + (u.To - u.From)); have q2:=vX W u.From y.To; have q3:=vX W y.From y.To; omega),bnoS,h4]
        congr 1
        · omega
        · rw [show u.From + (u.To - u.From) = u.To by omega]
          by_cases he : y.To ≤ u.To
          · rw [show u.From + min (u.To - u.From) (y.To - u.From) = y.To by omega,vZ u0 (by omega) he u2,show min u.From y.From = u.From by omega,show max u.To y.To = u.To by omega]
          · rw [show u.From + min (u.To - u.From) (y.To - u.From) = u.To by omega,uA (Int.le_refl _),List.append_nil,show min u.From y.From = u.From by omega,show max u.To y.To = y.To by omega]
theorem aAX {W : List UInt8} {I : List Iv} (h : JI W I) {x : Iv} (x0 : 0 ≤ x.From) (x1 : x.From < x.To) (x2 : x.To ≤ (W.length : Int)) : ∀ (r p : List Iv) (f : Nat), I = p ++ r → r.length < f →
    fJ (I.map (pt W)) (pt W x) f (p.map (pt W)) (p.length : Int) = some ((p ++ sZ x r).map (pt W))
  | [], p, f + 1, hs, _ => by
    have h1 : I.map (pt W) = p.map (pt W) ++ []:=by rw [hs,List.map_append]; rfl
    have h2:=qB h1
    rw [List.length_map] at h2
    have hil:=h.il
    have hpl : p.length ≤ I.length:=by rw [hs]; simp
    unfold fJ
    simp only [bndD,h2,ft,gdff,bnoS,Bool.false_and,cA]
    have:=xX h (out:=p.map (pt W)) (by rw [List.length_map]; omega) [] p fuel x hs (gC (by decide)) x0 x1 x2 (fun _ h=>(List.not_mem_nil h).elim)
    rw [aAZ,List.map_append]
    exact this
  | y :: r, p, f + 1, hs, hf => by
    have h1 : I.map (pt W) = p.map (pt W) ++ pt W y :: r.map (pt W):=by rw [hs,List.map_append]; rfl
    have h2:=nT h1
    have h3:=iP h1
    have h4:=w_at h1 (by rw [List.length_map]; have:=h.il; omega)
    rw [List.length_map] at h2 h3 h4
    have h5 : ((p.map (pt W) ++ [pt W y]).length : Int) = ((p ++ [y]).length : Int):=by simp
    rw [h5] at h4
    have hil:=h.il
    have hpl : p.length ≤ I.length:=by rw [hs]; simp
    have hy : y ∈ I:=by rw [hs]; simp
    have a:=h.wl; have i1:=h.hi y hy; have i2:=h.ne y hy; have i3:=h.lo y hy
    have hat : (pt W x).At = x.From:=rfl
    unfold fJ
    simp only [bndD,h2,beq_self_eq_true,gdtt,h3,bnoS,uD i3 i2 i1 a,Bool.true_and,hat]
    by_cases hc : y.To < x.From
    · rw [decide_eq_true hc, cR, mI (by simp; omega) (by simp; omega), bnoS, h4, aBb hc]
      have ih:=aAX h x0 x1 x2 r (p ++ [y]) f (iM hs) (by simpa using hf)
      rw [List.map_append,List.append_assoc] at ih
      exact ih
    · rw [decide_eq_false hc, cA, aBc hc]
      have hr : ∀ z ∈ y :: r,x.From ≤ z.To:=fun z hz=>by
        rcases List.mem_cons.1 hz with rfl | hz
        · omega
        · have := h.pw
          rw [hs] at this
          have:=(List.pairwise_cons.1 (List.pairwise_append.1 this).2.1).1 z hz
          have:=h.ne z (by rw [hs]; simp [hz])
          omega
      have:=xX h (out:=p.map (pt W)) (by rw [List.length_map]; omega) (y :: r) p fuel x hs (gC (by have q:=congrArg List.length hs; rw [List.length_append] at q; omega)) x0 x1 x2 hr
      rw [List.map_append]
      exact this
theorem join_eq {W : List UInt8} {I : List Iv} (h : JI W I) {x : Iv} (x0 : 0 ≤ x.From) (x1 : x.From < x.To) (x2 : x.To ≤ (W.length : Int)) : kR (I.map (pt W)) (pt W x) = some ((sZ x I).map (pt W)) :=
  aAX h x0 x1 x2 I [] fuel rfl (gC (by have:=h.il; omega))
end Go.Fn
open Go Go.IL
namespace Go.Fn
theorem ji_of {W : List UInt8} {I : List Iv} {s : R12} (h : RQ W I s) : JI W I:=⟨h.wl,h.il,h.vs.pw,h.vs.ne,h.vs.lo,fun x hx=>(h.ib x hx).2⟩
structure Puts (W : List UInt8) (s s' : R12) (I I' : List Iv) (at_ to : Int) : Prop where
  rq : RQ W I' s'
  rd : s'.Base - s'.Ready.length = s.Base - s.Ready.length
  hi : ∀ h,mJ s.Base I h → mJ s'.Base I' (if at_ < to then max h to else h)
  bs : s.Base ≤ s'.Base
  hs : ∀ n,(n < s.Base ∨ mem n I ∨ (at_ ≤ n ∧ n < to)) → n < s'.Base ∨ mem n I'
theorem wB {s : R12} {a : Int} {str : List UInt8} (hs : str = []) : iB s s.Parts a str = some (s,0):=by
  unfold iB
  rw [hs]
  simp only [bndD,decide_true,cR]
theorem wC {W : List UInt8} {I : List Iv} {s : R12} (h : RQ W I s) {a to : Int} (h0 : s.Base ≤ a) (h1 : a < to) (h2 : to ≤ (W.length : Int)) (h3 : to ≤ s.Base - s.Ready.length + 4096) :
    ∃ s' I' n,iB s s.Parts a (sl W a to) = some (s',n) ∧ RQ W I' s' ∧ s'.Base - s'.Ready.length = s.Base - s.Ready.length ∧ (∀ k,mJ s.Base I k → mJ s'.Base I' (max k to)) ∧ s.Base ≤ s'.Base ∧ ∀ n,(n < s.Base ∨ mem n I ∨ (a ≤ n ∧ n < to)) → n < s'.Base ∨ mem n I':=by
  have wl:=h.wl; have b0:=h.b0; have bw:=h.bw; have rl:=h.rl; have rm:=h.rm
  have hl:=kF (W:=W) (show 0 ≤ a by omega) (by omega : a ≤ to) h2
  have hne : sl W a to ≠ []:=fun hq=>by rw [hq] at hl; simp at hl; omega
  have hji:=ji_of h
  obtain ⟨n0,hn0⟩:=held h.pl
  have es : (⟨s.Base,s.Ready,s.Parts⟩ : R12) = s:=rfl
  have hx : (⟨a,to⟩ : Iv).From < (⟨a,to⟩ : Iv).To:=h1
  have hj : kR s.Parts (⟨a,sl W a to⟩ : Pt) = some ((sZ ⟨a,to⟩ I).map (pt W)):=by
    rw [h.ps]; exact join_eq hji (x:=⟨a,to⟩) (by show 0 ≤ a; omega) h1 h2
  obtain ⟨A,v,B,C,k⟩:=aBa hx h.vs
  have hvs:=aAW h.vs k hx (by show 0 ≤ a; omega) (by show to ≤ _; omega)
  have hhi : ∀ q,mJ s.Base I q → _:=fun q hq=>xW k h.vs.ne (show s.Base ≤ (⟨a,to⟩ : Iv).From from h0) hx hq
  have hA : ∀ y ∈ A,y ∈ I:=fun y hy=>by rw [k.sp]; simp [hy]
  have hB : ∀ y ∈ B,y ∈ I:=fun y hy=>by rw [k.sp]; simp [hy]
  have hC : ∀ y ∈ C,y ∈ I:=fun y hy=>by rw [k.sp]; simp [hy]
  have hmem : ∀ y,y ∈ A ++ [v] ++ C ↔ y ∈ A ∨ y = v ∨ y ∈ C:=fun y=>by simp only [List.mem_append,List.mem_singleton,or_assoc]
  have hin : ∀ n,(mem n I ∨ (a ≤ n ∧ n < to)) → mem n A ∨ (v.From ≤ n ∧ n < v.To) ∨ mem n C:=fun n hn=>by
    rcases hn with ⟨y,hy,h5⟩ | h5
    · rw [k.sp] at hy
      rcases List.mem_append.1 hy with hy | hy
      · exact .inl ⟨y,hy,h5⟩
      · rcases List.mem_append.1 hy with hy | hy
        · exact .inr (.inl ((k.j.m n).2 (.inr ⟨y,hy,h5⟩)))
        · exact .inr (.inr ⟨y,hy,h5⟩)
    · exact .inr (.inl ((k.j.m n).2 (.inl h5)))
  have hinK : ∀ n,(n < s.Base ∨ mem n I ∨ (a ≤ n ∧ n < to)) → n < s.Base ∨ mem n (A ++ [v] ++ C):=fun n hn=>by
    rcases hn with h5 | h5
    · exact .inl h5
    · rcases hin n h5 with ⟨y, hy, h6⟩ | h6 | ⟨y, hy, h6⟩
      · exact .inr ⟨y,by simp [hy],h6⟩
      · exact .inr ⟨v,by simp,h6⟩
      · exact .inr ⟨y,by simp [hy],h6⟩
  have jf : v.From ≤ a:=k.j.f
  have jt : to ≤ v.To:=k.j.t
  have vf : s.Base ≤ v.From:=by
    rcases k.j.vf with e | ⟨y,hy,e⟩
    · have e : v.From = a := e
      omega
    · have:=(h.ib y (hB y hy)).1; omega
  have vt : v.To ≤ (W.length : Int) ∧ v.To ≤ s.Base - s.Ready.length + 4096:=by
    rcases k.j.vt with e | ⟨y,hy,e⟩
    · have e : v.To = to := e
      omega
    · have:=(h.ib y (hB y hy)).2; have:=h.lim y (hB y hy); omega
  have hvl:=kF (W:=W) (show 0 ≤ v.From by omega) (by omega : v.From ≤ v.To) vt.1
  have hJ1 : ∀ (b : Int) (r : List UInt8) (p : List Pt),p.length ≤ 100000 → ∃ n,jS n0 b r p = some ((⟨b,r,p⟩ : R12),n):=fun b r p hp=>by
    obtain ⟨m,hm⟩:=held (s:=⟨b,r,p⟩) hp
    unfold jS
    rw [hm,bnoS,bndD]
    exact ⟨_,rfl⟩
  have hJl : (sZ ⟨a,to⟩ I).length ≤ 100000:=by
    rw [k.e]
    have:=vS (a:=s.Base) (b:=(W.length : Int)) hvs.pw hvs.ne (fun y hy=>by
      rcases (hmem y).1 hy with hy | rfl | hy
      · have:=h.ib y (hA y hy); omega
      · omega
      · have:=h.ib y (hC y hy); omega) bw
    omega
  unfold iB
  simp only [bndD,decide_eq_false hne,cA,es,hn0,bnoS,hj]
  rw [k.e] at hJl ⊢
  have keep : v.From ≠ s.Base ∨ A ≠ [] → RQ W (A ++ [v] ++ C) ⟨s.Base,s.Ready,(A ++ [v] ++ C).map (pt W)⟩:=fun hh=>by
    have hvb : s.Base < v.From:=by
      rcases hh with hh | hh
      · omega
      · obtain ⟨y, hy⟩ := List.exists_mem_of_ne_nil A hh
        have:=k.av y hy; have:=(h.ib y (hA y hy)).1; have:=h.vs.ne y (hA y hy)
        omega
    refine ⟨wl,b0,bw,rl,rm,h.rd,rfl,hvs,fun y hy=>?_,fun y hy=>?_⟩
    · rcases (hmem y).1 hy with hy | rfl | hy
      · exact h.ib y (hA y hy)
      · exact ⟨hvb,vt.1⟩
      · exact h.ib y (hC y hy)
    · rcases (hmem y).1 hy with hy | rfl | hy
      · exact h.lim y (hA y hy)
      · exact vt.2
      · exact h.lim y (hC y hy)
  cases A with
  | cons y A =>
    have hy:=(h.ib y (hA y (by simp))).1
    have hg : gix ((y :: A ++ [v] ++ C).map (pt W)) 0 = some (pt W y):=rfl
    have hg2 : ((y :: A ++ [v] ++ C).map (pt W))[(0 : Int).toNat]? = some (pt W y):=rfl
    have hat : (pt W y).At = y.From:=rfl
    rw [hg,bnoS,hg2,bnoS,hat,decide_eq_false (show ¬ y.From = s.Base by omega),cA]
    obtain ⟨n,hn⟩:=hJ1 s.Base s.Ready ((y :: A ++ [v] ++ C).map (pt W)) (by rw [List.length_map]; exact hJl)
    exact ⟨_,_,n,hn,keep (.inr (by simp)),rfl,fun q hq=>(hhi q hq).1,Int.le_refl _,hinK⟩
  | nil =>
    have hg : gix (([] ++ [v] ++ C).map (pt W)) 0 = some (pt W v):=rfl
    have hg2 : (([] ++ [v] ++ C).map (pt W))[(0 : Int).toNat]? = some (pt W v):=rfl
    have hat : (pt W v).At = v.From:=rfl
    have hda : (pt W v).Data = sl W v.From v.To:=rfl
    rw [hg,bnoS,hg2,bnoS,hat]
    by_cases hc : v.From = s.Base
    · rw [decide_eq_true hc, cR, uD (show 0 ≤ v.From by omega) (by omega) vt.1 wl, bnoS, hda]
      have hcat : cat s.Ready (sl W v.From v.To) = some (sl W (s.Base - s.Ready.length) v.To):=by
        rw [tM (by omega),hc]
        congr 1
        conv=>lhs; rw [h.rd]
        exact vZ (by omega) (by omega) (by omega) vt.1
      have hnl:=kF (W:=W) (show 0 ≤ s.Base - (s.Ready.length : Int) by omega) (by omega : s.Base - (s.Ready.length : Int) ≤ v.To) vt.1
      have hdel : dS 0 1 (([] ++ [v] ++ C).map (pt W)) = some (C.map (pt W)):=by
        unfold dS
        rw [delS_ok (by decide) (by decide) (by simp; omega)]; rfl
      rw [hcat,bnoS,hdel,bnoS]
      obtain ⟨n,hn⟩:=hJ1 v.To (sl W (s.Base - s.Ready.length) v.To) (C.map (pt W)) (by rw [List.length_map]; simp at hJl; omega)
      have hvC : VS C:=⟨(List.pairwise_append.1 hvs.pw).2.1,fun y hy=>hvs.ne y (by simp [hy]),fun y hy=>hvs.lo y (by simp [hy]),fun y hy=>hvs.hi y (by simp [hy])⟩
      refine ⟨_,C,n,hn,⟨wl,by show 0 ≤ v.To; omega,vt.1,?_,?_,?_,rfl,hvC,fun y hy=>⟨k.j.c y hy,(h.ib y (hC y hy)).2⟩,fun y hy=>?_⟩,?_,fun q hq=>(hhi q hq).2 rfl,by show s.Base ≤ v.To; omega,fun q hq=>?_⟩
      · show ((sl W _ _).length : Int) ≤ v.To; omega
      · show (sl W (s.Base - s.Ready.length) v.To).length ≤ 4096; omega
      · show sl W _ _ = sl W (v.To - ((sl W (s.Base - s.Ready.length) v.To).length : Int)) v.To
        rw [hnl]; congr 1; omega
      · have := h.lim y (hC y hy)
        show y.To ≤ v.To - ((sl W (s.Base - s.Ready.length) v.To).length : Int) + 4096
        omega
      · show v.To - ((sl W (s.Base - s.Ready.length) v.To).length : Int) = _
        omega
      · show q < v.To ∨ _
        rcases hq with h5 | h5
        · left; omega
        · rcases hin q h5 with ⟨y, hy, h6⟩ | h6 | h6
          · simp at hy
          · exact .inl h6.2
          · exact .inr h6
    · rw [decide_eq_false hc, cA]
      obtain ⟨n,hn⟩:=hJ1 s.Base s.Ready (([] ++ [v] ++ C).map (pt W)) (by rw [List.length_map]; exact hJl)
      exact ⟨_,_,n,hn,keep (.inl hc),rfl,fun q hq=>(hhi q hq).1,Int.le_refl _,hinK⟩
theorem rput {W : List UInt8} {I : List Iv} {s : R12} (h : RQ W I s) {at_ to : Int} (h0 : 0 ≤ at_) (h1 : at_ ≤ to) (h2 : to ≤ (W.length : Int)) (h3 : to ≤ s.Base - s.Ready.length + 4096) :
    ∃ s' I' n,oB s at_ (sl W at_ to) = some (s',n) ∧ Puts W s s' I I' at_ to:=by
  have a:=h.wl; have b:=h.b0; have c:=h.bw; have d:=h.rl; have e:=h.rm
  have hl:=kF (W:=W) h0 h1 h2
  have es : (⟨s.Base,s.Ready,s.Parts⟩ : R12) = s:=rfl
  unfold oB
  rw [aB6 h.pl,bnoS]
  simp only [bndD,decide_eq_false (show ¬ at_ < 0 by omega),decide_eq_false (show ¬ 1099511627776 < at_ by omega),Bool.or_self,beq_self_eq_true,gdtt,es,aAM h,bnoS,decide_true,Bool.not_true,cA,aB5 h]
  by_cases hc : s.Base - s.Ready.length + 4096 ≤ at_
  · rw [decide_eq_true hc, cR]
    exact ⟨s,I,0,rfl,h,rfl,fun k hk=>by rw [if_neg (by omega)]; exact hk,Int.le_refl _,fun n hn=>by rcases hn with hn | hn | hn; exact .inl hn; exact .inr hn; omega⟩
  · rw [decide_eq_false hc, cA]
    simp only [w64 (show -9223372036854775808 ≤ s.Base - (s.Ready.length : Int) + 4096 - at_ by omega) (by omega),hl]
    rw [sF h0 h1 h2 (by omega) (by omega) (by omega),bnoS,show at_ + (0 : Int) = at_ by omega,show at_ + min (to - at_) (s.Base - (s.Ready.length : Int) + 4096 - at_) = to by omega]
    by_cases hb : at_ < s.Base
    · rw [decide_eq_true hb, cR]
      simp only [w64 (show -9223372036854775808 ≤ s.Base - at_ by omega) (by omega),hl]
      rw [sF h0 h1 h2 (by omega) (by omega) (by omega),bnoS,show at_ + (to - at_) = to by omega]
      by_cases ht : to ≤ s.Base
      · rw [wB (uA (by omega))]
        refine ⟨s,I,0,rfl,h,rfl,fun k hk=>?_,Int.le_refl _,fun n hn=>by rcases hn with hn | hn | hn; exact .inl hn; exact .inr hn; omega⟩
        have:=hk.1
        split
        · rw [show max k to = k by omega]; exact hk
        · exact hk
      · rw [show at_ + min (to - at_) (s.Base - at_) = s.Base by omega]
        obtain ⟨s',I',n,q1,q2,q3,q4,q5,q6⟩:=wC h (a:=s.Base) (to:=to) (Int.le_refl _) (by omega) h2 h3
        exact ⟨s',I',n,q1,q2,q3,fun k hk=>by rw [if_pos (by omega)]; exact q4 k hk,q5,fun n hn=>q6 n (by rcases hn with hn | hn | hn; exact .inl hn; exact .inr (.inl hn); by_cases hz : n < s.Base; exact .inl hz; exact .inr (.inr ⟨by omega,hn.2⟩))⟩
    · rw [decide_eq_false hb, cA]
      by_cases ht : at_ < to
      · obtain ⟨s', I', n, q1, q2, q3, q4, q5, q6⟩ := wC h (a := at_) (to := to) (by omega) ht h2 h3
        exact ⟨s',I',n,q1,q2,q3,fun k hk=>by rw [if_pos ht]; exact q4 k hk,q5,q6⟩
      · rw [wB (uA (by omega))]
        exact ⟨s,I,0,rfl,h,rfl,fun k hk=>by rw [if_neg ht]; exact hk,Int.le_refl _,fun n hn=>by rcases hn with hn | hn | hn; exact .inl hn; exact .inr hn; omega⟩
theorem rread {W : List UInt8} {I : List Iv} {s : R12} (h : RQ W I s) (n : Int) (hn : n ≤ 100000) :
    ∃ s' m,mR s n = some (s',sl W (s.Base - s.Ready.length) (s.Base - s.Ready.length + m)) ∧ RQ W I s' ∧ s'.Base = s.Base ∧ 0 ≤ m ∧ m ≤ s.Ready.length ∧ s'.Base - s'.Ready.length = s.Base - s.Ready.length + m ∧ (1 ≤ n → m = min n s.Ready.length):=by
  have a:=h.wl; have b:=h.b0; have c:=h.bw; have d:=h.rl; have e:=h.rm
  have es : (⟨s.Base,s.Ready,s.Parts⟩ : R12) = s:=rfl
  unfold mR
  rw [aB6 h.pl,bnoS]
  by_cases hc : n < 1
  · simp only [bndD, decide_eq_true hc, tf, gdff, bnoS, Bool.true_or, cR, es]
    refine ⟨s,0,?_,h,rfl,by omega,by omega,by omega,by omega⟩
    rw [uA (by omega)]
  · simp only [bndD, decide_eq_false hc, beq_self_eq_true, gdtt, es, aAM h, bnoS, decide_true, Bool.not_true, Bool.or_self, cA]
    have hrd:=h.rd
    have hc1 : cut s.Ready 0 (min n s.Ready.length) = some (sl W (s.Base - s.Ready.length) (s.Base - s.Ready.length + min n s.Ready.length)):=by
      conv=>lhs; arg 1; rw [hrd]
      rw [sF (by omega) (by omega) c (by omega) (by omega) (by omega),show s.Base - (s.Ready.length : Int) + 0 = s.Base - s.Ready.length by omega]
    have hc2 : cut s.Ready (min n s.Ready.length) (s.Ready.length : Int) = some (sl W (s.Base - s.Ready.length + min n s.Ready.length) s.Base):=by
      conv=>lhs; arg 1; rw [hrd]
      rw [sF (by omega) (by omega) c (by omega) (by omega) (by omega),show s.Base - (s.Ready.length : Int) + (s.Ready.length : Int) = s.Base by omega]
    rw [hc1,bnoS,hc2,bnoS]
    have hl2:=kF (W:=W) (a:=s.Base - s.Ready.length + min n s.Ready.length) (b:=s.Base) (by omega) (by omega) c
    refine ⟨⟨s.Base,sl W (s.Base - s.Ready.length + min n s.Ready.length) s.Base,s.Parts⟩,min n s.Ready.length,rfl,⟨a,b,c,?_,?_,?_,h.ps,h.vs,h.ib,fun x hx=>?_⟩,rfl,by omega,by omega,?_,fun _=>rfl⟩
    · show ((sl W _ _).length : Int) ≤ s.Base; omega
    · show (sl W _ _).length ≤ 4096; omega
    · show sl W _ _ = sl W (s.Base - ((sl W (s.Base - s.Ready.length + min n s.Ready.length) s.Base).length : Int)) s.Base
      rw [hl2]; congr 1; omega
    · have := h.lim x hx
      show x.To ≤ s.Base - ((sl W (s.Base - s.Ready.length + min n s.Ready.length) s.Base).length : Int) + 4096
      omega
    · show s.Base - ((sl W (s.Base - s.Ready.length + min n s.Ready.length) s.Base).length : Int) = _
      omega
end Go.Fn
open Go Go.IL
namespace Go.Fn
abbrev St25:=aR
abbrev Lg:=bE
theorem aBD : fV = some true:=by kernel_rfl
def LgOk (l : Lg) : Prop:=0 ≤ l.Read ∧ l.Read ≤ l.Used ∧ l.Used ≤ l.Limit ∧ l.Limit ≤ 1000000 ∧ 1 ≤ l.Window ∧ l.Window ≤ 4096
theorem tL {l : Lg} (h : LgOk l) : fL l = some 0:=by
  obtain ⟨h1,h2,h3,h4,h5,h6⟩:=h
  unfold fL
  simp only [bndD,decide_eq_true h1,decide_eq_true h2,decide_eq_true h3,decide_eq_true (show l.Limit ≤ 1099511627776 by omega),decide_eq_false (show ¬ l.Window < 1 by omega),decide_eq_false (show ¬ 1048576 < l.Window by omega),Bool.and_self,Bool.not_true,Bool.or_self,cA]
structure SG (st : St25) (W : List UInt8) (I : List Iv) (k : Int) : Prop where
  id : st.ID = 5
  mi : -1 ≤ st.Mine ∧ st.Mine ≤ 255
  he : -1 ≤ st.Hers ∧ st.Hers ≤ 255
  oo : LgOk st.Out
  io : LgOk st.In
  g : G st.Send
  rq : RQ W I st.Recv.Recv
  hi : mJ st.Recv.Recv.Base I k
  en : st.Recv.End = -1 ∨ (k ≤ st.Recv.End ∧ st.Recv.End ≤ 1000000)
  ou : st.Out.Used = st.Send.Next
  iu : st.In.Used = max st.Recv.End k
  ir : st.In.Read = st.Recv.Recv.Base - st.Recv.Recv.Ready.length
  il : st.In.Limit ≤ st.In.Read + st.In.Window
theorem shigh {st : St25} {W : List UInt8} {I : List Iv} {k : Int} (h : SG st W I k) : mT st.Recv = some k:=by
  obtain ⟨k',e,hk⟩:=rhigh h.rq st.Recv.End
  have : k' = k:=hk.uniq h.hi
  unfold mT kS
  rw [bnoS,e,bnoS,this]
theorem xF {st : St25} {W : List UInt8} {I : List Iv} {k : Int} (h : SG st W I k) : jT st.Recv = some 0:=by
  unfold jT
  rw [aAM h.rq,bnoS]
  simp only [bndD,decide_true,Bool.not_true,cA,shigh h]
  rcases h.en with e | ⟨e1,e2⟩
  · rw [decide_eq_true e]
    simp only [Bool.not_true,ft,gdff,bnoS,Bool.false_and,cA]
  · have hk := h.hi.1
    have hb:=h.rq.b0
    rw [decide_eq_false (show ¬ st.Recv.End = -1 by omega)]
    simp only [Bool.not_false,beq_self_eq_true,gdtt,bnoS,decide_eq_false (show ¬ st.Recv.End < k by omega),decide_eq_false (show ¬ 1099511627776 < st.Recv.End by omega),Bool.or_self,Bool.and_false,cA]
theorem yM {st : St25} {W : List UInt8} {I : List Iv} {k : Int} (h : SG st W I k) : iI st = some 0:=by
  obtain ⟨i1,i2,i3,i4,i5,i6⟩:=h.io
  have hb:=h.rq.b0; have hr:=h.rq.rl; have hw:=h.rq.wl; have hbw:=h.rq.bw
  have hid:=h.id; have hmi:=h.mi; have hhe:=h.he
  unfold iI mK jI jJ
  simp only [bndD,decide_eq_true (show 0 ≤ st.ID by omega),decide_eq_true (show st.ID ≤ 1048576 by omega),decide_eq_true hmi.1,decide_eq_true hmi.2,decide_eq_true hhe.1,decide_eq_true hhe.2,Bool.and_self,Bool.not_true,beq_self_eq_true,gdtt,bnoS,Bool.or_self,decide_eq_false (show ¬ 4096 < st.In.Window by omega),cA,tL h.oo,tL h.io,pN h.g,xF h,decide_true,shigh h,w64 (show -9223372036854775808 ≤ st.Recv.Recv.Base - (st.Recv.Recv.Ready.length : Int) by omega) (by omega),decide_eq_true h.ou,decide_eq_true h.iu,decide_eq_true h.ir]
  have hil:=h.il; have hir:=h.ir
  rw [w64 (by omega) (by omega),decide_eq_true (by omega)]
  rfl
def kW (st : St25) : Bool:=!decide (st.Mine = -1) || !decide (st.Hers = -1)
theorem smay {st : St25} {W : List UInt8} {I : List Iv} {k : Int} (h : SG st W I k) : eA st = some (if kW st = true then 15 else 0):=by
  unfold eA jE
  rw [yM h,bnoS]
  simp only [bndD,decide_true,Bool.not_true,cA,bnoS]
  show (bif kW st then some 15 else some 0) = _
  cases kW st <;> rfl
theorem vW {st : St25} {W : List UInt8} {I : List Iv} {k : Int} (h : SG st W I k) (hc : kW st = false) : eA st = some 0:=by rw [smay h,hc]; rfl
end Go.Fn
open Go Go.IL
namespace Go.Fn
section
variable {st : St25} {W : List UInt8} {I : List Iv} {k : Int}
theorem swrite (h : SG st W I k) (hc : kW st = false) (str : List UInt8) (hs : str.length ≤ 100000) : lG st str = some (if st.Send.Closed = true then (st,0,9) else (⟨st.ID,rC st.Send str,st.Recv,st.Out,st.In,st.Mine,st.Hers⟩,(writeN st.Send str : Int),0)):=by
  unfold lG gX
  rw [vW h hc,bnoS]
  simp only [bndD,decide_true,Bool.not_true,cA]
  cases hC : st.Send.Closed
  · simp only [cA, bnoS, decide_true, Bool.not_true, write23 h.g str hs]
    rfl
  · rfl
theorem sclose (h : SG st W I k) (hc : kW st = false) : ∃ e,mL st = some (⟨st.ID,rN st.Send,st.Recv,st.Out,st.In,st.Mine,st.Hers⟩,e):=by
  unfold mL gX
  rw [vW h hc,bnoS]
  simp only [bndD,decide_true,Bool.not_true,cA]
  cases hC : st.Send.Closed
  · simp only [cA, bnoS, decide_true, Bool.not_true, close23 h.g]
    exact ⟨_,rfl⟩
  · refine ⟨9, ?_⟩
    have e : rN st.Send = st.Send:=by unfold rN; rw [← hC]
    rw [e]; rfl
theorem spick (h : SG st W I k) (hc : kW st = false) (path most : Int) : kP st path most 1099511627776 = bno (kB st.Send path most st.Out.Limit) fun x7=>some (⟨st.ID,x7.1,st.Recv,⟨st.Out.Window,st.Out.Limit,x7.1.Next,st.Out.Read⟩,st.In,st.Mine,st.Hers⟩,x7.2.1,x7.2.2.1,x7.2.2.2):=by
  obtain ⟨h1,h2,h3,h4,h5,h6⟩:=h.oo
  have hn:=h.g.num
  have hou:=h.ou
  unfold kP iG
  simp only [bndD,show decide ((1099511627776 : Int) < 0) = false from rfl,beq_self_eq_true,gdtt,vW h hc,bnoS,decide_true,Bool.not_true,Bool.or_self,cA,w64 (show -9223372036854775808 ≤ st.Out.Limit - st.Send.Next by omega) (by omega),show min (1099511627776 : Int) (st.Out.Limit - st.Send.Next) = st.Out.Limit - st.Send.Next by omega,w64 (show -9223372036854775808 ≤ st.Send.Next + (st.Out.Limit - st.Send.Next) by omega) (by omega),show st.Send.Next + (st.Out.Limit - st.Send.Next) = st.Out.Limit by omega,w64 (show -9223372036854775808 ≤ st.Out.Limit by omega) (by omega)]
theorem scame (h : SG st W I k) (hc : kW st = false) (n : Int) (fin : Bool) : lN st n fin = some ⟨st.ID,if nE st.Send n fin then tN st.Send n fin else st.Send,st.Recv,st.Out,st.In,st.Mine,st.Hers⟩:=by
  unfold lN fC jY
  rw [vW h hc,bnoS]
  simp only [bndD,decide_true,cR,aA9 h.g,bnoS]
theorem sdead (h : SG st W I k) (p : Int) : ∃ L,DL st.Send st.Send.Pieces p L ∧ nW st p = some ⟨st.ID,zV st.Send p L,st.Recv,st.Out,st.In,st.Mine,st.Hers⟩:=by
  obtain ⟨L,d,e⟩:=dead23 h.g p
  refine ⟨L,d,?_⟩
  unfold nW
  rw [yM h,bnoS]
  simp only [bndD,decide_true,cR,e,bnoS]
theorem swindow (h : SG st W I k) (hc : kW st = false) {n : Int} (h0 : 1 ≤ n) (h1 : n ≤ 1000000) : iY st n = some (⟨st.ID,st.Send,st.Recv,⟨st.Out.Window,st.Out.Limit + n,st.Out.Used,st.Out.Read⟩,st.In,st.Mine,st.Hers⟩,0):=by
  obtain ⟨g1,g2,g3,g4,g5,g6⟩:=h.oo
  have hg : kZ st.Out n = some (⟨st.Out.Window,st.Out.Limit + n,st.Out.Used,st.Out.Read⟩,true):=by
    unfold kZ
    simp only [bndD,decide_eq_false (show ¬ n < 1 by omega),beq_self_eq_true,gdtt,tL h.oo,bnoS,decide_true,Bool.not_true,Bool.or_self,w64 (show -9223372036854775808 ≤ 1099511627776 - st.Out.Limit by omega) (by omega),decide_eq_false (show ¬ 1099511627776 - st.Out.Limit < n by omega),cA,w64 (show -9223372036854775808 ≤ st.Out.Limit + n by omega) (by omega)]
  unfold iY eP iX
  rw [vW h hc,bnoS]
  simp only [bndD,decide_true,cR,hg,bnoS,Bool.not_true,cA]
theorem sgrant (h : SG st W I k) (hc : kW st = false) : ∃ m, 0 ≤ m ∧ st.In.Limit + m ≤ st.In.Read + st.In.Window ∧ (st.Recv.End < 0 → max 1 (st.In.Window / 2) ≤ st.In.Read + st.In.Window - st.In.Limit → 1 ≤ m) ∧ kG st = some (⟨st.ID, st.Send, st.Recv, st.Out, ⟨st.In.Window, st.In.Limit + m, st.In.Used, st.In.Read⟩, st.Mine, st.Hers⟩, m) := by
  obtain ⟨g1,g2,g3,g4,g5,g6⟩:=h.io
  have hil:=h.il
  have hq : quoI .i64 st.In.Window 2 = some (st.In.Window / 2):=by
    unfold quoI
    rw [if_neg (by decide),Int.tdiv_eq_ediv_of_nonneg (by omega),w64 (by omega) (by omega)]
  unfold kG fG kM mM
  rw [vW h hc,bnoS]
  simp only [bndD,decide_true,cR]
  have e0 : (⟨st.ID,st.Send,st.Recv,st.Out,⟨st.In.Window,st.In.Limit + 0,st.In.Used,st.In.Read⟩,st.Mine,st.Hers⟩ : St25) = st:=by rw [Int.add_zero]
  by_cases hE : 0 ≤ st.Recv.End
  · rw [decide_eq_true hE]
    refine ⟨0,by omega,by omega,fun _=>by omega,?_⟩
    rw [e0]; rfl
  · rw [decide_eq_false hE]
    have hcg : ∃ m,0 ≤ m ∧ st.In.Limit + m ≤ st.In.Read + st.In.Window ∧ (max 1 (st.In.Window / 2) ≤ st.In.Read + st.In.Window - st.In.Limit → 1 ≤ m) ∧ kY st.In = some (⟨st.In.Window,st.In.Limit + m,st.In.Used,st.In.Read⟩,m):=by
      unfold kY
      rw [tL h.io,bnoS]
      simp only [bndD,decide_true,Bool.not_true,cA,w64 (show -9223372036854775808 ≤ st.In.Read + st.In.Window by omega) (by omega),show min (st.In.Read + st.In.Window) 1099511627776 = st.In.Read + st.In.Window by omega,w64 (show -9223372036854775808 ≤ st.In.Read + st.In.Window - st.In.Limit by omega) (by omega),hq,bnoS]
      by_cases hm : st.In.Read + st.In.Window - st.In.Limit < max 1 (st.In.Window / 2)
      · rw [decide_eq_true hm, cR]
        exact ⟨0,by omega,by omega,fun _=>by omega,by rw [Int.add_zero]⟩
      · rw [decide_eq_false hm, cA, w64 (by omega) (by omega)]
        exact ⟨_,by omega,by omega,fun _=>by omega,rfl⟩
    obtain ⟨m,m1,m2,m4,m3⟩:=hcg
    refine ⟨m,m1,m2,fun _=>m4,?_⟩
    simp only [cA,bnoS,decide_true,cR,m3]
end
theorem sread {st : St25} {W : List UInt8} {I : List Iv} {k : Int} (h : SG st W I k) (hc : kW st = false) (n : Int) (hn : n ≤ 100000) : ∃ s' m e, lM st n = some (⟨st.ID, st.Send, ⟨s', st.Recv.End⟩, st.Out, ⟨st.In.Window, st.In.Limit, st.In.Used, st.In.Read + m⟩, st.Mine, st.Hers⟩, sl W st.In.Read (st.In.Read + m), e, 0) ∧
    SG ⟨st.ID,st.Send,⟨s',st.Recv.End⟩,st.Out,⟨st.In.Window,st.In.Limit,st.In.Used,st.In.Read + m⟩,st.Mine,st.Hers⟩ W I k ∧ 0 ≤ m ∧ st.In.Read + m ≤ st.Recv.Recv.Base ∧ s'.Base = st.Recv.Recv.Base ∧ (e = true → 0 ≤ st.Recv.End ∧ st.In.Read + m = st.Recv.End) ∧ (1 ≤ n → m = min n st.Recv.Recv.Ready.length) ∧ (0 ≤ st.Recv.End → st.In.Read + m = st.Recv.Recv.Base → st.Recv.Recv.Base = st.Recv.End → e = true):=by
  obtain ⟨g1,g2,g3,g4,g5,g6⟩:=h.io
  have hir:=h.ir; have hiu:=h.iu; have hil:=h.il; have hk:=h.hi.1
  have hb:=h.rq.b0; have hr:=h.rq.rl; have hw:=h.rq.wl; have hbw:=h.rq.bw
  obtain ⟨s',m,e1,q1,q2,q3,q4,q5,q6⟩:=rread h.rq n hn
  rw [← hir] at e1 q5
  have hl:=kF (W:=W) (a:=st.In.Read) (b:=st.In.Read + m) g1 (by omega) (by omega)
  have hsg : SG ⟨st.ID,st.Send,⟨s',st.Recv.End⟩,st.Out,⟨st.In.Window,st.In.Limit,st.In.Used,st.In.Read + m⟩,st.Mine,st.Hers⟩ W I k :=
    ⟨h.id,h.mi,h.he,h.oo,⟨by show 0 ≤ st.In.Read + m; omega,by show st.In.Read + m ≤ st.In.Used; omega,g3,g4,g5,g6⟩,h.g,q1,by show mJ s'.Base I k; rw [q2]; exact h.hi,h.en,h.ou,h.iu,by show st.In.Read + m = s'.Base - s'.Ready.length; omega,by show st.In.Limit ≤ st.In.Read + m + st.In.Window; omega⟩
  have heat : nC st.In ((sl W st.In.Read (st.In.Read + m)).length : Int) = some ⟨st.In.Window,st.In.Limit,st.In.Used,st.In.Read + m⟩:=by
    unfold nC
    rw [hl,tL h.io,bnoS]
    by_cases hm : 0 < st.In.Read + m - st.In.Read
    · simp only [bndD,decide_true,decide_eq_true hm,Bool.and_self,cR,w64 (show -9223372036854775808 ≤ st.In.Used - st.In.Read by omega) (by omega),show min (st.In.Read + m - st.In.Read) (st.In.Used - st.In.Read) = m by omega,w64 (show -9223372036854775808 ≤ st.In.Read + m by omega) (by omega)]
    · simp only [bndD, decide_true, decide_eq_false hm, Bool.and_false, cA]
      rw [show st.In.Read + m = st.In.Read by omega]
  have hra:=xF hsg
  have hen : ∃ e,lI ⟨s',st.Recv.End⟩ = some e ∧ (e = true → 0 ≤ st.Recv.End ∧ st.In.Read + m = st.Recv.End) ∧ (0 ≤ st.Recv.End → st.In.Read + m = st.Recv.Recv.Base → st.Recv.Recv.Base = st.Recv.End → e = true):=by
    unfold lI oQ kS fW
    simp only [bndD,bnoS]
    by_cases hz : s'.Ready = []
    · rw [decide_eq_true hz]
      simp only [beq_self_eq_true,gdtt,Bool.true_and]
      have hz0 : s'.Ready.length = 0:=by rw [hz]; rfl
      by_cases ha : 0 ≤ st.Recv.End
      · by_cases hbb : s'.Base = st.Recv.End
        · rw [decide_eq_true ha, decide_eq_true hbb]
          simp only [Bool.and_self,beq_self_eq_true,gdtt]
          have hra : jT ⟨s',st.Recv.End⟩ = some 0:=hra
          rw [hra]
          exact ⟨true,rfl,fun _=>⟨ha,by omega⟩,fun _ _ _=>rfl⟩
        · rw [decide_eq_true ha, decide_eq_false hbb]
          exact ⟨false,rfl,fun h=>(by cases h),fun _ _ h3=>absurd (q2.trans h3) hbb⟩
      · rw [decide_eq_false ha]
        refine ⟨false,?_,fun h=>(by cases h),fun h1 _ _=>absurd h1 ha⟩
        simp only [Bool.false_and,ft,gdff,bnoS]
    · rw [decide_eq_false hz]
      refine ⟨false,rfl,fun h=>(by cases h),fun h1 h2 h3=>?_⟩
      exfalso; apply hz
      apply List.eq_nil_of_length_eq_zero
      omega
  obtain ⟨e,he,he2,he3⟩:=hen
  refine ⟨s',m,e,?_,hsg,q3,by omega,q2,he2,q6,he3⟩
  unfold lM pT
  rw [vW h hc,bnoS]
  simp only [bndD,decide_true,Bool.not_true,cA,e1,bnoS,he,heat]
end Go.Fn
open Go Go.IL
namespace Go.Fn
abbrev Ln:=gQ
abbrev Pe:=bL
abbrev D25:=cC
def iF (d : cC) (l : Ln):=bQ d l.a.ID l.a.Send.Base l.a.Send.Data l.a.Send.Next l.a.Send.Pieces l.a.Send.Lost l.a.Send.Closed l.a.Send.Sent l.a.Send.Again l.a.Send.Done l.a.Recv.Recv.Base l.a.Recv.Recv.Ready l.a.Recv.Recv.Parts l.a.Recv.End l.a.Out.Window l.a.Out.Limit l.a.Out.Used l.a.Out.Read l.a.In.Window l.a.In.Limit l.a.In.Used l.a.In.Read l.a.Mine l.a.Hers l.b.ID l.b.Send.Base l.b.Send.Data l.b.Send.Next l.b.Send.Pieces l.b.Send.Lost l.b.Send.Closed l.b.Send.Sent l.b.Send.Again l.b.Send.Done l.b.Recv.Recv.Base l.b.Recv.Recv.Ready l.b.Recv.Recv.Parts l.b.Recv.End l.b.Out.Window l.b.Out.Limit l.b.Out.Used l.b.Out.Read l.b.In.Window l.b.In.Limit l.b.In.Used l.b.In.Read l.b.Mine l.b.Hers l.wrote l.read l.given l.end_ l.went
def outL (ok : Bool) (l : Ln) : Bool × Int × Int × (List UInt8) × Int × (List aJ) × (List aG) × Bool × Bool × Bool × Bool × Int × (List UInt8) × (List aN) × Int × Int × Int × Int × Int × Int × Int × Int × Int × Int × Int × Int × Int × (List UInt8) × Int × (List aJ) × (List aG) × Bool × Bool × Bool × Bool × Int × (List UInt8) × (List aN) × Int × Int × Int × Int × Int × Int × Int × Int × Int × Int × Int × (List bL) × (List UInt8) × (List UInt8) × Int × Bool:=(ok,l.a.ID,l.a.Send.Base,l.a.Send.Data,l.a.Send.Next,l.a.Send.Pieces,l.a.Send.Lost,l.a.Send.Closed,l.a.Send.Sent,l.a.Send.Again,l.a.Send.Done,l.a.Recv.Recv.Base,l.a.Recv.Recv.Ready,l.a.Recv.Recv.Parts,l.a.Recv.End,l.a.Out.Window,l.a.Out.Limit,l.a.Out.Used,l.a.Out.Read,l.a.In.Window,l.a.In.Limit,l.a.In.Used,l.a.In.Read,l.a.Mine,l.a.Hers,l.b.ID,l.b.Send.Base,l.b.Send.Data,l.b.Send.Next,l.b.Send.Pieces,l.b.Send.Lost,l.b.Send.Closed,l.b.Send.Sent,l.b.Send.Again,l.b.Send.Done,l.b.Recv.Recv.Base,l.b.Recv.Recv.Ready,l.b.Recv.Recv.Parts,l.b.Recv.End,l.b.Out.Window,l.b.Out.Limit,l.b.Out.Used,l.b.Out.Read,l.b.In.Window,l.b.In.Limit,l.b.In.Used,l.b.In.Read,l.b.Mine,l.b.Hers,l.went,l.wrote,l.read,l.given,l.end_)
theorem sdata {st : St25} {W : List UInt8} {I : List Iv} {k : Int} (h : SG st W I k) (hc : kW st = false) {a to : Int} {fin : Bool} (h0 : 0 ≤ a) (h1 : a ≤ to) (h2 : to ≤ (W.length : Int)) (h3 : to ≤ st.In.Limit) (hf : fin = true → to = (W.length : Int)) (he : st.Recv.End = -1 ∨ st.Recv.End = (W.length : Int)) :
    ∃ st' I' k' n,fD st a (sl W a to) fin = some (st',n,0) ∧ SG st' W I' k' ∧ st'.Send = st.Send ∧ st'.Mine = st.Mine ∧ st'.Hers = st.Hers ∧ st'.In.Window = st.In.Window ∧ st'.In.Limit = st.In.Limit ∧ st'.In.Read = st.In.Read ∧ k' ≤ max k to ∧ (st'.Recv.End = st.Recv.End ∨ (fin = true ∧ st'.Recv.End = (W.length : Int))) ∧ (fin = true → st'.Recv.End = (W.length : Int)) ∧ (fin = false → st'.Recv.End = st.Recv.End) ∧ st.Recv.Recv.Base ≤ st'.Recv.Recv.Base ∧ (∀ n,(n < st.Recv.Recv.Base ∨ mem n I ∨ (a ≤ n ∧ n < to)) → n < st'.Recv.Recv.Base ∨ mem n I'):=by
  obtain ⟨g1,g2,g3,g4,g5,g6⟩:=h.io
  have hir:=h.ir; have hiu:=h.iu; have hil:=h.il; have hk:=h.hi.1
  have hb:=h.rq.b0; have hr:=h.rq.rl; have hw:=h.rq.wl; have hbw:=h.rq.bw
  have hkw : k ≤ (W.length : Int):=by
    rcases h.hi.2.2 with e | ⟨y,hy,e⟩
    · omega
    · have:=(h.rq.ib y hy).2; omega
  have hl:=kF (W:=W) h0 h1 h2
  unfold fD
  rw [vW h hc,bnoS]
  simp only [bndD,decide_true,Bool.not_true,Bool.false_or]
  by_cases hz : (decide (sl W a to = []) && !fin) = true
  · rw [hz, cR]
    have hfin : fin = false:=by
      have:=(Bool.and_eq_true _ _ |>.mp hz).2; simpa using this
    refine ⟨st,I,k,0,rfl,h,rfl,rfl,rfl,rfl,rfl,rfl,by omega,.inl rfl,fun hq=>absurd (hfin.symm.trans hq) (by decide),fun _=>rfl,Int.le_refl _,fun n hn=>?_⟩
    have hs0 : sl W a to = []:=of_decide_eq_true ((Bool.and_eq_true _ _ |>.mp hz).1)
    rw [hs0] at hl
    have hl : (0 : Int) = to - a:=hl
    rcases hn with hn | hn | hn
    · exact .inl hn
    · exact .inr hn
    · omega
  · have hz : (decide (sl W a to = []) && !fin) = false := by simpa using hz
    rw [hz,cA]
    have hlt : fin = false → a < to:=fun hq=>by
      rw [hq] at hz
      by_cases hq2 : a < to
      · exact hq2
      · rw [uA (by omega)] at hz; simp at hz
    have hreach : kX st.In to = some (⟨st.In.Window,st.In.Limit,max st.In.Used to,st.In.Read⟩,max st.In.Used to - st.In.Used,true):=by
      unfold kX
      simp only [bndD,decide_eq_false (show ¬ to < 0 by omega),decide_eq_false (show ¬ st.In.Limit < to by omega),Bool.or_self,beq_self_eq_true,gdtt,tL h.io,bnoS,decide_true,Bool.not_true,cA,w64 (show -9223372036854775808 ≤ max st.In.Used to - st.In.Used by omega) (by omega)]
    obtain ⟨s',I',n,p1,p2⟩:=rput h.rq h0 h1 h2 (by omega)
    have hclosed : gK ⟨st.Recv.Recv,st.Recv.End⟩ to fin = some false:=by
      unfold gK fW
      simp only [bndD,bnoS]
      rcases he with e | e
      · rw [decide_eq_false (show ¬ 0 ≤ st.Recv.End by omega), cA]
        cases fin
        · rfl
        · obtain ⟨k2, e2, hk2⟩ := rhigh h.rq st.Recv.End
          have hk3 : k2 = k:=hk2.uniq h.hi
          simp only [beq_self_eq_true,gdtt,e2,bnoS,hk3,decide_eq_false (show ¬ to < k by have:=hf rfl; omega),Bool.and_false]
      · rw [decide_eq_true (show 0 ≤ st.Recv.End by omega), cR, decide_eq_false (show ¬ st.Recv.End < to by omega)]
        cases fin
        · rfl
        · rw [decide_eq_false (show ¬ to < st.Recv.End by have:=hf rfl; omega)]; rfl
    have hput : pU st.Recv a (sl W a to) fin = some (⟨s',if fin = true then to else st.Recv.End⟩,n,0):=by
      unfold pU kS
      simp only [bndD,decide_eq_false (show ¬ a < 0 by omega),hl,w64 (show -9223372036854775808 ≤ 1099511627776 - (to - a) by omega) (by omega),decide_eq_false (show ¬ 1099511627776 - (to - a) < a by omega),Bool.or_self,beq_self_eq_true,gdtt,xF h,bnoS,decide_true,Bool.not_true,cA,w64 (show -9223372036854775808 ≤ a + (to - a) by omega) (by omega),show a + (to - a) = to by omega,w64 (show -9223372036854775808 ≤ to by omega) (by omega),hclosed,p1]
      cases fin <;> rfl
    have hin : mK a 0 1099511627776 = some true:=by
      unfold mK
      simp only [bndD,decide_eq_true h0,decide_eq_true (show a ≤ 1099511627776 by omega),Bool.and_self]
    simp only [hin,bnoS,Bool.not_true,cA,hl,w64 (show -9223372036854775808 ≤ a + (to - a) by omega) (by omega),show a + (to - a) = to by omega,w64 (show -9223372036854775808 ≤ to by omega) (by omega),hreach,hput,decide_true]
    have hhi:=p2.hi k h.hi
    have hkk : (if a < to then max k to else k) ≤ max k to:=by split <;> omega
    have hkge : k ≤ (if a < to then max k to else k):=by split <;> omega
    refine ⟨_,I',(if a < to then max k to else k),_,rfl,⟨h.id,h.mi,h.he,h.oo,⟨g1,by show st.In.Read ≤ max st.In.Used to; omega,by show max st.In.Used to ≤ st.In.Limit; omega,g4,g5,g6⟩,h.g,p2.rq,hhi,?_,h.ou,?_,?_,h.il⟩,rfl,rfl,rfl,rfl,rfl,rfl,hkk,?_,?_,?_,p2.bs,p2.hs⟩
    · show (if fin = true then to else st.Recv.End) = -1 ∨ (_ ≤ (if fin = true then to else st.Recv.End) ∧ (if fin = true then to else st.Recv.End) ≤ 1000000)
      cases hfc : fin
      · rcases he with e | e
        · exact .inl e
        · right
          refine ⟨?_,?_⟩
          · show _ ≤ st.Recv.End; omega
          · show st.Recv.End ≤ 1000000; omega
      · right
        have:=hf hfc
        refine ⟨?_,?_⟩
        · show _ ≤ to; omega
        · show to ≤ 1000000; omega
    · show max st.In.Used to = max (if fin = true then to else st.Recv.End) (if a < to then max k to else k)
      cases hfc : fin
      · rw [if_pos (hlt hfc)]
        show max st.In.Used to = max st.Recv.End (max k to)
        omega
      · have := hf hfc
        show max st.In.Used to = max to (if a < to then max k to else k)
        rcases he with e | e <;> split <;> omega
    · show st.In.Read = s'.Base - s'.Ready.length
      have:=p2.rd; omega
    · cases hfc : fin
      · exact .inl rfl
      · exact .inr ⟨rfl,hf hfc⟩
    · intro hq; rw [hq]; exact hf hq
    · intro hq; rw [hq]; rfl
end Go.Fn
open Go Go.IL
namespace Go.Fn
theorem vJ (s : St25) : (⟨s.ID,⟨s.Send.Base,s.Send.Data,s.Send.Next,s.Send.Pieces,s.Send.Lost,s.Send.Closed,s.Send.Sent,s.Send.Again,s.Send.Done⟩,⟨⟨s.Recv.Recv.Base,s.Recv.Recv.Ready,s.Recv.Recv.Parts⟩,s.Recv.End⟩,⟨s.Out.Window,s.Out.Limit,s.Out.Used,s.Out.Read⟩,⟨s.In.Window,s.In.Limit,s.In.Used,s.In.Read⟩,s.Mine,s.Hers⟩ : St25) = s:=rfl
structure LI (w : Int) (n m : Nat) (l : Ln) (I : List Iv) (k : Int) : Prop where
  sa : SG l.a [] [] 0
  sb : SG l.b l.wrote I k
  am : l.a.Mine = -1 ∧ l.a.Hers = -1
  bm : l.b.Mine = -1 ∧ l.b.Hers = -1
  al : All l.a.Send l.wrote
  en : l.b.Recv.End = -1 ∨ (l.b.Recv.End = (l.wrote.length : Int) ∧ l.a.Send.Closed = true ∧ l.a.Send.Next = (l.wrote.length : Int) ∧ l.a.Send.Sent = true)
  kn : k ≤ l.a.Send.Next
  gi : l.a.Out.Limit + l.given = l.b.In.Limit ∧ 0 ≤ l.given
  bw : l.b.In.Window = w
  wn : ∀ q ∈ l.went,0 ≤ q.at_ ∧ ∃ to,q.at_ ≤ to ∧ to ≤ l.a.Send.Next ∧ q.s = sl l.wrote q.at_ to ∧ (q.fin = true → l.a.Send.Closed = true ∧ to = (l.wrote.length : Int) ∧ l.a.Send.Sent = true)
  rd : l.read = sl l.wrote 0 l.b.In.Read
  fi : l.end_ = true → l.b.In.Read = (l.wrote.length : Int) ∧ l.a.Send.Closed = true ∧ l.b.Recv.End = (l.wrote.length : Int)
  wb : l.wrote.length ≤ 100 * n
  ml : l.went.length ≤ m
  ab : l.a.Send.Base ≤ l.b.Recv.Recv.Base
  dn : l.a.Send.Done = true → l.b.Recv.End = (l.wrote.length : Int)
theorem LI.cutA {w : Int} {n m : Nat} {l : Ln} {I : List Iv} {k : Int} (h : LI w n m l I k) : kW l.a = false:=by unfold kW; rw [h.am.1,h.am.2]; rfl
theorem LI.cutB {w : Int} {n m : Nat} {l : Ln} {I : List Iv} {k : Int} (h : LI w n m l I k) : kW l.b = false:=by unfold kW; rw [h.bm.1,h.bm.2]; rfl
theorem LI.mono {w : Int} {n m n' m' : Nat} {l : Ln} {I : List Iv} {k : Int} (h : LI w n m l I k) (hn : n ≤ n') (hm : m ≤ m') : LI w n' m' l I k :=
  ⟨h.sa,h.sb,h.am,h.bm,h.al,h.en,h.kn,h.gi,h.bw,h.wn,h.rd,h.fi,by have:=h.wb; omega,by have:=h.ml; omega,h.ab,h.dn⟩
theorem LI.nx {w : Int} {n m : Nat} {l : Ln} {I : List Iv} {k : Int} (h : LI w n m l I k) : l.a.Send.Next ≤ (l.wrote.length : Int):=by rw [h.al.len]; exact h.al.g.nd
theorem LI.rw_ {w : Int} {n m : Nat} {l : Ln} {I : List Iv} {k : Int} (h : LI w n m l I k) : 0 ≤ l.b.In.Read ∧ l.b.In.Read ≤ (l.wrote.length : Int):=by
  have h1:=h.sb.ir; have h2:=h.sb.rq.rl; have h3:=h.sb.rq.bw; have h4:=h.sb.io.1
  omega
def dOk (d : D25) : Prop:=(0 ≤ d.Kind ∧ d.Kind ≤ 255) ∧ (0 ≤ d.N ∧ d.N ≤ 255) ∧ (0 ≤ d.Path ∧ d.Path ≤ 255) ∧ d.Text.length ≤ 100
theorem rq_ext {W e : List UInt8} {I : List Iv} {s : R12} (h : RQ W I s) (hl : (W ++ e).length ≤ 100000) : RQ (W ++ e) I s:=by
  have hw : (W ++ e).length = W.length + e.length:=List.length_append
  have hbw:=h.bw
  refine ⟨hl,h.b0,by omega,h.rl,h.rm,by rw [yK hbw]; exact h.rd,?_,h.vs,fun x hx=>⟨(h.ib x hx).1,by have:=(h.ib x hx).2; omega⟩,h.lim⟩
  rw [h.ps]
  apply List.map_congr_left
  intro x hx
  unfold pt
  rw [yK (h.ib x hx).2]
theorem sg_ext {st : St25} {W e : List UInt8} {I : List Iv} {k : Int} (h : SG st W I k) (hl : (W ++ e).length ≤ 100000) : SG st (W ++ e) I k :=
  ⟨h.id,h.mi,h.he,h.oo,h.io,h.g,rq_ext h.rq hl,h.hi,h.en,h.ou,h.iu,h.ir,h.il⟩
theorem aAE {st : St25} {W : List UInt8} {I : List Iv} {k : Int} (h : SG st W I k) {s : S23} (hg : G s) (hn : s.Next = st.Send.Next) : SG ⟨st.ID,s,st.Recv,st.Out,st.In,st.Mine,st.Hers⟩ W I k :=
  ⟨h.id,h.mi,h.he,h.oo,h.io,hg,h.rq,h.hi,h.en,by rw [h.ou]; exact hn.symm,h.iu,h.ir,h.il⟩
section
variable {w : Int} {n m : Nat} {l : Ln} {I : List Iv} {k : Int}
theorem xV (h : LI w n m l I k) {s : S23} (hw : Went l.a.Send s) (hn : s.Next = l.a.Send.Next) (hc : l.a.Send.Closed = true → s.Closed = true) (hS : l.a.Send.Sent = true → s.Sent = true) (hab : s.Base ≤ l.b.Recv.Recv.Base) (hdn : s.Done = true → l.b.Recv.End = (l.wrote.length : Int)) : LI w n m ⟨⟨l.a.ID,s,l.a.Recv,l.a.Out,l.a.In,l.a.Mine,l.a.Hers⟩,l.b,l.went,l.wrote,l.read,l.given,l.end_⟩ I k :=
  ⟨aAE h.sa hw.g hn,h.sb,h.am,h.bm,aBz h.al hw,h.en.imp id (fun ⟨a,b,c,d⟩=>⟨a,hc b,hn.trans c,hS d⟩),by show k ≤ s.Next; rw [hn]; exact h.kn,h.gi,h.bw,
   fun q hq=>by
     obtain ⟨a,to,b1,b2,b3,b4⟩:=h.wn q hq
     exact ⟨a,to,b1,by show to ≤ s.Next; rw [hn]; exact b2,b3,fun hf=>⟨hc (b4 hf).1,(b4 hf).2.1,hS (b4 hf).2.2⟩⟩,h.rd,fun he=>⟨(h.fi he).1,hc (h.fi he).2.1,(h.fi he).2.2⟩,h.wb,h.ml,hab,hdn⟩
theorem deed0 (h : LI w n m l I k) (hn : n ≤ 500) {d : D25} (hd : dOk d) (hk : d.Kind % 8 = 0) : ∃ l', iF d l = some (outL true l') ∧ LI w (n + 1) m l' I k := by
  obtain ⟨⟨k1,k2⟩,⟨k3,k4⟩,⟨k5,k6⟩,k7⟩:=hd
  have ea:=vJ l.a
  have eb:=vJ l.b
  have hwb:=h.wb
  unfold iF bQ
  rw [oA k1 (by decide),bnoS]
  simp only [bndD,decide_eq_true hk,cR,ea,swrite h.sa h.cutA d.Text (by omega),bnoS]
  cases hC : l.a.Send.Closed
  · obtain ⟨w1, w2⟩ := sD h.sa.g d.Text
    simp only [Bool.false_eq_true,if_false,decide_true,decide_eq_false (show ¬ (writeN l.a.Send d.Text : Int) < 0 by omega),decide_eq_false (show ¬ (d.Text.length : Int) < (writeN l.a.Send d.Text : Int) by omega),Bool.or_self,Bool.and_false,Bool.not_true,Bool.false_and,cA,vL w2,bnoS]
    rw [tM (by rw [List.length_take]; omega),bnoS]
    have hl : (l.wrote ++ d.Text.take (writeN l.a.Send d.Text)).length ≤ 100 * (n + 1):=by rw [List.length_append,List.length_take]; omega
    have hl2 : ((l.wrote ++ d.Text.take (writeN l.a.Send d.Text)).length : Int) = l.wrote.length + writeN l.a.Send d.Text:=by rw [List.length_append,List.length_take]; omega
    have hen : l.b.Recv.End = -1:=by
      rcases h.en with e | ⟨_,e,_,_⟩
      · exact e
      · rw [hC] at e; cases e
    have hnx:=h.nx
    refine ⟨⟨⟨l.a.ID,rC l.a.Send d.Text,l.a.Recv,l.a.Out,l.a.In,l.a.Mine,l.a.Hers⟩,l.b,l.went,l.wrote ++ d.Text.take (writeN l.a.Send d.Text),l.read,l.given,l.end_⟩,rfl,aAE h.sa (aAv h.sa.g d.Text) rfl,sg_ext h.sb (by omega),h.am,h.bm,aBF h.al d.Text,.inl hen,h.kn,h.gi,h.bw,fun q hq=>?_,?_,fun he=>?_,hl,h.ml,h.ab,fun hD=>?_⟩
    · obtain ⟨a, to, b1, b2, b3, b4⟩ := h.wn q hq
      refine ⟨a,to,b1,b2,?_,fun hf=>?_⟩
      · show q.s = sl (l.wrote ++ _) q.at_ to
        rw [yK (by omega)]; exact b3
      · have:=(b4 hf).1; rw [hC] at this; cases this
    · show l.read = sl (l.wrote ++ _) 0 l.b.In.Read
      rw [yK h.rw_.2]; exact h.rd
    · have:=(h.fi he).2.1; rw [hC] at this; cases this
    · have hD : l.a.Send.Done = true := hD
      cases hSe : l.a.Send.Sent
      · have:=(h.sa.g.ns hSe).2; rw [hD] at this; cases this
      · have:=(h.sa.g.se hSe).1; rw [hC] at this; cases this
  · have hct : cut d.Text 0 0 = some [] := by
      unfold cut; rw [if_pos (by omega)]; simp
    simp only [if_true,show decide ((9 : Int) = 0) = false from rfl,Bool.false_and,Bool.not_false,decide_true,Bool.not_true,Bool.and_false,Bool.or_self,cA,hct,bnoS]
    rw [tM (by simp; omega),bnoS,List.append_nil]
    exact ⟨l,rfl,h.mono (by omega) (by omega)⟩
theorem deed1 (h : LI w n m l I k) {d : D25} (hd : dOk d) (hk : d.Kind % 8 = 1) : iF d l = some (outL true ⟨⟨l.a.ID,rN l.a.Send,l.a.Recv,l.a.Out,l.a.In,l.a.Mine,l.a.Hers⟩,l.b,l.went,l.wrote,l.read,l.given,l.end_⟩) ∧ LI w n m ⟨⟨l.a.ID,rN l.a.Send,l.a.Recv,l.a.Out,l.a.In,l.a.Mine,l.a.Hers⟩,l.b,l.went,l.wrote,l.read,l.given,l.end_⟩ I k:=by
  obtain ⟨⟨k1,k2⟩,⟨k3,k4⟩,⟨k5,k6⟩,k7⟩:=hd
  have ea:=vJ l.a
  obtain ⟨e,he⟩:=sclose h.sa h.cutA
  refine ⟨?_,xV h ⟨g_close h.sa.g,Int.le_refl _,?_,Int.le_refl _,id,rfl⟩ rfl (fun _=>rfl) id h.ab h.dn⟩
  · unfold iF bQ
    rw [oA k1 (by decide),bnoS]
    simp only [bndD,decide_eq_false (show ¬ d.Kind % 8 = 0 by omega),decide_eq_true hk,cR,cA,ea,he,bnoS]
    rfl
  · show l.a.Send.Data = l.a.Send.Data.drop (l.a.Send.Base - l.a.Send.Base).toNat
    simp
theorem deed6 (h : LI w n m l I k) {d : D25} (hd : dOk d) (hk : d.Kind % 8 = 6) : ∃ s, iF d l = some (outL true ⟨⟨l.a.ID, s, l.a.Recv, l.a.Out, l.a.In, l.a.Mine, l.a.Hers⟩, l.b, l.went, l.wrote, l.read, l.given, l.end_⟩) ∧ LI w n m ⟨⟨l.a.ID, s, l.a.Recv, l.a.Out, l.a.In, l.a.Mine, l.a.Hers⟩, l.b, l.went, l.wrote, l.read, l.given, l.end_⟩ I k ∧
    s = if nE l.a.Send l.b.Recv.Recv.Base (decide (l.b.Recv.End = l.b.Recv.Recv.Base)) then tN l.a.Send l.b.Recv.Recv.Base (decide (l.b.Recv.End = l.b.Recv.Recv.Base)) else l.a.Send:=by
  obtain ⟨⟨k1,k2⟩,⟨k3,k4⟩,⟨k5,k6⟩,k7⟩:=hd
  have ea:=vJ l.a
  have hs:=scame h.sa h.cutA l.b.Recv.Recv.Base (decide (l.b.Recv.End = l.b.Recv.Recv.Base))
  refine ⟨_,?_,xV h ?_ ?_ ?_ ?_ ?_ ?_,rfl⟩
  · unfold iF bQ
    rw [oA k1 (by decide),bnoS]
    simp only [bndD,decide_eq_false (show ¬ d.Kind % 8 = 0 by omega),decide_eq_false (show ¬ d.Kind % 8 = 1 by omega),decide_eq_false (show ¬ d.Kind % 8 = 2 by omega),decide_eq_false (show ¬ d.Kind % 8 = 3 by omega),decide_eq_false (show ¬ d.Kind % 8 = 4 by omega),decide_eq_false (show ¬ d.Kind % 8 = 5 by omega),decide_eq_true hk,cR,cA,ea,hs,bnoS]
    rfl
  · obtain ⟨s', e, hw⟩ := aAA h.sa.g l.b.Recv.Recv.Base (decide (l.b.Recv.End = l.b.Recv.Recv.Base))
    rw [aA9 h.sa.g] at e
    obtain rfl:=Option.some.inj e
    exact hw
  · split <;> rfl
  · intro hq; split <;> exact hq
  · intro hq; split <;> exact hq
  · have hab := h.ab
    split
    · show max _ _ ≤ _; omega
    · exact hab
  · have hal := h.al.len
    split
    · rename_i hc
      intro hD
      by_cases hf : l.b.Recv.End = l.b.Recv.Recv.Base
      · have := (hc.2.2 (decide_eq_true hf)).1
        omega
      · have hD : (if decide (l.b.Recv.End = l.b.Recv.Recv.Base) = true then true else l.a.Send.Done) = true := hD
        rw [decide_eq_false hf] at hD
        exact h.dn hD
    · exact h.dn
theorem deed7 (h : LI w n m l I k) {d : D25} (hd : dOk d) (hk : d.Kind % 8 = 7) : ∃ L,DL l.a.Send l.a.Send.Pieces (d.Path % 4) L ∧ iF d l = some (outL true ⟨⟨l.a.ID,zV l.a.Send (d.Path % 4) L,l.a.Recv,l.a.Out,l.a.In,l.a.Mine,l.a.Hers⟩,l.b,l.went,l.wrote,l.read,l.given,l.end_⟩) ∧ LI w n m ⟨⟨l.a.ID,zV l.a.Send (d.Path % 4) L,l.a.Recv,l.a.Out,l.a.In,l.a.Mine,l.a.Hers⟩,l.b,l.went,l.wrote,l.read,l.given,l.end_⟩ I k:=by
  obtain ⟨⟨k1,k2⟩,⟨k3,k4⟩,⟨k5,k6⟩,k7⟩:=hd
  have ea:=vJ l.a
  obtain ⟨L,dl,hs⟩:=sdead h.sa (d.Path % 4)
  refine ⟨L,dl,?_,xV h ⟨g_dead h.sa.g dl,Int.le_refl _,?_,Int.le_refl _,id,rfl⟩ rfl id id h.ab h.dn⟩
  · unfold iF bQ
    rw [oA k1 (by decide),bnoS]
    simp only [bndD,decide_eq_false (show ¬ d.Kind % 8 = 0 by omega),decide_eq_false (show ¬ d.Kind % 8 = 1 by omega),decide_eq_false (show ¬ d.Kind % 8 = 2 by omega),decide_eq_false (show ¬ d.Kind % 8 = 3 by omega),decide_eq_false (show ¬ d.Kind % 8 = 4 by omega),decide_eq_false (show ¬ d.Kind % 8 = 5 by omega),decide_eq_false (show ¬ d.Kind % 8 = 6 by omega),decide_eq_true hk,cR,cA,ea,oA k5 (show (0 : Int) < 4 by decide),bnoS,w64 (show -9223372036854775808 ≤ d.Path % 4 by omega) (by omega),hs]
    rfl
  · show l.a.Send.Data = l.a.Send.Data.drop (l.a.Send.Base - l.a.Send.Base).toNat
    simp
end
end Go.Fn
open Go Go.IL
namespace Go.Fn
section
variable {w : Int} {n m : Nat} {l : Ln} {I : List Iv} {k : Int}
theorem deed5 (h : LI w n m l I k) (hn : n ≤ 500) {d : D25} (hd : dOk d) (hk : d.Kind % 8 = 5) : iF d l = some (outL true ⟨⟨l.a.ID,l.a.Send,l.a.Recv,⟨l.a.Out.Window,l.a.Out.Limit + l.given,l.a.Out.Used,l.a.Out.Read⟩,l.a.In,l.a.Mine,l.a.Hers⟩,l.b,l.went,l.wrote,l.read,0,l.end_⟩) ∧ LI w n m ⟨⟨l.a.ID,l.a.Send,l.a.Recv,⟨l.a.Out.Window,l.a.Out.Limit + l.given,l.a.Out.Used,l.a.Out.Read⟩,l.a.In,l.a.Mine,l.a.Hers⟩,l.b,l.went,l.wrote,l.read,0,l.end_⟩ I k:=by
  obtain ⟨⟨k1,k2⟩,⟨k3,k4⟩,⟨k5,k6⟩,k7⟩:=hd
  have ea:=vJ l.a
  obtain ⟨g1,g2⟩:=h.gi
  obtain ⟨o1,o2,o3,o4,o5,o6⟩:=h.sa.oo
  obtain ⟨i1,i2,i3,i4,i5,i6⟩:=h.sb.io
  have hli : LI w n m ⟨⟨l.a.ID,l.a.Send,l.a.Recv,⟨l.a.Out.Window,l.a.Out.Limit + l.given,l.a.Out.Used,l.a.Out.Read⟩,l.a.In,l.a.Mine,l.a.Hers⟩,l.b,l.went,l.wrote,l.read,0,l.end_⟩ I k :=
    ⟨⟨h.sa.id,h.sa.mi,h.sa.he,⟨o1,o2,by show l.a.Out.Used ≤ l.a.Out.Limit + l.given; omega,by show l.a.Out.Limit + l.given ≤ 1000000; omega,o5,o6⟩,h.sa.io,h.sa.g,h.sa.rq,h.sa.hi,h.sa.en,h.sa.ou,h.sa.iu,h.sa.ir,h.sa.il⟩,h.sb,h.am,h.bm,h.al,h.en,h.kn,⟨by show l.a.Out.Limit + l.given + 0 = l.b.In.Limit; omega,Int.le_refl _⟩,h.bw,h.wn,h.rd,h.fi,h.wb,h.ml,h.ab,h.dn⟩
  refine ⟨?_,hli⟩
  unfold iF bQ
  rw [oA k1 (by decide),bnoS]
  simp only [bndD,decide_eq_false (show ¬ d.Kind % 8 = 0 by omega),decide_eq_false (show ¬ d.Kind % 8 = 1 by omega),decide_eq_false (show ¬ d.Kind % 8 = 2 by omega),decide_eq_false (show ¬ d.Kind % 8 = 3 by omega),decide_eq_false (show ¬ d.Kind % 8 = 4 by omega),decide_eq_true hk,cR,cA,ea]
  by_cases hg : 0 < l.given
  · rw [decide_eq_true hg, cR, swindow h.sa h.cutA (by omega) (by omega), bnoS]
    rfl
  · rw [decide_eq_false hg, cA]
    have hz : l.given = 0:=by omega
    unfold outL
    simp only [hz,Int.add_zero]
theorem deed4 (h : LI w n m l I k) (hn : n ≤ 500) {d : D25} (hd : dOk d) (hk : d.Kind % 8 = 4) : ∃ s' m' e g,0 ≤ m' ∧ 0 ≤ g ∧ iF d l = some (outL true ⟨l.a,⟨l.b.ID,l.b.Send,⟨s',l.b.Recv.End⟩,l.b.Out,⟨l.b.In.Window,l.b.In.Limit + g,l.b.In.Used,l.b.In.Read + m'⟩,l.b.Mine,l.b.Hers⟩,l.went,l.wrote,sl l.wrote 0 (l.b.In.Read + m'),l.given + g,l.end_ || e⟩) ∧
    LI w n m ⟨l.a,⟨l.b.ID,l.b.Send,⟨s',l.b.Recv.End⟩,l.b.Out,⟨l.b.In.Window,l.b.In.Limit + g,l.b.In.Used,l.b.In.Read + m'⟩,l.b.Mine,l.b.Hers⟩,l.went,l.wrote,sl l.wrote 0 (l.b.In.Read + m'),l.given + g,l.end_ || e⟩ I k ∧
    s'.Base = l.b.Recv.Recv.Base ∧ (1 ≤ d.N → m' = min d.N l.b.Recv.Recv.Ready.length) ∧ (0 ≤ l.b.Recv.End → l.b.In.Read + m' = l.b.Recv.Recv.Base → l.b.Recv.Recv.Base = l.b.Recv.End → e = true) ∧ (l.b.Recv.End < 0 → max 1 (l.b.In.Window / 2) ≤ l.b.In.Read + m' + l.b.In.Window - l.b.In.Limit → 1 ≤ g):=by
  obtain ⟨⟨k1,k2⟩,⟨k3,k4⟩,⟨k5,k6⟩,k7⟩:=hd
  have eb:=vJ l.b
  obtain ⟨g1,g2⟩:=h.gi
  obtain ⟨i1,i2,i3,i4,i5,i6⟩:=h.sb.io
  have hwb:=h.wb; have hbw:=h.sb.rq.bw; have hir:=h.sb.ir; have hrl:=h.sb.rq.rl
  have ho:=h.sa.oo.2.2.1; have ho1:=h.sa.oo.1; have ho2:=h.sa.oo.2.1
  obtain ⟨s',m',e,e1,e2,e3,e4,e5,e6,e7,e8⟩:=sread h.sb h.cutB d.N (by omega)
  have hcut2 : kW ⟨l.b.ID,l.b.Send,⟨s',l.b.Recv.End⟩,l.b.Out,⟨l.b.In.Window,l.b.In.Limit,l.b.In.Used,l.b.In.Read + m'⟩,l.b.Mine,l.b.Hers⟩ = false:=h.cutB
  obtain ⟨g,q1,q2,q4,q3⟩:=sgrant e2 hcut2
  have q2 : l.b.In.Limit + g ≤ l.b.In.Read + m' + l.b.In.Window:=q2
  have hrd : l.read ++ sl l.wrote l.b.In.Read (l.b.In.Read + m') = sl l.wrote 0 (l.b.In.Read + m'):=by
    rw [h.rd]; exact vZ (Int.le_refl _) i1 (by omega) (by omega)
  have hrl2 : l.read.length ≤ l.wrote.length:=by rw [h.rd]; exact vX _ _ _
  refine ⟨s',m',e,g,e3,q1,?_,⟨h.sa,⟨h.sb.id,h.sb.mi,h.sb.he,h.sb.oo,⟨by show 0 ≤ l.b.In.Read + m'; omega,e2.io.2.1,by show l.b.In.Used ≤ l.b.In.Limit + g; omega,by show l.b.In.Limit + g ≤ 1000000; omega,i5,i6⟩,h.sb.g,e2.rq,e2.hi,e2.en,e2.ou,e2.iu,e2.ir,q2⟩,h.am,h.bm,h.al,h.en,h.kn,⟨by show l.a.Out.Limit + (l.given + g) = l.b.In.Limit + g; omega,by show 0 ≤ l.given + g; omega⟩,h.bw,h.wn,rfl,fun he=>?_,h.wb,h.ml,?_,h.dn⟩,e5,e7,e8,q4⟩
  · unfold iF bQ
    rw [oA k1 (by decide),bnoS]
    simp only [bndD,decide_eq_false (show ¬ d.Kind % 8 = 0 by omega),decide_eq_false (show ¬ d.Kind % 8 = 1 by omega),decide_eq_false (show ¬ d.Kind % 8 = 2 by omega),decide_eq_false (show ¬ d.Kind % 8 = 3 by omega),decide_eq_true hk,cR,cA,eb,w64 (show -9223372036854775808 ≤ d.N by omega) (by omega),e1,bnoS]
    rw [tM (by have:=vX l.wrote l.b.In.Read (l.b.In.Read + m'); omega),bnoS,hrd]
    simp only [q3,bnoS,decide_true,w64 (show -9223372036854775808 ≤ l.given + g by omega) (by omega)]
    rfl
  · show l.b.In.Read + m' = (l.wrote.length : Int) ∧ l.a.Send.Closed = true ∧ l.b.Recv.End = (l.wrote.length : Int)
    have he : (l.end_ || e) = true:=he
    rcases Bool.or_eq_true _ _ |>.mp he with he | he
    · have := h.fi he
      exact ⟨by omega,this.2⟩
    · obtain ⟨z1, z2⟩ := e6 he
      rcases h.en with z | ⟨z3,z4,_⟩
      · omega
      · exact ⟨by omega,z4,z3⟩
  · show l.a.Send.Base ≤ s'.Base
    rw [e5]; exact h.ab
theorem yZ (h : LI w n m l I k) (hn : n ≤ 500) {q : Pe} (hq : q ∈ l.went) : ∃ st' I' k' x,fD l.b q.at_ q.s q.fin = some (st',x,0) ∧ LI w n m ⟨l.a,st',l.went,l.wrote,l.read,l.given,l.end_⟩ I' k' ∧
    st'.Recv.Recv.Base - st'.Recv.Recv.Ready.length = l.b.Recv.Recv.Base - l.b.Recv.Recv.Ready.length ∧ (q.fin = true → st'.Recv.End = (l.wrote.length : Int)) ∧ (q.fin = false → st'.Recv.End = l.b.Recv.End) ∧ st'.In.Read = l.b.In.Read ∧ st'.In.Limit = l.b.In.Limit ∧ ∃ to,q.at_ ≤ to ∧ (q.s.length : Int) = to - q.at_ ∧ ∀ n,(n < l.b.Recv.Recv.Base ∨ mem n I ∨ (q.at_ ≤ n ∧ n < to)) → n < st'.Recv.Recv.Base ∨ mem n I':=by
  obtain ⟨h0,to,h1,h2,h3,h4⟩:=h.wn q hq
  obtain ⟨g1,g2⟩:=h.gi
  obtain ⟨o1,o2,o3,o4,o5,o6⟩:=h.sa.oo
  have hou:=h.sa.ou; have hnx:=h.nx; have hir:=h.sb.ir
  have he : l.b.Recv.End = -1 ∨ l.b.Recv.End = (l.wrote.length : Int):=h.en.imp id (fun a=>a.1)
  obtain ⟨st',I',k',x,e1,e2,e3,e4,e5,e6,e7,e8,e9,e10,e11,e12,e13,e14⟩:=sdata h.sb h.cutB (a:=q.at_) (to:=to) (fin:=q.fin) h0 h1 (by omega) (by omega) (fun hf=>(h4 hf).2.1) he
  rw [← h3] at e1
  have hir2:=e2.ir
  refine ⟨st',I',k',x,e1,⟨h.sa,e2,h.am,⟨e4.trans h.bm.1,e5.trans h.bm.2⟩,h.al,?_,?_,⟨by show l.a.Out.Limit + l.given = st'.In.Limit; omega,g2⟩,e6.trans h.bw,h.wn,by show l.read = sl l.wrote 0 st'.In.Read; rw [e8]; exact h.rd,fun hE=>?_,h.wb,h.ml,by have:=h.ab; show l.a.Send.Base ≤ st'.Recv.Recv.Base; omega,fun hD=>?_⟩,by omega,e11,e12,e8,e7,to,h1,by rw [h3]; exact kF h0 h1 (by omega),e14⟩
  · show st'.Recv.End = -1 ∨ (st'.Recv.End = (l.wrote.length : Int) ∧ l.a.Send.Closed = true ∧ l.a.Send.Next = (l.wrote.length : Int) ∧ l.a.Send.Sent = true)
    rcases e10 with e | ⟨ef,e⟩
    · rw [e]; exact h.en
    · have := h4 ef
      exact .inr ⟨e,this.1,by omega,this.2.2⟩
  · have := h.kn
    show k' ≤ l.a.Send.Next; omega
  · have := h.fi hE
    refine ⟨e8.trans this.1,this.2.1,?_⟩
    show st'.Recv.End = _
    rcases e10 with e | ⟨_,e⟩
    · exact e.trans this.2.2
    · exact e
  · show st'.Recv.End = _
    rcases e10 with e | ⟨_,e⟩
    · exact e.trans (h.dn hD)
    · exact e
theorem deed3 (h : LI w n m l I k) (hn : n ≤ 500) (hm : m ≤ 1000000) {d : D25} (hd : dOk d) (hk : d.Kind % 8 = 3) : ∃ l' I' k',iF d l = some (outL true l') ∧ LI w n m l' I' k':=by
  obtain ⟨⟨k1,k2⟩,⟨k3,k4⟩,⟨k5,k6⟩,k7⟩:=hd
  have eb:=vJ l.b
  have hml:=h.ml
  have key : iF d l = bnd (decide (0 < (l.went.length : Int))) fun x30=>bif x30 then (bno (remI d.N (l.went.length : Int)) fun x33=>bno (gix l.went x33) fun x34=>bno (l.went[(x33 : Int).toNat]?) fun x35=>bno (fD l.b x35.at_ x35.s x35.fin) fun x36=>some (outL (decide (x36.2.2 = 0)) ⟨l.a,x36.1,l.went,l.wrote,l.read,l.given,l.end_⟩)) else some (outL true l):=by
    unfold iF bQ
    rw [oA k1 (by decide),bnoS]
    simp only [bndD,decide_eq_false (show ¬ d.Kind % 8 = 0 by omega),decide_eq_false (show ¬ d.Kind % 8 = 1 by omega),decide_eq_false (show ¬ d.Kind % 8 = 2 by omega),decide_eq_true hk,cR,cA,eb,w64 (show -9223372036854775808 ≤ d.N by omega) (by omega)]
    rfl
  rw [key,bndD]
  by_cases hl : 0 < (l.went.length : Int)
  · have hr : 0 ≤ d.N % (l.went.length : Int) ∧ d.N % (l.went.length : Int) < l.went.length := ⟨Int.emod_nonneg _ (by omega), Int.emod_lt_of_pos _ hl⟩
    have hlt : (d.N % (l.went.length : Int)).toNat < l.went.length:=by omega
    have hg2 : l.went[(d.N % (l.went.length : Int)).toNat]? = some l.went[(d.N % (l.went.length : Int)).toNat]:=List.getElem?_eq_getElem hlt
    have hg1 : gix l.went (d.N % (l.went.length : Int)) = some l.went[(d.N % (l.went.length : Int)).toNat]:=by
      unfold gix; rw [if_pos hr.1,hg2]
    obtain ⟨st',I',k',x,e1,e2,_⟩:=yZ h hn (List.getElem_mem hlt)
    rw [decide_eq_true hl,cR,oA k3 hl,bnoS,hg1,bnoS,hg2,bnoS,e1,bnoS]
    exact ⟨_,I',k',rfl,e2⟩
  · rw [decide_eq_false hl, cA]
    exact ⟨l,I,k,rfl,h⟩
theorem aAF {st : St25} {W : List UInt8} {I : List Iv} {k : Int} (h : SG st W I k) {s : S23} (hg : G s) (h1 : st.Send.Next ≤ s.Next) (h2 : s.Next ≤ st.Out.Limit) : SG ⟨st.ID,s,st.Recv,⟨st.Out.Window,st.Out.Limit,s.Next,st.Out.Read⟩,st.In,st.Mine,st.Hers⟩ W I k :=
  ⟨h.id,h.mi,h.he,⟨h.oo.1,by have:=h.oo.2.1; have:=h.ou; show st.Out.Read ≤ s.Next; omega,h2,h.oo.2.2.2⟩,h.io,hg,h.rq,h.hi,h.en,rfl,h.iu,h.ir,h.il⟩
theorem uV (h : LI w n m l I k) {p most : Int} (hp : 0 ≤ p ∧ p < 4) (hmo : 0 ≤ most ∧ most ≤ 1000000) : ∃ s q data is, kP l.a p most 1099511627776 = some (⟨l.a.ID, s, l.a.Recv, ⟨l.a.Out.Window, l.a.Out.Limit, s.Next, l.a.Out.Read⟩, l.a.In, l.a.Mine, l.a.Hers⟩, q, data, is) ∧
    (is = false → s = l.a.Send) ∧ LI w n (m + 1) ⟨⟨l.a.ID,s,l.a.Recv,⟨l.a.Out.Window,l.a.Out.Limit,s.Next,l.a.Out.Read⟩,l.a.In,l.a.Mine,l.a.Hers⟩,l.b,if is = true then l.went ++ [⟨q.From,data,q.Fin⟩] else l.went,l.wrote,l.read,l.given,l.end_⟩ I k ∧
    (is = true → most ≥ 1 ∧ (eV l.a.Send most l.a.Out.Limit).2 = true ∧ q = pieceS l.a.Send p most l.a.Out.Limit ∧ data = sl l.wrote q.From q.To ∧ ∃ A B,l.a.Send.Pieces = A ++ B ∧ s = iO l.a.Send q (jX l.a.Send q) A B) ∧ (most ≥ 1 → (eV l.a.Send most l.a.Out.Limit).2 = true → is = true):=by
  obtain ⟨o1,o2,o3,o4,o5,o6⟩:=h.sa.oo
  have hou:=h.sa.ou
  have hno : ∀ (hh : most < 1 ∨ (eV l.a.Send most l.a.Out.Limit).2 = false),kB l.a.Send p most l.a.Out.Limit = some (l.a.Send,⟨0,0,0,false⟩,[],false):=fun hh=>pick_no h.sa.g hp hmo.2 (by omega) hh
  have same : LI w n (m + 1) ⟨⟨l.a.ID,l.a.Send,l.a.Recv,⟨l.a.Out.Window,l.a.Out.Limit,l.a.Send.Next,l.a.Out.Read⟩,l.a.In,l.a.Mine,l.a.Hers⟩,l.b,l.went,l.wrote,l.read,l.given,l.end_⟩ I k :=
    ⟨aAF h.sa h.sa.g (Int.le_refl _) (by omega),h.sb,h.am,h.bm,h.al,h.en,h.kn,h.gi,h.bw,h.wn,h.rd,h.fi,h.wb,by have:=h.ml; show l.went.length ≤ m + 1; omega,h.ab,h.dn⟩
  rw [spick h.sa h.cutA]
  by_cases h1 : most < 1
  · rw [hno (.inl h1), bnoS]
    exact ⟨_,_,_,_,rfl,fun _=>rfl,same,fun h=>(by cases h),fun h2=>absurd h2 (by omega)⟩
  · cases h2 : (eV l.a.Send most l.a.Out.Limit).2
    · rw [hno (.inr h2), bnoS]
      exact ⟨_,_,_,_,rfl,fun _=>rfl,same,fun h=>(by cases h),fun _ h3=>(by cases h3)⟩
    · have hk := pk_of h.sa.g (by_ := p) (most := most) (limit := l.a.Out.Limit) hp ⟨by omega, hmo.2⟩ (by omega) h2
      have hto : (pieceS l.a.Send p most l.a.Out.Limit).To ≤ max l.a.Send.Next l.a.Out.Limit:=next_to h.sa.g (m:=most) (by omega) (by omega)
      obtain ⟨A,B,a1,a2,a3⟩:=aBU h.sa.g (by_:=p) (most:=most) (limit:=l.a.Out.Limit) hp ⟨by omega,hmo.2⟩ (by omega) h2
      rw [a3,bnoS]
      have k1:=hk.lo; have k2:=hk.le; have k4:=hk.hi; have kfi:=hk.fi
      have hb0:=h.sa.g.b0; have hnd:=h.sa.g.nd; have hlen:=h.al.len
      have hd : (l.a.Send.Data.take ((pieceS l.a.Send p most l.a.Out.Limit).To - l.a.Send.Base).toNat).drop ((pieceS l.a.Send p most l.a.Out.Limit).From - l.a.Send.Base).toNat = sl l.wrote (pieceS l.a.Send p most l.a.Out.Limit).From (pieceS l.a.Send p most l.a.Out.Limit).To:=by
        have hc:=all_cut (ext:=[]) h.al k1 k2 k4
        rw [List.append_nil] at hc
        unfold cut at hc
        rw [if_pos (by omega)] at hc
        exact (Option.some.inj hc).symm
      rw [hd]
      have hr : (pieceS l.a.Send p most l.a.Out.Limit) = pieceS l.a.Send p most l.a.Out.Limit:=rfl
      generalize hq : pieceS l.a.Send p most l.a.Out.Limit = q at *
      have hnx : (iO l.a.Send q (jX l.a.Send q) A B).Next = max l.a.Send.Next q.To:=rfl
      refine ⟨_,_,_,_,rfl,fun h=>(by cases h),⟨aAF h.sa a2 (by rw [hnx]; omega) (by rw [hnx]; omega),h.sb,h.am,h.bm,⟨a2,h.al.data,h.al.len⟩,?_,?_,h.gi,h.bw,fun x hx=>?_,h.rd,h.fi,h.wb,?_,h.ab,h.dn⟩,fun _=>⟨by omega,rfl,rfl,rfl,A,B,a1,rfl⟩,fun _ _=>rfl⟩
      · rcases h.en with e | ⟨z1, z2, z3, z4⟩
        · exact .inl e
        · refine .inr ⟨z1, z2, ?_, by show (if q.Fin = true then true else l.a.Send.Sent) = true; rw [z4]; split <;> rfl⟩
          show max l.a.Send.Next q.To = (l.wrote.length : Int)
          omega
      · have := h.kn
        show k ≤ max l.a.Send.Next q.To
        omega
      · have hx : x ∈ l.went ++ [⟨q.From, sl l.wrote q.From q.To, q.Fin⟩] := hx
        rcases List.mem_append.1 hx with hx | hx
        · obtain ⟨b0, to, b1, b2, b3, b4⟩ := h.wn x hx
          exact ⟨b0,to,b1,by show to ≤ max l.a.Send.Next q.To; omega,b3,fun hf=>⟨(b4 hf).1,(b4 hf).2.1,by show (if q.Fin = true then true else l.a.Send.Sent) = true; rw [(b4 hf).2.2]; split <;> rfl⟩⟩
        · rw [List.mem_singleton.1 hx]
          refine ⟨by show 0 ≤ q.From; omega,q.To,k2,by show q.To ≤ max l.a.Send.Next q.To; omega,rfl,fun hf=>?_⟩
          have hf : q.Fin = true:=hf
          rw [hf] at kfi
          obtain ⟨z1,z2⟩:=Bool.and_eq_true _ _ |>.mp kfi.symm
          have z1:=of_decide_eq_true z1
          exact ⟨aA0 (s:=l.a.Send) z2,by show q.To = (l.wrote.length : Int); omega,by show (if q.Fin = true then true else l.a.Send.Sent) = true; rw [hf]; rfl⟩
      · have := h.ml
        show (l.went ++ [_]).length ≤ m + 1
        rw [List.length_append,List.length_singleton]; omega
theorem deed2 (h : LI w n m l I k) (hn : n ≤ 500) (hm : m ≤ 1000000) {d : D25} (hd : dOk d) (hk : d.Kind % 8 = 2) : ∃ s q data is,kP l.a (d.Path % 4) d.N 1099511627776 = some (⟨l.a.ID,s,l.a.Recv,⟨l.a.Out.Window,l.a.Out.Limit,s.Next,l.a.Out.Read⟩,l.a.In,l.a.Mine,l.a.Hers⟩,q,data,is) ∧ iF d l = some (outL true ⟨⟨l.a.ID,s,l.a.Recv,⟨l.a.Out.Window,l.a.Out.Limit,s.Next,l.a.Out.Read⟩,l.a.In,l.a.Mine,l.a.Hers⟩,l.b,if is = true then l.went ++ [⟨q.From,data,q.Fin⟩] else l.went,l.wrote,l.read,l.given,l.end_⟩):=by
  obtain ⟨⟨k1,k2⟩,⟨k3,k4⟩,⟨k5,k6⟩,k7⟩:=hd
  have ea:=vJ l.a
  have hml:=h.ml
  obtain ⟨s,q,data,is,e1,e2,e3,e4,e5⟩:=uV h (p:=d.Path % 4) (most:=d.N) (by omega) (by omega)
  refine ⟨s,q,data,is,e1,?_⟩
  unfold iF bQ
  rw [oA k1 (by decide),bnoS]
  simp only [bndD,decide_eq_false (show ¬ d.Kind % 8 = 0 by omega),decide_eq_false (show ¬ d.Kind % 8 = 1 by omega),decide_eq_true hk,cR,cA,ea,oA k5 (show (0 : Int) < 4 by decide),bnoS,w64 (show -9223372036854775808 ≤ d.Path % 4 by omega) (by omega),w64 (show -9223372036854775808 ≤ d.N by omega) (by omega),e1]
  cases is
  · rfl
  · rw [cR, mI (by simp; omega) (by simp; omega), bnoS]
    rfl
end
end Go.Fn
open Go Go.IL
namespace Go.Fn
theorem few_L {l : List D25} (hl : l.length ≤ 1000) : ∀ (r p : List D25) (f : Nat), l = p ++ r → r.length < f → (∀ d ∈ p, d.Text.length ≤ 100) → ∃ b, eL l f (p.length : Int) = some b ∧ (b = true → ∀ d ∈ l, d.Text.length ≤ 100)
  | [], p, f + 1, h, _, hp => by
    unfold eL
    simp only [bndD,qB h,cA]
    exact ⟨true,rfl,fun _ d hd=>hp d (by rw [h] at hd; simpa using hd)⟩
  | d :: r, p, f + 1, h, hf, hp => by
    unfold eL
    simp only [bndD,nT h,cR,iP h,bnoS,w_at h (show l.length ≤ 1000000 by omega)]
    by_cases hc : 100 < (d.Text.length : Int)
    · rw [decide_eq_true hc, cR]
      exact ⟨false,rfl,fun h=>(by cases h)⟩
    · rw [decide_eq_false hc, cA]
      exact few_L hl r (p ++ [d]) f (iM h) (by simpa using hf) (fun e he=>by
        rcases List.mem_append.1 he with he | he
        · exact hp e he
        · rw [List.mem_singleton.1 he]; omega)
theorem few25 (l : List D25) {most : Nat} (hm : most ≤ 1000) : ∃ b,gY l (most : Int) = some b ∧ (b = true → l.length ≤ most ∧ ∀ d ∈ l,d.Text.length ≤ 100):=by
  unfold gY
  rw [bndD]
  by_cases hc : (most : Int) < (l.length : Int)
  · rw [decide_eq_true hc, cR]
    exact ⟨false,rfl,fun h=>(by cases h)⟩
  · rw [decide_eq_false hc, cA]
    obtain ⟨b,h1,h2⟩:=few_L (l:=l) (by omega) l [] fuel rfl (gC (by omega)) (fun _ h=>(List.not_mem_nil h).elim)
    exact ⟨b,h1,fun hb=>⟨by omega,h2 hb⟩⟩
def start (w : Int) : Ln:=⟨⟨5,aBW,⟨⟨0,[],[]⟩,-1⟩,⟨w,w,0,0⟩,⟨w,w,0,0⟩,-1,-1⟩,⟨5,aBW,⟨⟨0,[],[]⟩,-1⟩,⟨w,w,0,0⟩,⟨w,w,0,0⟩,-1,-1⟩,[],[],[],0,false⟩
theorem yL {w : Int} (hw : 1 ≤ w ∧ w ≤ 256) : SG ⟨5,aBW,⟨⟨0,[],[]⟩,-1⟩,⟨w,w,0,0⟩,⟨w,w,0,0⟩,-1,-1⟩ [] [] 0:=by
  have ho : LgOk ⟨w,w,0,0⟩:=⟨Int.le_refl _,Int.le_refl _,by show 0 ≤ w; omega,by show w ≤ 1000000; omega,hw.1,by show w ≤ 4096; omega⟩
  refine ⟨rfl,⟨Int.le_refl _,by show (-1 : Int) ≤ 255; decide⟩,⟨Int.le_refl _,by show (-1 : Int) ≤ 255; decide⟩,ho,ho,g_new,⟨by decide,Int.le_refl _,by show (0 : Int) ≤ (([] : List UInt8).length : Int); decide,by show (([] : List UInt8).length : Int) ≤ 0; decide,by show ([] : List UInt8).length ≤ 4096; decide,rfl,rfl,VS.nil,fun _ h=>(List.not_mem_nil h).elim,fun _ h=>(List.not_mem_nil h).elim⟩,⟨Int.le_refl _,fun _ h=>(List.not_mem_nil h).elim,.inl rfl⟩,.inl rfl,rfl,by show (0 : Int) = max (-1) 0; decide,by show (0 : Int) = 0 - (([] : List UInt8).length : Int); decide,by show w ≤ 0 + w; omega⟩
theorem aBX {w : Int} (hw : 1 ≤ w ∧ w ≤ 256) : LI w 0 0 (start w) [] 0 :=
  ⟨yL hw,yL hw,⟨rfl,rfl⟩,⟨rfl,rfl⟩,⟨g_new,rfl,rfl⟩,.inl rfl,Int.le_refl _,⟨by show w + 0 = w; omega,Int.le_refl _⟩,rfl,fun _ h=>(List.not_mem_nil h).elim,rfl,fun h=>(by cases h),Nat.le_refl _,Nat.le_refl _,Int.le_refl _,fun h=>(by cases h)⟩
theorem new25 {w : Int} (hw : 1 ≤ w ∧ w ≤ 256) : lB 5 w w = some ((start w).a,0):=by
  have hc : lL w = some (⟨w,w,0,0⟩,0):=by
    unfold lL
    rw [tL (l:=⟨w,w,0,0⟩) ⟨Int.le_refl _,Int.le_refl _,by show 0 ≤ w; omega,by show w ≤ 1000000; omega,hw.1,by show w ≤ 4096; omega⟩,bnoS]
    rfl
  unfold lB
  rw [hc,bnoS,bnoS]
  simp only [bndD,decide_true,Bool.not_true,Bool.or_self,decide_eq_false (show ¬ 4096 < w by omega),show decide ((5 : Int) < 0) = false from rfl,show decide ((1048576 : Int) < 5) = false from rfl,cA]
  rfl
section
variable {w : Int} {n m : Nat} {l : Ln} {I : List Iv} {k : Int}
theorem aBr (h : LI w n m l I k) (hn : n ≤ 500) (hm : m ≤ 1000000) {d : D25} (hd : dOk d) : ∃ l' I' k',iF d l = some (outL true l') ∧ LI w (n + 1) (m + 1) l' I' k':=by
  have hk : d.Kind % 8 = 0 ∨ d.Kind % 8 = 1 ∨ d.Kind % 8 = 2 ∨ d.Kind % 8 = 3 ∨ d.Kind % 8 = 4 ∨ d.Kind % 8 = 5 ∨ d.Kind % 8 = 6 ∨ d.Kind % 8 = 7:=by omega
  rcases hk with hk | hk | hk | hk | hk | hk | hk | hk
  · obtain ⟨l', e, hl⟩ := deed0 h hn hd hk
    exact ⟨l',I,k,e,hl.mono (by omega) (by omega)⟩
  · obtain ⟨e, hl⟩ := deed1 h hd hk
    exact ⟨_,I,k,e,hl.mono (by omega) (by omega)⟩
  · obtain ⟨s, q, data, is, e1, e2⟩ := deed2 h hn hm hd hk
    obtain ⟨⟨k1,k2⟩,⟨k3,k4⟩,⟨k5,k6⟩,k7⟩:=hd
    obtain ⟨s',q',data',is',e3,e4,e5,_⟩:=uV h (p:=d.Path % 4) (most:=d.N) (by omega) (by omega)
    rw [e1] at e3
    have e3:=Option.some.inj e3
    simp only [Prod.mk.injEq,aR.mk.injEq] at e3
    obtain ⟨⟨_,hs,_⟩,hq,hdt,his⟩:=e3
    subst hs hq hdt his
    exact ⟨_,I,k,e2,e5.mono (by omega) (by omega)⟩
  · obtain ⟨l', I', k', e, hl⟩ := deed3 h hn hm hd hk
    exact ⟨l',I',k',e,hl.mono (by omega) (by omega)⟩
  · obtain ⟨s', m', e, g, _, _, e1, e2, _⟩ := deed4 h hn hd hk
    exact ⟨_,I,k,e1,e2.mono (by omega) (by omega)⟩
  · obtain ⟨e, hl⟩ := deed5 h hn hd hk
    exact ⟨_,I,k,e,hl.mono (by omega) (by omega)⟩
  · obtain ⟨s, e, hl, _⟩ := deed6 h hd hk
    exact ⟨_,I,k,e,hl.mono (by omega) (by omega)⟩
  · obtain ⟨L, _, e, hl⟩ := deed7 h hd hk
    exact ⟨_,I,k,e,hl.mono (by omega) (by omega)⟩
theorem aBP (h : LI w n m l I k) (hn : n ≤ 1000) : dM l w = some true:=by
  obtain ⟨r1,r2⟩:=h.rw_
  obtain ⟨g1,g2⟩:=h.gi
  obtain ⟨i1,i2,i3,i4,i5,i6⟩:=h.sb.io
  obtain ⟨o1,o2,o3,o4,o5,o6⟩:=h.sa.oo
  have hbw:=h.bw; have hil:=h.sb.il
  have hwb:=h.wb
  have hl:=kF (W:=l.wrote) (a:=0) (b:=l.b.In.Read) (Int.le_refl _) r1 r2
  rw [← h.rd] at hl
  have hcut : cut l.wrote 0 (l.read.length : Int) = some l.read:=by
    unfold cut
    rw [if_pos (by omega)]
    congr 1
    conv=>rhs; rw [h.rd]
    rw [show (l.read.length : Int) = l.b.In.Read by omega]
    rfl
  have hfin : (!l.end_ || (decide (l.read = l.wrote) && l.a.Send.Closed)) = true:=by
    cases hE : l.end_
    · rfl
    · obtain ⟨z1, z2, _⟩ := h.fi hE
      have : l.read = l.wrote:=by rw [h.rd,z1,aB3]
      rw [this,z2]; simp
  unfold dM
  simp only [yM h.sa,yM h.sb,bnoS,bndD,decide_true,Bool.not_true,beq_self_eq_true,gdtt,Bool.or_self,decide_eq_false (show ¬ (l.wrote.length : Int) < (l.read.length : Int) by omega),hcut,cA,w64 (show -9223372036854775808 ≤ l.b.In.Used - l.b.In.Read by omega) (by omega),decide_eq_false (show ¬ w < l.b.In.Used - l.b.In.Read by omega),w64 (show -9223372036854775808 ≤ l.a.Out.Limit + l.given by omega) (by omega),decide_eq_true g1,decide_eq_false (show ¬ l.a.Out.Limit < l.a.Out.Used by omega),hfin]
end
end Go.Fn
open Go Go.IL
namespace Go.Fn
def sz : List Iv → Int
  | []=>0
  | x :: r=>(x.To - x.From) + sz r
theorem vU : ∀ (a b : List Iv),sz (a ++ b) = sz a + sz b
  | [],b=>by show sz b = 0 + sz b; omega
  | x :: r, b => by
    have:=vU r b
    show (x.To - x.From) + sz (r ++ b) = (x.To - x.From) + sz r + sz b
    omega
theorem sz_nn : ∀ {l : List Iv},(∀ x ∈ l,x.From < x.To) → 0 ≤ sz l
  | [],_=>Int.le_refl _
  | x :: r, h => by
    have:=sz_nn (l:=r) (fun y hy=>h y (by simp [hy]))
    have:=h x (by simp)
    show 0 ≤ (x.To - x.From) + sz r
    omega
theorem aBI (y x : Iv) (hy : y.From < y.To) (hx : x.From < x.To) : sz (parts y x) ≤ y.To - y.From:=by
  unfold parts
  rw [vU]
  have e1 : sz (if y.From < min y.To x.From then [(⟨y.From,min y.To x.From⟩ : Iv)] else []) = if y.From < min y.To x.From then min y.To x.From - y.From else 0:=by
    split
    · show (min y.To x.From - y.From) + 0 = _; omega
    · rfl
  have e2 : sz (if max y.From x.To < y.To then [(⟨max y.From x.To,y.To⟩ : Iv)] else []) = if max y.From x.To < y.To then y.To - max y.From x.To else 0:=by
    split
    · show (y.To - max y.From x.To) + 0 = _; omega
    · rfl
  rw [e1,e2]
  split <;> split <;> omega
theorem sz_head (y x : Iv) (hy : y.From < y.To) (hx : x.From < x.To) (he : x.From = y.From) (ht : x.To ≤ y.To) : sz (parts y x) + 1 ≤ y.To - y.From:=by
  unfold parts
  rw [vU,if_neg (by omega)]
  have e2 : sz (if max y.From x.To < y.To then [(⟨max y.From x.To,y.To⟩ : Iv)] else []) = if max y.From x.To < y.To then y.To - max y.From x.To else 0:=by
    split
    · show (y.To - max y.From x.To) + 0 = _; omega
    · rfl
  rw [e2]
  show 0 + _ + 1 ≤ _
  split <;> omega
theorem aAB (x : Iv) (hx : x.From < x.To) : ∀ {l : List Iv},(∀ y ∈ l,y.From < y.To) → sz (cutS l x) ≤ sz l
  | [],_=>Int.le_refl _
  | y :: r, h => by
    have h1:=aAB x hx (l:=r) (fun z hz=>h z (by simp [hz]))
    have h2:=aBI y x (h y (by simp)) hx
    have e : cutS (y :: r) x = parts y x ++ cutS r x:=by unfold cutS; rw [List.flatMap_cons]
    rw [e,vU]
    show _ ≤ (y.To - y.From) + sz r
    omega
theorem sz_cuth (x y : Iv) {r : List Iv} (hx : x.From < x.To) (h : ∀ z ∈ y :: r,z.From < z.To) (he : x.From = y.From) (ht : x.To ≤ y.To) : sz (cutS (y :: r) x) + 1 ≤ sz (y :: r):=by
  have h1:=aAB x hx (l:=r) (fun z hz=>h z (by simp [hz]))
  have h2:=sz_head y x (h y (by simp)) hx he ht
  have e : cutS (y :: r) x = parts y x ++ cutS r x:=by unfold cutS; rw [List.flatMap_cons]
  rw [e,vU]
  show _ ≤ (y.To - y.From) + sz r
  omega
theorem sz_le : ∀ {l : List Iv} {a b : Int},l.Pairwise (fun x y=>x.To < y.From) → (∀ x ∈ l,x.From < x.To) → (∀ x ∈ l,a ≤ x.From ∧ x.To ≤ b) → a ≤ b → sz l ≤ b - a
  | [],a,b,_,_,_,h=>by show (0 : Int) ≤ _; omega
  | x :: r, a, b, hp, hn, hb, h => by
    have hp:=List.pairwise_cons.1 hp
    have h1:=hb x (by simp)
    have h2:=hn x (by simp)
    have:=sz_le (l:=r) (a:=x.To) (b:=b) hp.2 (fun y hy=>hn y (by simp [hy])) (fun y hy=>⟨by have:=hp.1 y hy; omega,(hb y (by simp [hy])).2⟩) h1.2
    show (x.To - x.From) + sz r ≤ _
    omega
def blkS (s : S23) (lim : Int) : Int:=if s.Next < endS s ∧ lim ≤ s.Next then 1 else 0
def finS (s : S23) : Int:=if dueS s = true then 1 else 0
def left (s : S23) (lim : Int) : Int:=sz s.Lost + 2 * (endS s - s.Next) + blkS s lim + finS s
theorem aBx (s : S23) (lim : Int) : 0 ≤ blkS s lim ∧ blkS s lim ≤ 1:=by unfold blkS; split <;> omega
theorem aBn (s : S23) : 0 ≤ finS s ∧ finS s ≤ 1:=by unfold finS; split <;> omega
theorem vO {s s' : S23} {lim lim' : Int} (hn : s'.Next = s.Next) (he : endS s' = endS s) (hl : lim ≤ lim') : blkS s' lim' ≤ blkS s lim:=by
  unfold blkS; rw [hn,he]; split <;> split <;> omega
theorem vI {s s' : S23} (h : dueS s' = true → dueS s = true) : finS s' ≤ finS s:=by
  unfold finS
  by_cases h1 : dueS s' = true
  · rw [if_pos h1,if_pos (h h1)]; omega
  · rw [if_neg h1]; split <;> omega
theorem yV {s : S23} {p : Pc} {L : List Iv} {A B : List Pc} : dueS (iO s p L A B) = (!p.Fin && dueS s):=by
  unfold dueS iO
  cases p.Fin <;> cases s.Closed <;> cases s.Done <;> cases s.Again <;> cases s.Sent <;> rfl
theorem aAQ {s : S23} (h : G s) {by_ lim : Int} {A B : List Pc} (hn : (eV s 30 lim).2 = true) : left (iO s (pieceS s by_ 30 lim) (jX s (pieceS s by_ 30 lim)) A B) lim + 1 ≤ left s lim := by
  have hfm : finS (iO s (pieceS s by_ 30 lim) (jX s (pieceS s by_ 30 lim)) A B) ≤ finS s:=vI (fun hd=>by
    rw [yV] at hd; exact (Bool.and_eq_true _ _ |>.mp hd).2)
  have hnn:=sz_nn h.lv.ne
  have hfr:=aBn (iO s (pieceS s by_ 30 lim) (jX s (pieceS s by_ 30 lim)) A B)
  have hbr:=aBx (iO s (pieceS s by_ 30 lim) (jX s (pieceS s by_ 30 lim)) A B) lim
  have hbs:=aBx s lim
  have hfs:=aBn s
  have hend : endS (iO s (pieceS s by_ 30 lim) (jX s (pieceS s by_ 30 lim)) A B) = endS s:=rfl
  unfold left
  rw [hend]
  cases hs : s.Lost with
  | cons x r =>
    have hx : x ∈ s.Lost:=by rw [hs]; simp
    have a1:=h.lv.ne x hx
    have a2:=h.lb x hx
    have e : eV s 30 lim = (⟨x.From,x.From + min 30 (x.To - x.From),0,false⟩,true):=by unfold eV; simp only [hs]
    have ef : (pieceS s by_ 30 lim).From = x.From:=by unfold pieceS; rw [e]
    have et : (pieceS s by_ 30 lim).To = x.From + min 30 (x.To - x.From):=by unfold pieceS; rw [e]
    generalize pieceS s by_ 30 lim = q at *
    have el : jX s q = cutS (x :: r) ⟨q.From,q.To⟩:=by unfold jX; rw [if_neg (by omega),hs]
    have hc:=sz_cuth ⟨q.From,q.To⟩ x (r:=r) (by show q.From < q.To; omega) (fun z hz=>h.lv.ne z (by rw [hs]; exact hz)) ef (by show q.To ≤ x.To; omega)
    have hN : (iO s q (jX s q) A B).Next = s.Next:=by show max s.Next q.To = s.Next; omega
    have hb:=vO (s:=s) (s':=iO s q (jX s q) A B) (lim:=lim) hN hend (Int.le_refl _)
    have hL : (iO s q (jX s q) A B).Lost = cutS (x :: r) ⟨q.From,q.To⟩:=el
    rw [hL,hN]
    omega
  | nil =>
    rw [hs] at hnn
    have z0 : sz ([] : List Iv) = 0:=rfl
    have hL0 : ∀ q : Pc,jX s q = []:=fun q=>by unfold jX; rw [hs]; split <;> rfl
    by_cases hc : 0 < endS s - s.Next
    · have e : eV s 30 lim = (⟨s.Next, s.Next + min (min (endS s - s.Next) 30) (max lim s.Next - s.Next), 0, false⟩, decide (0 < min (min (endS s - s.Next) 30) (max lim s.Next - s.Next))) := by unfold eV; simp only [hs]; rw [if_pos hc]
      rw [e] at hn
      have hn:=of_decide_eq_true hn
      have et : (pieceS s by_ 30 lim).To = s.Next + min (min (endS s - s.Next) 30) (max lim s.Next - s.Next):=by unfold pieceS; rw [e]
      generalize pieceS s by_ 30 lim = q at *
      have hN : (iO s q (jX s q) A B).Next = max s.Next q.To:=rfl
      have hL : (iO s q (jX s q) A B).Lost = []:=hL0 q
      rw [hL,hN,z0]
      omega
    · have e : eV s 30 lim = (⟨s.Next, s.Next, 0, false⟩, dueS s) := by unfold eV; simp only [hs]; rw [if_neg hc]
      rw [e] at hn
      have hn : dueS s = true:=hn
      have hnd:=h.nd
      have et : (pieceS s by_ 30 lim).To = s.Next:=by unfold pieceS; rw [e]
      have eF : (pieceS s by_ 30 lim).Fin = true:=by
        unfold pieceS; rw [e,hn,decide_eq_true (show s.Next = endS s by omega)]; rfl
      generalize pieceS s by_ 30 lim = q at *
      have hf1 : finS s = 1:=by unfold finS; rw [if_pos hn]
      have hf2 : finS (iO s q (jX s q) A B) = 0:=by unfold finS; rw [yV,eF,if_neg (by simp)]
      have hN : (iO s q (jX s q) A B).Next = s.Next:=by show max s.Next q.To = s.Next; omega
      have hb:=vO (s:=s) (s':=iO s q (jX s q) A B) (lim:=lim) hN hend (Int.le_refl _)
      have hL : (iO s q (jX s q) A B).Lost = []:=hL0 q
      rw [hL,hN,z0]
      omega
theorem no_next {s : S23} (h : G s) {lim : Int} (hn : (eV s 30 lim).2 = false) : s.Lost = [] ∧ ((s.Next < endS s ∧ lim ≤ s.Next) ∨ (s.Next = endS s ∧ dueS s = false)):=by
  have hnd:=h.nd
  cases hs : s.Lost with
  | cons x r =>
    have e : eV s 30 lim = (⟨x.From,x.From + min 30 (x.To - x.From),0,false⟩,true):=by unfold eV; simp only [hs]
    rw [e] at hn; cases hn
  | nil =>
    refine ⟨rfl,?_⟩
    by_cases hc : 0 < endS s - s.Next
    · have e : eV s 30 lim = (⟨s.Next, s.Next + min (min (endS s - s.Next) 30) (max lim s.Next - s.Next), 0, false⟩, decide (0 < min (min (endS s - s.Next) 30) (max lim s.Next - s.Next))) := by unfold eV; simp only [hs]; rw [if_pos hc]
      rw [e] at hn
      have hn:=of_decide_eq_false hn
      left; omega
    · have e : eV s 30 lim = (⟨s.Next, s.Next, 0, false⟩, dueS s) := by unfold eV; simp only [hs]; rw [if_neg hc]
      rw [e] at hn
      exact .inr ⟨by omega,hn⟩
theorem aA8 {s : S23} (h : G s) {n : Int} {fin : Bool} (hb : s.Base ≤ n) {s' : S23} (e : s' = if nE s n fin then tN s n fin else s) :
    s'.Next = s.Next ∧ s'.Closed = s.Closed ∧ endS s' = endS s ∧ sz s'.Lost ≤ sz s.Lost ∧ (dueS s' = true → dueS s = true) ∧ (∀ k,¬ mem k s'.Lost → ¬ mem k s.Lost ∨ k < n) ∧
    (s'.Sent = true → s'.Again = false → (s.Sent = true ∧ s.Again = false) ∨ (fin = true ∧ n = endS s)):=by
  subst e
  by_cases hc : nE s n fin
  · rw [if_pos hc]
    have hm : max n s.Base = n:=by omega
    have hl : (tN s n fin).Lost = rR s.Lost n:=by show rR s.Lost (max n s.Base) = _; rw [hm]
    refine ⟨rfl,rfl,vM h hc,?_,?_,fun k hk=>?_,?_⟩
    · rw [hl]
      unfold rR
      split
      · exact Int.le_refl _
      · exact aAB _ (by show 0 < n; omega) h.lv.ne
    · intro hd
      unfold dueS tN at hd
      unfold dueS
      revert hd
      cases fin <;> cases s.Closed <;> cases s.Done <;> cases s.Again <;> cases s.Sent <;> simp
    · rw [hl, sY (fun x hx => by have := h.lb x hx; have := h.b0; omega)] at hk
      by_cases hx : k < n
      · exact .inr hx
      · exact .inl (fun hm=>hk ⟨hm,by omega⟩)
    · intro h1 h2
      cases fin
      · exact .inl ⟨h1,h2⟩
      · exact .inr ⟨rfl,(hc.2.2 rfl).1⟩
  · rw [if_neg hc]
    exact ⟨rfl,rfl,rfl,Int.le_refl _,id,fun k hk=>.inl hk,fun h1 h2=>.inl ⟨h1,h2⟩⟩
end Go.Fn
