/-
  A part of the proof: rules and plain facts. No condition.
-/
import Derived.Test.YthjfhdlaockolaaIlSh
import Derived.KernelRfl
import Derived.Test.YthjfhdlaockolaaIlA34cD
import Derived.ProofKit
import Derived.OpenShut
set_option linter.all false
open Go Go.IL
namespace Go.Fn
theorem fN {α : Type} {l p r : List α} {x : α} (h : l = p ++ x :: r) : gix l (p.length : Int) = some x:=by
  subst h; rw [rL,List.getElem?_append_right (Nat.le_refl _)]; simp
theorem lZ {α : Type} {l p r : List α} {x : α} (h : l = p ++ x :: r) : decide ((p.length : Int) < (l.length : Int)) = true:=by
  subst h; simp; omega
theorem jY {α : Type} {l : List α} : decide ((l.length : Int) < (l.length : Int)) = false:=by simp
theorem w_at {α : Type} {l p r : List α} {x : α} (h : l = p ++ x :: r) (hl : l.length ≤ 1000000) : IntKind.wrap .i64 ((p.length : Int) + 1) = ((p ++ [x]).length : Int):=by
  subst h; simp only [List.length_append,List.length_cons,List.length_nil] at hl ⊢; rw [w64 (by omega) (by omega)]; omega
theorem jK {α : Type} {l p r : List α} {x : α} (h : l = p ++ x :: r) : l = (p ++ [x]) ++ r:=by rw [h]; simp
theorem tf : (true == false) = false:=rfl
theorem ft : (false == true) = false:=rfl
theorem zS {α : Type} {l p r : List α} (h : l = p ++ r) : cut l 0 (p.length : Int) = some p:=by
  subst h; unfold cut; rw [if_pos (by simp; omega)]; simp
theorem aAN {α : Type} {l p r : List α} (h : l = p ++ r) : cut l (p.length : Int) (l.length : Int) = some r:=by
  subst h; unfold cut; rw [if_pos (by simp; omega),Int.toNat_natCast,Int.toNat_natCast,List.take_length,List.drop_left]
theorem uM {α : Type} {L : Nat → Int → Option Int} {l : List α} {q : α → Bool}
    (h1 : ∀ p x r f,l = p ++ x :: r → L (f + 1) (p.length : Int) = bif q x then some (p.length : Int) else L f ((p ++ [x]).length : Int)) (h0 : ∀ f,L (f + 1) (l.length : Int) = some (-1)) :
    ∀ (r p : List α) (f : Nat), l = p ++ r → r.length < f → (∀ y ∈ p, q y = false) →
      (L f (p.length : Int) = some (-1) ∧ ∀ y ∈ l,q y = false) ∨ ∃ a x t,l = a ++ x :: t ∧ (∀ y ∈ a,q y = false) ∧ q x = true ∧ L f (p.length : Int) = some (a.length : Int)
  | [], p, f + 1, h, _, ha => by
    left
    rw [List.append_nil] at h
    subst h
    exact ⟨h0 f,ha⟩
  | y :: r, p, f + 1, h, hf, ha => by
    rw [h1 p y r f h]
    rcases Bool.eq_false_or_eq_true (q y) with hb | hb
    · right; exact ⟨p,y,r,h,ha,hb,by rw [hb]; rfl⟩
    · rw [hb, bM]
      exact uM h1 h0 r (p ++ [y]) f (jK h) (by simpa using hf) (fun z hz=>by
        rcases List.mem_append.1 hz with hz | hz
        · exact ha z hz
        · rw [List.mem_singleton.1 hz]; exact hb)
theorem aAJ {α : Type} {L : Nat → Int → Option Int} {l : List α} {q : α → Bool} (hl : l.length ≤ 1000000)
    (h1 : ∀ p x r f,l = p ++ x :: r → L (f + 1) (p.length : Int) = bif q x then some (p.length : Int) else L f ((p ++ [x]).length : Int)) (h0 : ∀ f,L (f + 1) (l.length : Int) = some (-1)) :
    ∃ k : Int,L fuel 0 = some k ∧ decide (0 ≤ k) = l.any q:=by
  rcases uM h1 h0 l [] fuel rfl (gS (by omega)) (fun _ h=>(List.not_mem_nil h).elim) with ⟨h2,h3⟩ | ⟨a,x,t,h2,h3,h4,h5⟩
  · refine ⟨-1, h2, ?_⟩
    symm
    have : l.any q = false:=by rw [List.any_eq_false]; intro y hy; rw [h3 y hy]; decide
    rw [this]; rfl
  · refine ⟨a.length, h5, ?_⟩
    have : l.any q = true:=List.any_eq_true.2 ⟨x,by rw [h2]; simp,h4⟩
    rw [this]; exact decide_eq_true (by omega)
theorem uQ {α : Type} {L : Nat → List α → Int → Int → Option (List α)} {q : α → Bool}
    (h1 : ∀ (f : Nat) (l : List α) (i j : Nat) (x : α),l.length ≤ 100000 → i ≤ j → j < l.length → l[j]? = some x → L (f + 1) l (i : Int) (j : Int) = bif !q x then L f (l.set i x) ((i + 1 : Nat) : Int) ((j + 1 : Nat) : Int) else L f l (i : Int) ((j + 1 : Nat) : Int))
    (h0 : ∀ (f : Nat) (l : List α) (i : Nat),i ≤ l.length → L (f + 1) l (i : Int) (l.length : Int) = some (l.take i)) :
    ∀ (r k m : List α) (f : Nat), k.length + m.length + r.length ≤ 100000 → r.length < f →
      L f (k ++ m ++ r) (k.length : Int) ((k.length + m.length : Nat) : Int) = some (k ++ r.filter fun y=>!q y)
  | [], k, m, f + 1, hl, _ => by
    have:=h0 f (k ++ m) k.length (by simp)
    rw [List.append_nil,show ((k.length + m.length : Nat) : Int) = ((k ++ m).length : Int) by simp,this]; simp
  | y :: r, k, m, f + 1, hl, hf => by
    simp only [List.length_cons] at hl hf
    have hy : (k ++ m ++ y :: r)[k.length + m.length]? = some y:=by
      rw [List.getElem?_append_right (by simp)]; simp
    have hlen : (k ++ m ++ y :: r).length = k.length + m.length + (r.length + 1):=by simp; omega
    rw [h1 f (k ++ m ++ y :: r) k.length (k.length + m.length) y (by omega) (by omega) (by omega) hy]
    rcases Bool.eq_false_or_eq_true (q y) with hb | hb
    · rw [hb, Bool.not_true, bM, List.filter_cons_of_neg (by simp [hb])]
      have:=uQ h1 h0 r k (m ++ [y]) f (by simp; omega) (by omega)
      rw [show k ++ m ++ y :: r = k ++ (m ++ [y]) ++ r by simp,← this]; congr 1; simp; omega
    · rw [hb, Bool.not_false, cP, List.filter_cons_of_pos (by simp [hb])]
      obtain ⟨m2,h3,h2⟩ : ∃ m2 : List α,m2.length = m.length ∧ (k ++ m ++ y :: r).set k.length y = k ++ [y] ++ m2 ++ r:=by
        rw [List.append_assoc k m,List.set_append_right _ _ (Nat.le_refl _),Nat.sub_self]
        cases m with
        | nil=>exact ⟨[],rfl,by simp⟩
        | cons a m=>exact ⟨m ++ [y],by simp,by simp⟩
      rw [h2]
      have:=uQ h1 h0 r (k ++ [y]) m2 f (by simp; omega) (by omega)
      rw [show k ++ y :: List.filter (fun y=>!q y) r = k ++ [y] ++ List.filter (fun y=>!q y) r by simp,← this]
      congr 1 <;> simp <;> omega
theorem aAM {α : Type} {I : Nat → Int → Option Int} {L : Nat → List α → Int → Int → Option (List α)} {l : List α} {q : α → Bool} (hl : l.length ≤ 100000)
    (i1 : ∀ p x r f,l = p ++ x :: r → I (f + 1) (p.length : Int) = bif q x then some (p.length : Int) else I f ((p ++ [x]).length : Int)) (i0 : ∀ f,I (f + 1) (l.length : Int) = some (-1))
    (h1 : ∀ (f : Nat) (l : List α) (i j : Nat) (x : α),l.length ≤ 100000 → i ≤ j → j < l.length → l[j]? = some x → L (f + 1) l (i : Int) (j : Int) = bif !q x then L f (l.set i x) ((i + 1 : Nat) : Int) ((j + 1 : Nat) : Int) else L f l (i : Int) ((j + 1 : Nat) : Int))
    (h0 : ∀ (f : Nat) (l : List α) (i : Nat),i ≤ l.length → L (f + 1) l (i : Int) (l.length : Int) = some (l.take i)) :
    (bno (I fuel 0) fun x1=>bnd (decide (x1 = (-1))) fun x2=>bif x2 then some l else bnd (IntKind.wrap .i64 (x1 + 1)) fun x4=>L fuel l x1 x4) = some (l.filter fun y=>!q y):=by
  rcases uM i1 i0 l [] fuel rfl (gS (by omega)) (fun _ h=>(List.not_mem_nil h).elim) with ⟨e1,e2⟩ | ⟨a,x,t,e1,e2,e3,e4⟩
  · have e1 : I fuel 0 = some (-1) := e1
    rw [e1,bnoS]
    simp only [bndD,decide_true,cP]
    rw [List.filter_eq_self.2 (fun y hy=>by rw [e2 y hy]; rfl)]
  · have e4 : I fuel 0 = some (a.length : Int) := e4
    have hql : a.length + (t.length + 1) ≤ 100000:=by rw [e1] at hl; simpa using hl
    rw [e4,bnoS]
    simp only [bndD,decide_eq_false (show ¬ (a.length : Int) = -1 by omega),bM]
    rw [w64 (by omega) (by omega)]
    have:=uQ h1 h0 t a [x] fuel (by simp; omega) (gS (by omega))
    rw [e1,List.filter_append,List.filter_cons_of_neg (by simp [e3]),List.filter_eq_self.2 (fun y hy=>by rw [e2 y hy]; rfl),← this]
    congr 1; simp
theorem vU {α : Type} [DecidableEq α] {L : Nat → Int → Option Bool} {l m : List α} (hm : l.length = m.length)
    (h1 : ∀ p x r s y t f,l = p ++ x :: r → m = s ++ y :: t → p.length = s.length → L (f + 1) (p.length : Int) = bif !decide (x = y) then some false else L f ((p ++ [x]).length : Int)) {z : Bool} (h0 : ∀ f,L (f + 1) (l.length : Int) = some z) :
    ∀ (r t p s : List α) (f : Nat),l = p ++ r → m = s ++ t → p.length = s.length → r.length < f → L f (p.length : Int) = some (decide (r = t) && z)
  | [], [], p, s, f + 1, h, k, e, _ => by
    rw [List.append_nil] at h
    subst h
    rw [h0]; simp
  | [],y :: t,p,s,f + 1,h,k,e,_=>by rw [h,k] at hm; simp at hm; omega
  | x :: r,[],p,s,f + 1,h,k,e,_=>by rw [h,k] at hm; simp at hm; omega
  | x :: r, y :: t, p, s, f + 1, h, k, e, hf => by
    rw [h1 p x r s y t f h k e]
    by_cases hx : x = y
    · subst hx
      rw [decide_eq_true rfl,Bool.not_true,bM]
      have:=vU hm h1 h0 r t (p ++ [x]) (s ++ [x]) f (jK h) (jK k) (by simp [e]) (by simpa using hf)
      rw [this]; simp
    · rw [decide_eq_false hx,Bool.not_false,cP]; simp [hx]
theorem qT {α : Type} [DecidableEq α] {L : Nat → Int → Option Bool} {l m : List α} (hl : l.length ≤ 1000000)
    (h1 : ∀ p x r s y t f,l = p ++ x :: r → m = s ++ y :: t → p.length = s.length → L (f + 1) (p.length : Int) = bif !decide (x = y) then some false else L f ((p ++ [x]).length : Int)) {z : Bool} (h0 : l.length = m.length → ∀ f,L (f + 1) (l.length : Int) = some z) :
    (bnd (!decide ((l.length : Int) = (m.length : Int))) fun x1=>bif x1 then some false else L fuel 0) = some (decide (l = m) && z):=by
  by_cases hm : l.length = m.length
  · simp only [bndD, decide_eq_true (show (l.length : Int) = (m.length : Int) by omega), Bool.not_true, bM]
    exact vU hm h1 (h0 hm) l m [] [] fuel rfl rfl rfl (gS (by omega))
  · simp only [bndD, decide_eq_false (show ¬ (l.length : Int) = (m.length : Int) by omega), Bool.not_false, cP]
    rw [decide_eq_false (fun h=>hm (by rw [h]))]; rfl
theorem bsf_gen {α : Type} {L : Nat → Int → Int → Option (Int × Bool)} {l : List α} {key : α → Int} {x : Int} (hl : l.length ≤ 1000000)
    (h1 : ∀ (f lo hi m : Nat) (y : α),lo < hi → hi ≤ l.length → m = (lo + hi) / 2 → l[m]? = some y → L (f + 1) (lo : Int) (hi : Int) = bif decide (key y < x) then L f ((m + 1 : Nat) : Int) (hi : Int) else L f (lo : Int) (m : Int))
    (h0 : ∀ (f lo : Nat),lo ≤ l.length → L (f + 1) (lo : Int) (lo : Int) = some ((lo : Int),decide ((l[lo]?).map key = some x))) :
    ∀ (f lo hi : Nat),hi - lo < f → lo ≤ hi → hi ≤ l.length → ∃ p : Nat,p ≤ l.length ∧ L f lo hi = some ((p : Int),decide ((l[p]?).map key = some x)) ∧
    (l.Pairwise (fun a b=>key a < key b) → (∀ y ∈ l.take lo,key y < x) → (∀ y ∈ l.drop hi,x ≤ key y) → (∀ y ∈ l.take p,key y < x) ∧ (∀ y ∈ l.drop p,x ≤ key y)):=by
  intro f
  induction f with
  | zero=>intro lo hi h; omega
  | succ f ih =>
    intro lo hi hf h2 h3
    by_cases hc : lo < hi
    · have hm : (lo + hi) / 2 < l.length := by omega
      rw [h1 f lo hi _ l[(lo + hi) / 2] hc h3 rfl (List.getElem?_eq_getElem hm)]
      generalize hmm : (lo + hi) / 2 = m at hm ⊢
      have hml : lo ≤ m:=by omega
      have hmh : m < hi:=by omega
      by_cases hx : key l[m] < x
      · rw [decide_eq_true hx, cP]
        obtain ⟨p,i1,i2,i3⟩:=ih (m + 1) hi (by omega) (by omega) h3
        refine ⟨p,i1,i2,fun hp ha hb=>i3 hp (fun y hy=>?_) hb⟩
        obtain ⟨j,hj,rfl⟩:=List.mem_iff_getElem.1 hy
        rw [List.length_take] at hj
        rw [List.getElem_take]
        rcases Nat.lt_or_ge j m with hjm | hjm
        · exact Int.lt_trans (List.pairwise_iff_getElem.1 hp j m (by omega) (by omega) hjm) hx
        · have : j = m := by omega
          subst this; exact hx
      · rw [decide_eq_false hx, bM]
        obtain ⟨p,i1,i2,i3⟩:=ih lo m (by omega) (by omega) (by omega)
        refine ⟨p,i1,i2,fun hp ha hb=>i3 hp ha (fun y hy=>?_)⟩
        obtain ⟨j,hj,rfl⟩:=List.mem_iff_getElem.1 hy
        rw [List.length_drop] at hj
        rw [List.getElem_drop]
        rcases Nat.eq_zero_or_pos j with rfl | hj0
        · simp only [Nat.add_zero]; omega
        · have := List.pairwise_iff_getElem.1 hp m (m + j) (by omega) (by omega) (by omega)
          omega
    · have : lo = hi := by omega
      subst this
      exact ⟨lo,h3,h0 f lo h3,fun _ ha hb=>⟨ha,hb⟩⟩
theorem yM {α : Type} {l a b : List α} {key : α → Int} {x : Int} (h : l = a ++ b) (ha : ∀ y ∈ a,key y < x) (hb : ∀ y ∈ b,x ≤ key y) : a = l.filter (fun y=>decide (key y < x)) ∧ b = l.filter (fun y=>decide (x ≤ key y)):=by
  subst h
  rw [List.filter_append,List.filter_append,List.filter_eq_self.2 (fun y hy=>decide_eq_true (ha y hy)),List.filter_eq_nil_iff.2 (fun y hy=>by have:=hb y hy; simp; omega),List.filter_eq_nil_iff.2 (fun y hy=>by have:=ha y hy; simp; omega),List.filter_eq_self.2 (fun y hy=>decide_eq_true (hb y hy))]
  simp
theorem bsf_all {α : Type} {L : Nat → Int → Int → Option (Int × Bool)} {l : List α} {key : α → Int} {x : Int} (hl : l.length ≤ 1000000)
    (h1 : ∀ (f lo hi m : Nat) (y : α),lo < hi → hi ≤ l.length → m = (lo + hi) / 2 → l[m]? = some y → L (f + 1) (lo : Int) (hi : Int) = bif decide (key y < x) then L f ((m + 1 : Nat) : Int) (hi : Int) else L f (lo : Int) (m : Int))
    (h0 : ∀ (f lo : Nat),lo ≤ l.length → L (f + 1) (lo : Int) (lo : Int) = some ((lo : Int),decide ((l[lo]?).map key = some x))) (hp : l.Pairwise (fun a b=>key a < key b)) :
    ∃ a b : List α, l = a ++ b ∧ a = l.filter (fun y => decide (key y < x)) ∧ b = l.filter (fun y => decide (x ≤ key y)) ∧
      ((∃ y c,b = y :: c ∧ key y = x ∧ L fuel 0 (l.length : Int) = some ((a.length : Int),true)) ∨ ((∀ y ∈ l,key y ≠ x) ∧ L fuel 0 (l.length : Int) = some ((a.length : Int),false))):=by
  obtain ⟨p,e1,e2,e3⟩:=bsf_gen hl h1 h0 fuel 0 l.length (gS (by omega)) (Nat.zero_le _) (Nat.le_refl _)
  obtain ⟨e4,e5⟩:=e3 hp (by simp) (by simp)
  obtain ⟨e6,e7⟩:=yM (List.take_append_drop p l).symm e4 e5
  have hpl : (l.take p).length = p:=by rw [List.length_take]; omega
  have e2 : L fuel 0 (l.length : Int) = _:=e2
  refine ⟨l.take p,l.drop p,(List.take_append_drop p l).symm,e6,e7,?_⟩
  rw [hpl,e2]
  by_cases hx : (l[p]?).map key = some x
  · left
    obtain ⟨y,hy,hk⟩:=Option.map_eq_some_iff.1 hx
    have hlt : p < l.length:=(List.getElem?_eq_some_iff.1 hy).1
    have hye : l[p] = y:=(List.getElem?_eq_some_iff.1 hy).2
    exact ⟨y,l.drop (p + 1),by rw [← hye]; exact List.drop_eq_getElem_cons hlt,hk,by rw [decide_eq_true hx]⟩
  · right
    refine ⟨fun y hy hk=>?_,by rw [decide_eq_false hx]⟩
    rw [← List.take_append_drop p l] at hy
    rcases List.mem_append.1 hy with hy | hy
    · have:=e4 y hy; omega
    · obtain ⟨j, hj, hjx⟩ := List.mem_iff_getElem.1 hy
      rw [List.length_drop] at hj
      rw [List.getElem_drop] at hjx
      rcases Nat.eq_zero_or_pos j with rfl | hj0
      · apply hx; rw [List.getElem?_eq_getElem (by omega)]; simp only [Nat.add_zero] at hjx; rw [Option.map_some,hjx,hk]
      · have h8 := List.pairwise_iff_getElem.1 hp p (p + j) (by omega) (by omega) (by omega)
        have h9:=e5 l[p] (List.mem_iff_getElem.2 ⟨0,by rw [List.length_drop]; omega,by rw [List.getElem_drop]; simp⟩)
        rw [hjx,hk] at h8; omega
theorem tK {α : Type} {P : α → Option Bool} {q : α → Bool} (hP : ∀ x,P x = some (q x)) {I : Nat → Int → Option Int} {L : Nat → List α → Int → Int → Option (List α)} {l : List α}
    (hI : ∀ f v,I (f + 1) v = bnd (decide (v < (l.length : Int))) fun x14=>bif x14 then (bno (gix l v) fun x16=>bno (P x16) fun x17=>bif x17 then some v else (bnd (IntKind.wrap .i64 (v + 1)) fun x19=>I f x19)) else some (-1))
    (hL : ∀ f a b c,L (f + 1) a b c = bnd (decide (c < (a.length : Int))) fun x32=>bif x32 then (bno (gix a c) fun x34=>bno (a[(c : Int).toNat]?) fun x35=>bno (P x35) fun x36=>bif (!x36) then (bno (gix a b) fun x38=>bno (a[(b : Int).toNat]?) fun x39 =>
      bnd (a.set ((b : Int).toNat) x35) fun x40=>bnd (IntKind.wrap .i64 (b + 1)) fun x41=>bnd (IntKind.wrap .i64 (c + 1)) fun x42=>L f x40 x41 x42) else (bnd (IntKind.wrap .i64 (c + 1)) fun x43=>L f a b x43)) else (bno (cut a 0 b) fun x44=>bno (cut x44 0 b) fun x45=>some x45))
    (hl : l.length ≤ 100000) : (bno (I fuel 0) fun x1=>bnd (decide (x1 = (-1))) fun x2=>bif x2 then some l else bnd (IntKind.wrap .i64 (x1 + 1)) fun x4=>L fuel l x1 x4) = some (l.filter fun y=>!q y):=by
  refine aAM hl (fun p x r f h=>by
    rw [hI]; simp only [bndD,lZ h,cP,fN h,bnoS,hP,w_at h (show l.length ≤ 1000000 by omega)]) (fun f=>by rw [hI]; simp only [bndD,jY,bM]) (fun f a i j x ha hij hj hx=>?_) (fun f a i hi=>?_)
  · rw [hL]
    have hi : i < a.length:=by omega
    simp only [bndD,decide_eq_true (show (j : Int) < (a.length : Int) by omega),cP,rL,hx,bnoS,Int.toNat_natCast,hP,List.getElem?_eq_getElem hi,w64 (show -9223372036854775808 ≤ (j : Int) + 1 by omega) (by omega),w64 (show -9223372036854775808 ≤ (i : Int) + 1 by omega) (by omega)]
    rfl
  · rw [hL]
    have e : (a.take i).length = i:=by rw [List.length_take]; omega
    simp only [bndD,jY,bM]
    have h1:=zS (l:=a) (List.take_append_drop i a).symm
    have h2:=zS (l:=a.take i) (p:=a.take i) (r:=[]) (by simp)
    rw [e] at h1 h2
    rw [h1,bnoS,h2,bnoS]
theorem tL {α : Type} {dflt : α} {C : α → Option Int} {c : α → Int} {key : α → Int} {x : Int} {L : Nat → Int → Int → Option (Int × Bool)} {l : List α} (hC : ∀ y ∈ l,C y = some (c y)) (hc : ∀ y ∈ l,(c y < 0 ↔ key y < x) ∧ (c y = 0 ↔ key y = x))
    (hL : ∀ f a b,L (f + 1) a b = bnd (decide (a < b)) fun x25=>bif x25 then (bnd (IntKind.wrap .i64 (a + b)) fun x27=>bnd (IntKind.wrap .u64 x27) fun x28=>bno (shrI .u64 x28 1) fun x29=>bnd (IntKind.wrap .i64 x29) fun x30=>bno (gix l x30) fun x31=>bno (C x31) fun x32 =>
      bnd (decide (x32 < 0)) fun x33=>bif x33 then (bnd (IntKind.wrap .i64 (x30 + 1)) fun x35=>L f x35 b) else (L f a x30)) else (bnd (decide (a < (l.length : Int))) fun x36=>bno (gd (x36 == true) (gix l a) (dflt : α)) fun x37=>bno (gd (x36 == true) (C x37) (default : Int)) fun x38 =>
      bnd (decide (x38 = 0)) fun x39=>bnd (x36 && x39) fun x40=>some (a,x40)))
    (hl : l.length ≤ 1000000) (hp : l.Pairwise (fun a b=>key a < key b)) :
    ∃ a b : List α, l = a ++ b ∧ a = l.filter (fun y => decide (key y < x)) ∧ b = l.filter (fun y => decide (x ≤ key y)) ∧
      ((∃ y c,b = y :: c ∧ key y = x ∧ L fuel 0 (l.length : Int) = some ((a.length : Int),true)) ∨ ((∀ y ∈ l,key y ≠ x) ∧ L fuel 0 (l.length : Int) = some ((a.length : Int),false))):=by
  refine bsf_all hl (fun f lo hi m y h1 h2 h3 h4=>?_) (fun f lo h1=>?_) hp
  · rw [hL]
    have hy : y ∈ l:=List.mem_of_getElem? h4
    have e1 : shrI .u64 ((lo : Int) + (hi : Int)) 1 = some ((m : Nat) : Int):=by
      rw [aAV (k:=.u64) (b:=1) 1 rfl (by decide),h3]; congr 1
    simp only [bndD,decide_eq_true (show (lo : Int) < (hi : Int) by omega),cP,w64 (show -9223372036854775808 ≤ (lo : Int) + (hi : Int) by omega) (by omega),wU64 (show 0 ≤ (lo : Int) + (hi : Int) by omega) (by omega),e1,bnoS,
      w64 (show -9223372036854775808 ≤ ((m : Nat) : Int) by omega) (by omega),rL,h4,hC y hy,w64 (show -9223372036854775808 ≤ (m : Int) + 1 by omega) (by omega)]
    by_cases hx : key y < x
    · rw [decide_eq_true hx,decide_eq_true ((hc y hy).1.2 hx)]; rfl
    · rw [decide_eq_false hx,decide_eq_false (fun h=>hx ((hc y hy).1.1 h))]; rfl
  · rw [hL]
    simp only [bndD,decide_eq_false (show ¬ (lo : Int) < (lo : Int) by omega),bM]
    by_cases hl' : lo < l.length
    · have hy : l[lo] ∈ l := List.getElem_mem hl'
      simp only [decide_eq_true (show (lo : Int) < (l.length : Int) by omega),beq_self_eq_true,gdtt,rL,List.getElem?_eq_getElem hl',bnoS,hC _ hy,Bool.true_and,Option.map_some,Option.some.injEq]
      by_cases hx : key l[lo] = x
      · rw [decide_eq_true hx,decide_eq_true ((hc _ hy).2.2 hx)]
      · rw [decide_eq_false hx,decide_eq_false (fun h=>hx ((hc _ hy).2.1 h))]
    · rw [List.getElem?_eq_none (by omega)]
      simp only [decide_eq_false (show ¬ (lo : Int) < (l.length : Int) by omega),ft,gdff,bnoS,Bool.false_and,Option.map_none]
      rfl
end Go.Fn
open Go Go.IL
namespace Go.Fn
abbrev Nd:=aF
abbrev Fs:=aK
abbrev Fo:=dI
theorem wR : kH = some true:=by kernel_rfl
def I64 (n : Int) : Prop:=-9223372036854775808 ≤ n ∧ n ≤ 9223372036854775807
theorem wrap_ne {a id : Int} (ha : 1 ≤ a ∧ a ≤ 1048576) (h : I64 id) (hn : a ≠ id) : IntKind.wrap .i64 (a - id) ≠ 0:=by
  obtain ⟨h1,h2⟩:=h
  rw [IntKind.wrap_i64]
  omega
theorem zV {N : List Nd} (hl : N.length ≤ 1000) (hr : ∀ n ∈ N, 1 ≤ n.ID ∧ n.ID ≤ 1048576) (id : Int) (hn : ∀ n ∈ N, n.ID ≠ id) (h64 : I64 id) : ∀ (f lo hi : Nat), hi - lo < f → lo ≤ hi → hi ≤ N.length →
    ∃ p : Nat,p ≤ N.length ∧ aZ N id f (lo : Int) (hi : Int) = some ((p : Int),false)
  | 0,lo,hi,h,_,_=>absurd h (by omega)
  | f + 1, lo, hi, h, h1, h2 => by
    rw [aZ,bndD]
    by_cases hlt : lo < hi
    · have hm : (lo + hi) / 2 < N.length := by omega
      have e1 : shrI .u64 ((lo : Int) + (hi : Int)) 1 = some (((lo + hi) / 2 : Nat) : Int):=by
        rw [aAV (k:=.u64) (b:=1) 1 rfl (by decide)]; congr 1
      have hg : N[(lo + hi) / 2]? = some N[(lo + hi) / 2]:=List.getElem?_eq_getElem hm
      have hc : gW N[(lo + hi) / 2] id = some (IntKind.wrap .i64 (N[(lo + hi) / 2].ID - id)):=rfl
      simp only [bndD,decide_eq_true (show (lo : Int) < (hi : Int) by omega),cP,w64 (show -9223372036854775808 ≤ (lo : Int) + (hi : Int) by omega) (by omega),wU64 (show 0 ≤ (lo : Int) + (hi : Int) by omega) (by omega),e1,bnoS,
        w64 (show -9223372036854775808 ≤ (((lo + hi) / 2 : Nat) : Int) by omega) (by omega),rL,hg,hc]
      by_cases hx : IntKind.wrap .i64 (N[(lo + hi) / 2].ID - id) < 0
      · rw [decide_eq_true hx, cP, w64 (by omega) (by omega)]
        have:=zV hl hr id hn h64 f ((lo + hi) / 2 + 1) hi (by omega) (by omega) h2
        exact this
      · rw [decide_eq_false hx, bM]
        exact zV hl hr id hn h64 f lo ((lo + hi) / 2) (by omega) (by omega) (by omega)
    · refine ⟨lo, by omega, ?_⟩
      simp only [bndD,decide_eq_false (show ¬ (lo : Int) < (hi : Int) by omega),bM]
      by_cases hl' : lo < N.length
      · have hg : N[lo]? = some N[lo] := List.getElem?_eq_getElem hl'
        have hc : gW N[lo] id = some (IntKind.wrap .i64 (N[lo].ID - id)):=rfl
        have hmem:=List.getElem_mem hl'
        have hz:=wrap_ne (hr _ hmem) h64 (hn _ hmem)
        simp only [decide_eq_true (show (lo : Int) < (N.length : Int) by omega),beq_self_eq_true,gdtt,rL,hg,bnoS,hc,decide_eq_false hz,Bool.and_false]
      · simp only [decide_eq_false (show ¬ (lo : Int) < (N.length : Int) by omega),ft,gdff,bnoS,Bool.false_and]
inductive Fd (N : List Nd) (id : Int) : Int × Bool → Prop
  | yes (A : List Nd) (y : Nd) (C : List Nd) (h : N = A ++ y :: C) (e : y.ID = id) (ha : ∀ a ∈ A,a.ID < id) (hc : ∀ c ∈ C,id < c.ID) : Fd N id ((A.length : Int),true)
  | no (p : Nat) (hp : p ≤ N.length) (h : ∀ n ∈ N,n.ID ≠ id) (h2 : 0 ≤ id → id ≤ 1048576 → (∀ a ∈ N.take p,a.ID < id) ∧ ∀ c ∈ N.drop p,id < c.ID) : Fd N id ((p : Int),false)
theorem find_st (st : Fs) (id : Int) {r : Int × Bool} (h : cA st.Nodes id = some r) : dC st id = some r:=by
  unfold dC
  rw [h,bnoS]
theorem bs_ok {N : List Nd} (hl : N.length ≤ 1000) (hr : ∀ n ∈ N, 1 ≤ n.ID ∧ n.ID ≤ 1048576) (hs : N.Pairwise (fun a b => a.ID < b.ID)) {id : Int} (h64 : I64 id) : ∃ r, cA N id = some r ∧ Fd N id r := by
  by_cases hin : 0 ≤ id ∧ id ≤ 1048576
  · obtain ⟨a, b, h1, h2, h3, h4⟩ := tL (dflt := (default : Nd)) (C := fun y => gW y id) (c := fun y => y.ID - id) (key := fun y => y.ID) (x := id) (L := aZ N id) (l := N)
      (fun y hy=>by
        have:=hr y hy
        unfold gW
        rw [bndD,w64 (by omega) (by omega)])
      (fun y hy=>⟨by omega,by omega⟩) (fun f a b=>rfl) (by omega) hs
    have hlt : ∀ y ∈ a,y.ID < id:=fun y hy=>by
      rw [h2] at hy; have:=(List.mem_filter.1 hy).2; simpa using this
    have hge : ∀ y ∈ b,id ≤ y.ID:=fun y hy=>by
      rw [h3] at hy; have:=(List.mem_filter.1 hy).2; simpa using this
    rcases h4 with ⟨y,c,e1,e2,e3⟩ | ⟨e1,e2⟩
    · subst e1
      have hpw:=hs
      rw [h1] at hpw
      have hpw:=(List.pairwise_cons.1 (List.pairwise_append.1 hpw).2.1).1
      exact ⟨_,e3,.yes a y c h1 e2 hlt (fun z hz=>by have:=hpw z hz; omega)⟩
    · refine ⟨_, e2, .no a.length (by rw [h1, List.length_append]; omega) e1 (fun _ _ => ?_)⟩
      rw [h1,List.take_left,List.drop_left]
      exact ⟨hlt,fun z hz=>by have:=hge z hz; have:=e1 z (by rw [h1]; simp [hz]); omega⟩
  · have hn : ∀ n ∈ N, n.ID ≠ id := fun n hn => by have := hr n hn; omega
    obtain ⟨p,h1,h2⟩:=zV hl hr id hn h64 fuel 0 N.length (gS (by omega)) (Nat.zero_le _) (Nat.le_refl _)
    exact ⟨_,h2,.no p h1 hn (fun h3 h4=>absurd ⟨h3,h4⟩ hin)⟩
def pB (N : List Nd) (id : Int) : Option Int:=(N.find? fun n=>decide (n.ID = id)).map (·.Parent)
theorem wF {N A C : List Nd} {y : Nd} {id : Int} (h : N = A ++ y :: C) (e : y.ID = id) (ha : ∀ a ∈ A,a.ID < id) : pB N id = some y.Parent:=by
  unfold pB
  rw [h,List.find?_append]
  have h1 : A.find? (fun n=>decide (n.ID = id)) = none:=List.find?_eq_none.2 (fun a hm=>by have:=ha a hm; simp; omega)
  rw [h1]
  simp [e]
theorem tN {N : List Nd} {id : Int} (h : ∀ n ∈ N,n.ID ≠ id) : pB N id = none:=by
  unfold pB
  have h1 : N.find? (fun n=>decide (n.ID = id)) = none:=List.find?_eq_none.2 (fun a hm=>by have:=h a hm; simpa using this)
  rw [h1]; rfl
def fT (N : List Nd) : Nat → Int → List Int
  | 0,_=>[]
  | k + 1, id => match pB N id with
    | some p=>if p = 0 then [] else p :: fT N k p
    | none=>[]
structure Ok34 (N : List Nd) : Prop where
  ln : N.length ≤ 1000
  ra : ∀ n ∈ N,1 ≤ n.ID ∧ n.ID ≤ 1048576
  so : N.Pairwise (fun a b=>a.ID < b.ID)
  pa : ∀ n ∈ N,I64 n.Parent
theorem xJ {st : Fs} (h : Ok34 st.Nodes) {id : Int} (h64 : I64 id) : ∃ r,dC st id = some r ∧ Fd st.Nodes id r:=by
  obtain ⟨r,h1,h2⟩:=bs_ok h.ln h.ra h.so h64
  exact ⟨r,find_st st id h1,h2⟩
theorem aAa {st : Fs} (h : Ok34 st.Nodes) : ∀ (k f i : Nat) (id : Int) (acc : List Int), I64 id → i + k = st.Nodes.length → k < f → acc.length = i → fW st f id acc (i : Int) = some (acc ++ fT st.Nodes k id)
  | k,0,_,_,_,_,_,hf,_=>absurd hf (by omega)
  | 0, f + 1, i, id, acc, h64, hi, hf, ha => by
    rw [fW,bndD,decide_eq_false (by omega),bM]
    unfold fT; rw [List.append_nil]
  | k + 1, f + 1, i, id, acc, h64, hi, hf, ha => by
    have hln:=h.ln
    obtain ⟨r,h1,h2⟩:=xJ h h64
    rw [fW,bndD,decide_eq_true (by omega),cP,h1,bnoS]
    unfold fT
    cases h2 with
    | yes A y C hN he hA hC =>
      have hg : gix st.Nodes (A.length : Int) = some y:=fN hN
      have hy : y ∈ st.Nodes:=by rw [hN]; simp
      rw [wF hN he hA]
      simp only [Bool.not_true,beq_self_eq_true,gdtt,hg,bnoS,bndD,Bool.false_or]
      by_cases hp : y.Parent = 0
      · rw [decide_eq_true hp, cP]
        simp only [hp,if_true,List.append_nil]
      · rw [decide_eq_false hp, bM]
        simp only [if_neg hp]
        rw [mJ (by simp; omega) (by simp; omega),bnoS,w64 (by omega) (by omega)]
        have:=aAa h k f (i + 1) y.Parent (acc ++ [y.Parent]) (h.pa y hy) (by omega) (by omega) (by rw [List.length_append,List.length_singleton]; omega)
        rw [show ((i : Int) + 1) = ((i + 1 : Nat) : Int) by omega,this,List.append_assoc]
        rfl
    | no p hp hn _ =>
      rw [tN hn]
      simp only [Bool.not_false,tf,gdff,bnoS,bndD,Bool.true_or,cP,List.append_nil]
theorem path34 {st : Fs} (h : Ok34 st.Nodes) {id : Int} (h64 : I64 id) : iN st id = some (fT st.Nodes st.Nodes.length id):=by
  have hln:=h.ln
  have:=aAa h st.Nodes.length fuel 0 id [] h64 (by omega) (gS (by omega)) rfl
  rw [List.nil_append] at this
  exact this
end Go.Fn
open Go Go.IL
namespace Go.Fn
theorem cmem {α : Type} {P : α → Option Bool} {q : α → Bool} {I : Nat → Int → Option Int} {l : List α} (hP : ∀ x ∈ l,P x = some (q x))
    (hI : ∀ f v,I (f + 1) v = bnd (decide (v < (l.length : Int))) fun x14=>bif x14 then (bno (gix l v) fun x16=>bno (P x16) fun x17=>bif x17 then some v else (bnd (IntKind.wrap .i64 (v + 1)) fun x19=>I f x19)) else some (-1))
    (hl : l.length ≤ 1000000) : (bno (I fuel 0) fun x1=>bnd (decide (0 ≤ x1)) fun x2=>some x2) = some (l.any q):=by
  obtain ⟨k,h1,h2⟩:=aAJ (L:=I) (q:=q) hl (fun p x r f h=>by
    rw [hI]; simp only [bndD,lZ h,cP,fN h,bnoS,hP x (by rw [h]; simp),w_at h hl]) (fun f=>by rw [hI]; simp only [bndD,jY,bM])
  rw [h1,bnoS,bndD,h2]
theorem cint {l : List Int} {x : Int} (hl : l.length ≤ 1000000) : eR l x = some (decide (x ∈ l)):=by
  unfold eR kC
  have:=cmem (P:=fun y=>some (decide (x = y))) (q:=fun y=>decide (x = y)) (I:=gE l x) (l:=l) (fun _ _=>rfl) (fun f v=>rfl) hl
  rw [this]
  congr 1
  rw [Bool.eq_iff_iff,List.any_eq_true]
  simp
theorem qJ : ∀ {l m : List Int},l.Nodup → (∀ x ∈ l,x ∈ m) → l.length ≤ m.length
  | [],m,_,_=>Nat.zero_le _
  | x :: l, m, hn, hs => by
    obtain ⟨h1,h2⟩:=List.nodup_cons.1 hn
    have hx:=hs x (by simp)
    have:=qJ (l:=l) (m:=m.erase x) h2 (fun y hy=>by
      have hne : y ≠ x:=fun e=>h1 (e ▸ hy)
      exact (List.mem_erase_of_ne hne).2 (hs y (by simp [hy])))
    rw [List.length_erase_of_mem hx] at this
    have hp : 0 < m.length:=List.length_pos_of_mem hx
    simp only [List.length_cons]; omega
theorem qR {N : List Nd} (h : N.Pairwise (fun a b=>a.ID < b.ID)) : (N.map (·.ID)).Nodup:=by
  unfold List.Nodup
  rw [List.pairwise_map]
  exact h.imp (fun h=>by omega)
structure FV (K : Int) (st : Fs) : Prop where
  rm : st.Room = 24
  kp : st.Keep = K ∧ 0 ≤ K ∧ K ≤ 24
  ln : st.Nodes.length ≤ 24
  el : (st.Ended.length : Int) ≤ K
  so : st.Nodes.Pairwise (fun a b=>a.ID < b.ID)
  ra : ∀ n ∈ st.Nodes,(1 ≤ n.ID ∧ n.ID ≤ 1048576) ∧ 1 ≤ n.Weight ∧ n.Weight ≤ 256
  pa : ∀ n ∈ st.Nodes,n.Parent = 0 ∨ ∃ m ∈ st.Nodes,m.ID = n.Parent
  rk : ∃ r : Int → Nat,∀ n ∈ st.Nodes,n.Parent ≠ 0 → r n.Parent < r n.ID
  en : ∀ n ∈ st.Nodes,(n.Closed = true ↔ n.ID ∈ st.Ended)
  nd : st.Ended.Nodup
  es : ∀ e ∈ st.Ended,∃ n ∈ st.Nodes,n.ID = e
theorem FV.ok {K : Int} {st : Fs} (h : FV K st) : Ok34 st.Nodes :=
  ⟨by have:=h.ln; omega,fun n hn=>(h.ra n hn).1,h.so,fun n hn=>by
    rcases h.pa n hn with e | ⟨m,hm,e⟩
    · rw [e]; exact ⟨by decide,by decide⟩
    · have:=(h.ra m hm).1; exact ⟨by omega,by omega⟩⟩
theorem uT {N : List Nd} (h : N.Pairwise (fun a b=>a.ID < b.ID)) {a b : Nd} (ha : a ∈ N) (hb : b ∈ N) (e : a.ID = b.ID) : a = b:=by
  obtain ⟨A,C,rfl⟩:=List.append_of_mem ha
  have hp:=List.pairwise_append.1 h
  have hp2:=List.pairwise_cons.1 hp.2.1
  rcases List.mem_append.1 hb with hb | hb
  · have:=hp.2.2 b hb a (by simp); omega
  · rcases List.mem_cons.1 hb with hb | hb
    · exact hb.symm
    · have:=hp2.1 b hb; omega
theorem uC {N : List Nd} {id p : Int} (h : pB N id = some p) : ∃ n ∈ N,n.ID = id ∧ n.Parent = p:=by
  unfold pB at h
  cases hf : N.find? (fun n=>decide (n.ID = id)) with
  | none=>rw [hf] at h; cases h
  | some n =>
    rw [hf] at h
    have h1:=List.find?_some hf
    exact ⟨n,List.mem_of_find?_eq_some hf,by simpa using h1,by simpa using h⟩
theorem wZ {N : List Nd} (h : N.Pairwise (fun a b=>a.ID < b.ID)) {n : Nd} (hn : n ∈ N) : pB N n.ID = some n.Parent:=by
  obtain ⟨A,C,rfl⟩:=List.append_of_mem hn
  have hp:=List.pairwise_append.1 h
  exact wF rfl rfl (fun a ha=>hp.2.2 a ha n (by simp))
theorem vA {N : List Nd} {r : Int → Nat} (h : ∀ n ∈ N, n.Parent ≠ 0 → r n.Parent < r n.ID) : ∀ (k : Nat) (id x : Int), x ∈ fT N k id → r x < r id
  | 0,_,_,hx=>(List.not_mem_nil hx).elim
  | k + 1, id, x, hx => by
    unfold fT at hx
    cases hp : pB N id with
    | none=>rw [hp] at hx; exact (List.not_mem_nil hx).elim
    | some p =>
      rw [hp] at hx
      obtain ⟨n,hn,e1,e2⟩:=uC hp
      by_cases hz : p = 0
      · simp only [hz,if_true] at hx; exact (List.not_mem_nil hx).elim
      · simp only [if_neg hz] at hx
        have h1:=h n hn (by rw [e2]; exact hz)
        rw [e1,e2] at h1
        rcases List.mem_cons.1 hx with rfl | hx
        · exact h1
        · have:=vA h k p x hx; omega
theorem qE (N : List Nd) : ∀ (k : Nat) (id : Int),(fT N k id).length ≤ k
  | 0,_=>Nat.le_refl _
  | k + 1, id => by
    unfold fT
    cases pB N id with
    | none=>exact Nat.zero_le _
    | some p =>
      have:=qE N k p
      simp only
      split
      · exact Nat.zero_le _
      · rw [List.length_cons]; omega
theorem yG {K : Int} {st : Fs} (h : FV K st) : (st.Nodes.filter (·.Closed)).length = st.Ended.length:=by
  have h1 : ((st.Nodes.filter (·.Closed)).map (·.ID)).Nodup:=qR (List.Pairwise.sublist List.filter_sublist h.so)
  have h2:=qJ h1 (m:=st.Ended) (fun x hx=>by
    obtain ⟨n,hn,rfl⟩:=List.mem_map.1 hx
    obtain ⟨hn,hc⟩:=List.mem_filter.1 hn
    exact (h.en n hn).1 hc)
  have h3:=qJ h.nd (m:=(st.Nodes.filter (·.Closed)).map (·.ID)) (fun x hx=>by
    obtain ⟨n,hn,e⟩:=h.es x hx
    exact List.mem_map.2 ⟨n,List.mem_filter.2 ⟨hn,(h.en n hn).2 (by rw [e]; exact hx)⟩,e⟩)
  rw [List.length_map] at h2 h3
  omega
end Go.Fn
open Go Go.IL
namespace Go.Fn
theorem oP {α : Type} {l p r : List α} {x : α} (h : l = p ++ x :: r) : l[((p.length : Nat) : Int).toNat]? = some x:=by
  rw [Int.toNat_natCast,h,List.getElem?_append_right (Nat.le_refl _)]; simp
theorem rC {α : Type} {p r : List α} {x y : α} : (p ++ x :: r).set ((p.length : Nat) : Int).toNat y = p ++ y :: r:=by
  rw [Int.toNat_natCast,List.set_append_right _ _ (Nat.le_refl _)]; simp
def sumS : List Nd → Int → Int
  | [],_=>0
  | n :: r,id=>(if n.Parent = id then n.Weight else 0) + sumS r id
theorem tW : ∀ (a b : List Nd) (id : Int),sumS (a ++ b) id = sumS a id + sumS b id
  | [],b,id=>by show sumS b id = 0 + sumS b id; omega
  | n :: a, b, id => by
    have:=tW a b id
    show _ + sumS (a ++ b) id = _ + sumS a id + sumS b id
    omega
theorem yJ : ∀ {N : List Nd},(∀ n ∈ N,1 ≤ n.Weight ∧ n.Weight ≤ 256) → ∀ id,0 ≤ sumS N id ∧ sumS N id ≤ 256 * N.length
  | [],_,_=>⟨Int.le_refl _,Int.le_refl _⟩
  | n :: r, h, id => by
    have h1:=yJ (N:=r) (fun x hx=>h x (by simp [hx])) id
    have h2:=h n (by simp)
    have e : sumS (n :: r) id = (if n.Parent = id then n.Weight else 0) + sumS r id:=rfl
    rw [e,List.length_cons]
    split <;> omega
theorem wV : ∀ {N : List Nd} {n : Nd},(∀ x ∈ N,1 ≤ x.Weight ∧ x.Weight ≤ 256) → n ∈ N → n.Weight ≤ sumS N n.Parent
  | m :: r, n, h, hn => by
    have h1:=yJ (N:=r) (fun x hx=>h x (by simp [hx])) n.Parent
    have e : sumS (m :: r) n.Parent = (if m.Parent = n.Parent then m.Weight else 0) + sumS r n.Parent:=rfl
    rw [e]
    rcases List.mem_cons.1 hn with rfl | hn
    · rw [if_pos rfl]; omega
    · have h2 := wV (N := r) (fun x hx => h x (by simp [hx])) hn
      have h3:=h m (by simp)
      split <;> omega
theorem sum_L {st : Fs} (hl : st.Nodes.length ≤ 1000) (hw : ∀ n ∈ st.Nodes,1 ≤ n.Weight ∧ n.Weight ≤ 256) (id : Int) : ∀ (r p : List Nd) (f : Nat),st.Nodes = p ++ r → r.length < f → gH st id f (sumS p id) (p.length : Int) = some (sumS st.Nodes id)
  | [], p, f + 1, hN, _ => by
    rw [List.append_nil] at hN
    rw [gH]
    simp only [bndD,hN,jY,bM]
  | n :: r, p, f + 1, hN, hf => by
    have hp:=yJ (N:=p) (fun x hx=>hw x (by rw [hN]; simp [hx])) id
    have hpl : p.length ≤ 1000:=by rw [hN] at hl; simp at hl; omega
    have hn:=hw n (by rw [hN]; simp)
    have hrec:=sum_L hl hw id r (p ++ [n]) f (jK hN) (by simpa using hf)
    have e1 : sumS [n] id = (if n.Parent = id then n.Weight else 0) + 0:=rfl
    rw [tW,e1] at hrec
    rw [gH]
    simp only [bndD,lZ hN,cP,fN hN,bnoS,w_at hN (show st.Nodes.length ≤ 1000000 by omega)]
    by_cases hq : n.Parent = id
    · rw [if_pos hq, Int.add_zero] at hrec
      rw [decide_eq_true hq,cP,w64 (by omega) (by omega)]
      exact hrec
    · rw [if_neg hq, Int.add_zero, Int.add_zero] at hrec
      rw [decide_eq_false hq,bM]
      exact hrec
theorem sum34 {st : Fs} (hl : st.Nodes.length ≤ 1000) (hw : ∀ n ∈ st.Nodes,1 ≤ n.Weight ∧ n.Weight ≤ 256) (id : Int) : lS st id = some (sumS st.Nodes id) :=
  sum_L hl hw id st.Nodes [] fuel rfl (gS (by omega))
def offN (y : Nd) (S : Int) (n : Nd) : Nd:=if n.Parent = y.ID then ⟨n.ID,y.Parent,max (y.Weight * n.Weight / S) 1,n.Closed⟩ else n
theorem pX (y : Nd) (S : Int) (n : Nd) : (offN y S n).ID = n.ID:=by unfold offN; split <;> rfl
theorem wI (y : Nd) (S : Int) (n : Nd) : (offN y S n).Closed = n.Closed:=by unfold offN; split <;> rfl
theorem off_L {a0 a1 : Int} {E : List Int} {y : Nd} {M : List Nd} {E' : List Int} (hl : M.length ≤ 1000) (hw : ∀ n ∈ M, 1 ≤ n.Weight ∧ n.Weight ≤ 256) (hy : 1 ≤ y.Weight ∧ y.Weight ≤ 256) (hE : eQ E y.ID = some E') : ∀ (r p : List Nd) (f : Nat), M = p ++ r → r.length < f →
    fQ a0 a1 y.ID E y M (sumS M y.ID) f (p.length : Int) (p.map (offN y (sumS M y.ID)) ++ r) = some (a0,a1,M.map (offN y (sumS M y.ID)),E')
  | [], p, f + 1, hM, _ => by
    rw [List.append_nil] at hM
    rw [fQ]
    simp only [bndD,hM,jY,bM,hE,bnoS,List.append_nil]
  | n :: r, p, f + 1, hM, hf => by
    have hn : n ∈ M:=by rw [hM]; simp
    have hwn:=hw n hn
    have hrec:=off_L (a0:=a0) (a1:=a1) hl hw hy hE r (p ++ [n]) f (jK hM) (by simpa using hf)
    have hlen : (p.map (offN y (sumS M y.ID))).length = p.length:=List.length_map ..
    generalize hq : p.map (offN y (sumS M y.ID)) = P at *
    have hg : gix (P ++ n :: r) (p.length : Int) = some n:=by rw [← hlen]; exact fN rfl
    have hg2 : ∀ z : Nd,(P ++ z :: r)[((p.length : Nat) : Int).toNat]? = some z:=fun z=>by rw [← hlen]; exact oP rfl
    have hset : ∀ z w : Nd,(P ++ z :: r).set ((p.length : Nat) : Int).toNat w = P ++ w :: r:=fun z w=>by rw [← hlen]; exact rC
    rw [fQ]
    simp only [bndD,lZ hM,cP,hg,hg2,bnoS,w_at hM (show M.length ≤ 1000000 by omega)]
    rw [List.map_append,hq,List.append_assoc] at hrec
    have eo : [n].map (offN y (sumS M y.ID)) ++ r = offN y (sumS M y.ID) n :: r:=rfl
    rw [eo] at hrec
    by_cases hp : n.Parent = y.ID
    · have hge := wV hw hn
      rw [hp] at hge
      have h1 : 1 ≤ y.Weight * n.Weight:=by
        have:=Int.mul_le_mul hy.1 hwn.1 (by decide) (by omega)
        simpa using this
      have h2 : y.Weight * n.Weight ≤ 65536:=by
        have:=Int.mul_le_mul hy.2 hwn.2 (by omega) (by decide)
        simpa using this
      have hd0 : 0 ≤ y.Weight * n.Weight / sumS M y.ID:=Int.ediv_nonneg (by omega) (by omega)
      have hd1 : y.Weight * n.Weight / sumS M y.ID ≤ y.Weight * n.Weight:=Int.ediv_le_self _ (by omega)
      have hquo : quoI .i64 (y.Weight * n.Weight) (sumS M y.ID) = some (y.Weight * n.Weight / sumS M y.ID):=by
        unfold quoI
        rw [if_neg (by omega),Int.tdiv_eq_ediv_of_nonneg (by omega),w64 (by omega) (by omega)]
      have eo2 : offN y (sumS M y.ID) n = ⟨n.ID,y.Parent,max (y.Weight * n.Weight / sumS M y.ID) 1,n.Closed⟩:=by unfold offN; rw [if_pos hp]
      rw [eo2] at hrec
      simp only [decide_eq_true hp,cP,w64 (show -9223372036854775808 ≤ y.Weight * n.Weight by omega) (by omega),hquo,bnoS,hset,hg2]
      exact hrec
    · have eo2 : offN y (sumS M y.ID) n = n := by unfold offN; rw [if_neg hp]
      rw [eo2] at hrec
      simp only [decide_eq_false hp,bM]
      exact hrec
theorem del34 {E : List Int} {id : Int} (hl : E.length ≤ 100000) : eQ E id = some (E.filter fun y=>!decide (y = id)) :=
  tK (P:=fun x=>kS x id) (q:=fun y=>decide (y = id)) (I:=dR E id) (L:=cR id) (fun _=>rfl) (fun _ _=>rfl) (fun _ _ _ _=>rfl) hl
def offS (A : List Nd) (y : Nd) (C : List Nd) : List Nd:=(A ++ C).map (offN y (sumS (A ++ C) y.ID))
theorem fv_off {K : Int} {st : Fs} (h : FV K st) {A C : List Nd} {y : Nd} (hN : st.Nodes = A ++ y :: C) : FV K ⟨st.Room, st.Keep, offS A y C, st.Ended.filter fun e => !decide (e = y.ID)⟩ := by
  obtain ⟨r,hr⟩:=h.rk
  have hso:=h.so
  rw [hN] at hso
  have hp:=List.pairwise_append.1 hso
  have hp2:=List.pairwise_cons.1 hp.2.1
  have hmem : ∀ n,n ∈ A ++ C → n ∈ st.Nodes ∧ n.ID ≠ y.ID:=fun n hn=>by
    rcases List.mem_append.1 hn with hn | hn
    · exact ⟨by rw [hN]; simp [hn],by have:=hp.2.2 n hn y (by simp); omega⟩
    · exact ⟨by rw [hN]; simp [hn],by have:=hp2.1 n hn; omega⟩
  have hback : ∀ n ∈ st.Nodes,n.ID ≠ y.ID → n ∈ A ++ C:=fun n hn hne=>by
    rw [hN] at hn
    rcases List.mem_append.1 hn with hn | hn
    · exact List.mem_append.2 (.inl hn)
    · rcases List.mem_cons.1 hn with rfl | hn
      · exact absurd rfl hne
      · exact List.mem_append.2 (.inr hn)
  have hy : y ∈ st.Nodes:=by rw [hN]; simp
  have hw : ∀ n ∈ A ++ C,1 ≤ n.Weight ∧ n.Weight ≤ 256:=fun n hn=>(h.ra n (hmem n hn).1).2
  have hln:=h.ln
  have himg : ∀ m ∈ offS A y C,∃ n ∈ A ++ C,m = offN y (sumS (A ++ C) y.ID) n:=fun m hm=>by
    obtain ⟨n,hn,e⟩:=List.mem_map.1 hm
    exact ⟨n,hn,e.symm⟩
  have hin : ∀ n ∈ A ++ C,∃ m ∈ offS A y C,m.ID = n.ID:=fun n hn=>⟨_,List.mem_map.2 ⟨n,hn,rfl⟩,pX _ _ _⟩
  have hyp : y.Parent ≠ y.ID:=fun e=>by
    have hyr:=(h.ra y hy).1
    have:=hr y hy (by omega)
    rw [e] at this; omega
  refine ⟨h.rm,h.kp,?_,?_,?_,fun m hm=>?_,fun m hm=>?_,⟨r,fun m hm hz=>?_⟩,fun m hm=>?_,?_,fun e he=>?_⟩
  · show (offS A y C).length ≤ 24
    unfold offS; rw [List.length_map,List.length_append]
    rw [hN] at hln; simp at hln; omega
  · show ((st.Ended.filter _).length : Int) ≤ K
    have:=List.length_filter_le (fun e=>!decide (e = y.ID)) st.Ended
    have:=h.el; omega
  · show (offS A y C).Pairwise _
    unfold offS
    rw [List.pairwise_map]
    have : (A ++ C).Pairwise (fun a b=>a.ID < b.ID):=List.pairwise_append.2 ⟨hp.1,hp2.2,fun a ha b hb=>hp.2.2 a ha b (by simp [hb])⟩
    exact this.imp (fun hab=>by rw [pX,pX]; exact hab)
  · obtain ⟨n, hn, rfl⟩ := himg m hm
    have hnr:=h.ra n (hmem n hn).1
    unfold offN
    split
    · rename_i hpar
      refine ⟨hnr.1,?_⟩
      have hge:=wV hw hn
      rw [hpar] at hge
      have hyw:=(h.ra y hy).2
      have hd : y.Weight * n.Weight / sumS (A ++ C) y.ID ≤ y.Weight:=by
        apply Int.ediv_le_of_le_mul (by omega)
        exact Int.mul_le_mul_of_nonneg_left hge (by omega)
      show 1 ≤ max (y.Weight * n.Weight / sumS (A ++ C) y.ID) 1 ∧ max (y.Weight * n.Weight / sumS (A ++ C) y.ID) 1 ≤ 256
      omega
    · exact hnr
  · obtain ⟨n, hn, rfl⟩ := himg m hm
    obtain ⟨hn1,hn2⟩:=hmem n hn
    have key : ∀ p : Int,p ≠ y.ID → (p = 0 ∨ ∃ m ∈ st.Nodes,m.ID = p) → (p = 0 ∨ ∃ m ∈ offS A y C,m.ID = p):=fun p hpy hh=>by
      rcases hh with hh | ⟨q,hq,e⟩
      · exact .inl hh
      · obtain ⟨z, hz, ez⟩ := hin q (hback q hq (by rw [e]; exact hpy))
        exact .inr ⟨z,hz,ez.trans e⟩
    unfold offN
    split
    · exact key y.Parent hyp (h.pa y hy)
    · rename_i hpar
      exact key n.Parent hpar (h.pa n hn1)
  · obtain ⟨n, hn, rfl⟩ := himg m hm
    obtain ⟨hn1,hn2⟩:=hmem n hn
    rw [pX]
    unfold offN at hz ⊢
    split
    · rename_i hpar
      rw [if_pos hpar] at hz
      have hz : y.Parent ≠ 0:=hz
      have h1:=hr y hy hz
      have hyr:=(h.ra y hy).1
      have h2:=hr n hn1 (by rw [hpar]; omega)
      rw [hpar] at h2
      show r y.Parent < r n.ID
      omega
    · rename_i hpar
      rw [if_neg hpar] at hz
      exact hr n hn1 hz
  · obtain ⟨n, hn, rfl⟩ := himg m hm
    obtain ⟨hn1,hn2⟩:=hmem n hn
    rw [wI,pX]
    have:=h.en n hn1
    show _ ↔ n.ID ∈ st.Ended.filter _
    rw [List.mem_filter,this]
    simp [hn2]
  · exact h.nd.filter _
  · obtain ⟨he1, he2⟩ := List.mem_filter.1 he
    have he2 : e ≠ y.ID:=by simpa using he2
    obtain ⟨n,hn,en⟩:=h.es e he1
    obtain ⟨z,hz,ez⟩:=hin n (hback n hn (by rw [en]; exact he2))
    exact ⟨z,hz,ez.trans en⟩
end Go.Fn
open Go Go.IL
namespace Go.Fn
inductive Anc (N : List Nd) (x : Int) : Int → Prop
  | here : Anc N x x
  | up (n : Nd) (hn : n ∈ N) (hx : n.ID ≠ x) (hp : n.Parent ≠ 0) (h : Anc N x n.Parent) : Anc N x n.ID
inductive Blw (N : List Nd) (x d : Int) : Int → Prop
  | child (n : Nd) (hn : n ∈ N) (hx : n.ID ≠ x) (hp : n.Parent = d) : Blw N x d n.ID
  | up (n : Nd) (hn : n ∈ N) (hx : n.ID ≠ x) (hp : n.Parent ≠ 0) (h : Blw N x d n.Parent) : Blw N x d n.ID
def Rk (N : List Nd) (x : Int) (r : Int → Nat) : Prop:=∀ n ∈ N,n.ID ≠ x → n.Parent ≠ 0 → r n.Parent < r n.ID
def mF (x d w : Int) (only : Bool) (n : Nd) : Nd:=if n.ID = x then ⟨n.ID,d,w,n.Closed⟩ else if only = true ∧ n.Parent = d then ⟨n.ID,x,n.Weight,n.Closed⟩ else n
theorem sS {N : List Nd} : ∀ (k : Nat) (z x : Int), x ∈ fT N k z → x ∈ fT N (k + 1) z
  | 0,_,_,hx=>(List.not_mem_nil hx).elim
  | k + 1, z, x, hx => by
    unfold fT at hx ⊢
    cases hp : pB N z with
    | none=>rw [hp] at hx; exact (List.not_mem_nil hx).elim
    | some p =>
      rw [hp] at hx
      by_cases hq : p = 0
      · simp only [hq,if_true] at hx; exact (List.not_mem_nil hx).elim
      · simp only [if_neg hq] at hx ⊢
        rcases List.mem_cons.1 hx with e | hx
        · rw [e]; exact List.mem_cons_self
        · exact List.mem_cons_of_mem _ (sS k p x hx)
theorem sR {N : List Nd} : ∀ (k : Nat) (z : Int), (fT N k z).length < k → fT N (k + 1) z = fT N k z
  | 0,_,h=>absurd h (by omega)
  | k + 1, z, h => by
    rw [fT] at h
    rw [fT,fT]
    cases hp : pB N z with
    | none=>rfl
    | some p =>
      rw [hp] at h
      by_cases hq : p = 0
      · simp only [hq,if_true]
      · simp only [if_neg hq, List.length_cons] at h ⊢
        rw [sR k p (by omega)]
theorem rG {N : List Nd} (hs : N.Pairwise (fun a b => a.ID < b.ID)) {r : Int → Nat} (hr : ∀ n ∈ N, n.Parent ≠ 0 → r n.Parent < r n.ID) (hpa : ∀ n ∈ N, n.Parent = 0 ∨ ∃ m ∈ N, m.ID = n.Parent) : ∀ (k : Nat) (z : Int), (∃ n ∈ N, n.ID = z) → (z :: fT N k z).Nodup ∧ ∀ y ∈ z :: fT N k z, y ∈ N.map (·.ID)
  | 0, z, ⟨n, hn, e⟩ => ⟨by simp [fT], fun y hy => by
    rcases List.mem_cons.1 hy with rfl | hy
    · exact List.mem_map.2 ⟨n,hn,e⟩
    · exact (List.not_mem_nil hy).elim⟩
  | k + 1, z, ⟨n, hn, e⟩ => by
    subst e
    have hz : n.ID ∈ N.map (·.ID):=List.mem_map.2 ⟨n,hn,rfl⟩
    have hnot : ¬ n.ID ∈ fT N (k + 1) n.ID:=fun hm=>by have:=vA hr (k + 1) _ _ hm; omega
    refine ⟨List.nodup_cons.2 ⟨hnot,?_⟩,fun y hy=>?_⟩
    · rw [fT, wZ hs hn]
      by_cases hq : n.Parent = 0
      · simp only [if_pos hq]; exact List.nodup_nil
      · simp only [if_neg hq]
        rcases hpa n hn with e | ⟨m,hm,e⟩
        · exact absurd e hq
        · exact (rG hs hr hpa k n.Parent ⟨m,hm,e⟩).1
    · rcases List.mem_cons.1 hy with rfl | hy
      · exact hz
      · rw [fT, wZ hs hn] at hy
        by_cases hq : n.Parent = 0
        · simp only [if_pos hq] at hy; exact (List.not_mem_nil hy).elim
        · simp only [if_neg hq] at hy
          rcases hpa n hn with e | ⟨m,hm,e⟩
          · exact absurd e hq
          · exact (rG hs hr hpa k n.Parent ⟨m,hm,e⟩).2 y hy
theorem sT {N : List Nd} (hs : N.Pairwise (fun a b=>a.ID < b.ID)) {r : Int → Nat} (hr : ∀ n ∈ N,n.Parent ≠ 0 → r n.Parent < r n.ID) (hpa : ∀ n ∈ N,n.Parent = 0 ∨ ∃ m ∈ N,m.ID = n.Parent) {z : Int} (hz : ∃ n ∈ N,n.ID = z) : ∀ (j : Nat),fT N (N.length + j) z = fT N N.length z
  | 0=>rfl
  | j + 1 => by
    have h1:=sT hs hr hpa hz j
    obtain ⟨h2,h3⟩:=rG hs hr hpa N.length z hz
    have h4:=qJ h2 h3
    rw [List.length_cons,List.length_map] at h4
    have:=sR (N:=N) (N.length + j) z (by rw [h1]; omega)
    rw [show N.length + (j + 1) = N.length + j + 1 by omega,this,h1]
end Go.Fn
open Go Go.IL
namespace Go.Fn
theorem yZ {a0 a1 : Int} {N : List Nd} {E : List Int} (h : Ok34 N) : ∀ (k f i : Nat) (id : Int) (acc : List Int), I64 id → i + k = N.length → k < f → acc.length = i → eV a0 a1 N E f id acc (i : Int) = some (acc ++ fT N k id)
  | k,0,_,_,_,_,_,hf,_=>absurd hf (by omega)
  | 0, f + 1, i, id, acc, h64, hi, hf, ha => by
    rw [eV,bndD,decide_eq_false (by omega),bM]
    unfold fT; rw [List.append_nil]
  | k + 1, f + 1, i, id, acc, h64, hi, hf, ha => by
    have hln:=h.ln
    obtain ⟨r,h1,h2⟩:=xJ (st:=⟨a0,a1,N,E⟩) h h64
    have h2 : Fd N id r:=h2
    rw [eV,bndD,decide_eq_true (by omega),cP,h1,bnoS]
    unfold fT
    cases h2 with
    | yes A y C hN he hA hC =>
      have hg : gix N (A.length : Int) = some y:=fN hN
      have hg2 : N[((A.length : Nat) : Int).toNat]? = some y:=oP hN
      have hy : y ∈ N:=by rw [hN]; simp
      rw [wF hN he hA]
      simp only [Bool.not_true,beq_self_eq_true,gdtt,hg,hg2,bnoS,bndD,Bool.false_or]
      by_cases hp : y.Parent = 0
      · rw [decide_eq_true hp, cP]
        simp only [hp,if_true,List.append_nil]
      · rw [decide_eq_false hp, bM]
        simp only [if_neg hp]
        rw [mJ (by simp; omega) (by simp; omega),bnoS,w64 (by omega) (by omega)]
        have:=yZ (a0:=a0) (a1:=a1) (E:=E) h k f (i + 1) y.Parent (acc ++ [y.Parent]) (h.pa y hy) (by omega) (by omega) (by rw [List.length_append,List.length_singleton]; omega)
        rw [show ((i : Int) + 1) = ((i + 1 : Nat) : Int) by omega,this,List.append_assoc]
        rfl
    | no p hp hn _ =>
      rw [tN hn]
      simp only [Bool.not_false,tf,gdff,bnoS,bndD,Bool.true_or,cP,List.append_nil]
theorem path34b {a0 a1 : Int} {N : List Nd} {E : List Int} (h : Ok34 N) {id : Int} (h64 : I64 id) : kE a0 a1 id N E = some (fT N N.length id):=by
  have hln:=h.ln
  have:=yZ (a0:=a0) (a1:=a1) (E:=E) h N.length fuel 0 id [] h64 (by omega) (gS (by omega)) rfl
  rw [List.nil_append] at this
  exact this
def pF (x d : Int) (o : Bool) (n : Nd) : Nd:=if (o && decide (n.Parent = d) && !decide (n.ID = x)) = true then ⟨n.ID,x,n.Weight,n.Closed⟩ else n
theorem pK {A C : List Nd} {y : Nd} (hs : (A ++ y :: C).Pairwise (fun a b=>a.ID < b.ID)) : (∀ a ∈ A,a.ID ≠ y.ID) ∧ ∀ c ∈ C,c.ID ≠ y.ID:=by
  have hp:=List.pairwise_append.1 hs
  have hp2:=List.pairwise_cons.1 hp.2.1
  exact ⟨fun a ha=>by have:=hp.2.2 a ha y (by simp); omega,fun c hc=>by have:=hp2.1 c hc; omega⟩
theorem vE {x d w : Int} {o : Bool} {l : List Nd} (h : ∀ n ∈ l,n.ID ≠ x) : l.map (pF x d o) = l.map (mF x d w o):=by
  apply List.map_congr_left
  intro n hn
  have:=h n hn
  unfold pF mF
  rw [if_neg this,decide_eq_false this]
  cases o <;> simp
theorem aAi {a0 a1 : Int} {op : Fo} {E : List Int} {v6 v7 : Int} {v8 : Bool} {M A C : List Nd} {y : Nd} (hM : M = A ++ y :: C) (hs : M.Pairwise (fun a b => a.ID < b.ID)) (hl : M.length ≤ 1000) (hy : y.ID = op.ID) : ∀ (r p : List Nd) (f : Nat), M = p ++ r → r.length < f →
    fF a0 a1 op E v6 v7 v8 ((A.length : Int),true) M f (p.length : Int) (p.map (pF op.ID v6 v8) ++ r) = some (a0,a1,M.map (mF op.ID v6 v7 v8),E)
  | [], p, f + 1, hp, _ => by
    rw [List.append_nil] at hp
    subst hp
    have hs2:=hs
    rw [hM] at hs2
    obtain ⟨hA,hC⟩:=pK hs2
    rw [hy] at hA hC
    have e1 : M.map (pF op.ID v6 v8) ++ [] = A.map (mF op.ID v6 v7 v8) ++ y :: C.map (mF op.ID v6 v7 v8):=by
      rw [List.append_nil,hM,List.map_append,List.map_cons,vE (w:=v7) hA,vE (w:=v7) hC]
      congr 2
      unfold pF
      rw [hy]; simp
    have e2 : M.map (mF op.ID v6 v7 v8) = A.map (mF op.ID v6 v7 v8) ++ (⟨y.ID,v6,v7,y.Closed⟩ : Nd) :: C.map (mF op.ID v6 v7 v8):=by
      rw [hM,List.map_append,List.map_cons]
      congr 2
      unfold mF
      rw [if_pos hy]
    have hlen : (A.map (mF op.ID v6 v7 v8)).length = A.length:=List.length_map ..
    rw [fF]
    simp only [bndD,jY,bM]
    rw [e1,e2]
    generalize A.map (mF op.ID v6 v7 v8) = P at *
    generalize C.map (mF op.ID v6 v7 v8) = Q at *
    have hg : ∀ z : Nd,gix (P ++ z :: Q) (A.length : Int) = some z:=fun z=>by rw [← hlen]; exact fN rfl
    have hg2 : ∀ z : Nd,(P ++ z :: Q)[((A.length : Nat) : Int).toNat]? = some z:=fun z=>by rw [← hlen]; exact oP rfl
    have hset : ∀ z w : Nd,(P ++ z :: Q).set ((A.length : Nat) : Int).toNat w = P ++ w :: Q:=fun z w=>by rw [← hlen]; exact rC
    simp only [hg,hg2,hset,bnoS]
  | n :: r, p, f + 1, hp, hf => by
    have hrec:=aAi (a0:=a0) (a1:=a1) (op:=op) (E:=E) (v6:=v6) (v7:=v7) (v8:=v8) hM hs hl hy r (p ++ [n]) f (jK hp) (by simpa using hf)
    have hlen : (p.map (pF op.ID v6 v8)).length = p.length:=List.length_map ..
    rw [List.map_append,List.append_assoc] at hrec
    have eo : [n].map (pF op.ID v6 v8) ++ r = pF op.ID v6 v8 n :: r:=rfl
    rw [eo] at hrec
    generalize p.map (pF op.ID v6 v8) = P at *
    have hg : gix (P ++ n :: r) (p.length : Int) = some n:=by rw [← hlen]; exact fN rfl
    have hg2 : (P ++ n :: r)[((p.length : Nat) : Int).toNat]? = some n:=by rw [← hlen]; exact oP rfl
    have hset : ∀ w : Nd,(P ++ n :: r).set ((p.length : Nat) : Int).toNat w = P ++ w :: r:=fun w=>by rw [← hlen]; exact rC
    rw [fF]
    simp only [bndD,lZ hp,cP,hg,hg2,bnoS,w_at hp (show M.length ≤ 1000000 by omega)]
    cases h8 : v8
    · have e : pF op.ID v6 v8 n = n := by unfold pF; rw [h8]; simp
      rw [e,h8] at hrec
      simp only [ft,gdff,bnoS,Bool.false_and,bM]
      exact hrec
    · simp only [beq_self_eq_true, gdtt, bnoS, Bool.true_and]
      by_cases hq : n.Parent = v6
      · simp only [decide_eq_true hq, beq_self_eq_true, gdtt, bnoS, Bool.true_and]
        by_cases hx : n.ID = op.ID
        · have e : pF op.ID v6 v8 n = n := by unfold pF; rw [hx]; simp
          rw [e,h8] at hrec
          simp only [decide_eq_true hx,Bool.not_true,bM]
          exact hrec
        · have e : pF op.ID v6 v8 n = ⟨n.ID, op.ID, n.Weight, n.Closed⟩ := by unfold pF; rw [h8, decide_eq_true hq, decide_eq_false hx]; rfl
          rw [e,h8] at hrec
          simp only [decide_eq_false hx,Bool.not_false,cP,hset]
          exact hrec
      · have e : pF op.ID v6 v8 n = n := by unfold pF; rw [decide_eq_false hq]; simp
        rw [e,h8] at hrec
        simp only [decide_eq_false hq,ft,gdff,bnoS,Bool.false_and,bM]
        exact hrec
def mvN (d p : Int) (n : Nd) : Nd:=if n.ID = d then ⟨n.ID,p,n.Weight,n.Closed⟩ else n
theorem xD (d p : Int) (n : Nd) : (mvN d p n).ID = n.ID:=by unfold mvN; split <;> rfl
theorem map_mv {A C : List Nd} {y : Nd} {p : Int} (hs : (A ++ y :: C).Pairwise (fun a b=>a.ID < b.ID)) : (A ++ y :: C).map (mvN y.ID p) = A ++ (⟨y.ID,p,y.Weight,y.Closed⟩ : Nd) :: C:=by
  obtain ⟨hA,hC⟩:=pK hs
  rw [List.map_append,List.map_cons]
  have e1 : A.map (mvN y.ID p) = A:=by
    conv=>rhs; rw [← List.map_id A]
    exact List.map_congr_left (fun a ha=>by unfold mvN; rw [if_neg (hA a ha)]; rfl)
  have e2 : C.map (mvN y.ID p) = C:=by
    conv=>rhs; rw [← List.map_id C]
    exact List.map_congr_left (fun a ha=>by unfold mvN; rw [if_neg (hC a ha)]; rfl)
  rw [e1,e2]
  congr 2
  unfold mvN; rw [if_pos rfl]
structure HP (N : List Nd) (x : Int) (r : Int → Nat) : Prop where
  ok : Ok34 N
  xm : ∃ n ∈ N,n.ID = x
  ra : ∀ n ∈ N,1 ≤ n.Weight ∧ n.Weight ≤ 256
  pa : ∀ n ∈ N,n.ID ≠ x → n.Parent = 0 ∨ ∃ m ∈ N,m.ID = n.Parent
  rk : Rk N x r
  xs : ((∀ n ∈ N,n.Parent ≠ 0 → r n.Parent < r n.ID) ∧ ∀ n ∈ N,n.Parent = 0 ∨ ∃ m ∈ N,m.ID = n.Parent) ∨ ∀ n ∈ N,n.ID ≠ x → n.Parent ≠ x
structure Hung (N : List Nd) (g : Nd → Nd) : Prop where
  id : ∀ n,(g n).ID = n.ID
  cl : ∀ n,(g n).Closed = n.Closed
  ra : ∀ n ∈ N,1 ≤ (g n).Weight ∧ (g n).Weight ≤ 256
  pa : ∀ n ∈ N,(g n).Parent = 0 ∨ ∃ m ∈ N,m.ID = (g n).Parent
  rk : ∃ r : Int → Nat,∀ m ∈ N.map g,m.Parent ≠ 0 → r m.Parent < r m.ID
end Go.Fn
open Go Go.IL
namespace Go.Fn
theorem tB {R K : Int} {N : List Nd} {E : List Int} (h : Ok34 N) {id : Int} (h64 : I64 id) : ∃ r,dC ⟨R,K,N,E⟩ id = some r ∧ Fd N id r:=xJ (st:=⟨R,K,N,E⟩) h h64
theorem wQ {R K : Int} {N : List Nd} {E : List Int} (h : Ok34 N) {id : Int} (hx : ∃ n ∈ N,n.ID = id) : ∃ A y C,N = A ++ y :: C ∧ y.ID = id ∧ dC ⟨R,K,N,E⟩ id = some ((A.length : Int),true):=by
  obtain ⟨n,hn,e⟩:=hx
  have hr:=h.ra n hn
  obtain ⟨r,h1,h2⟩:=tB (R:=R) (K:=K) (E:=E) h (id:=id) ⟨by omega,by omega⟩
  cases h2 with
  | yes A y C hN he _ _=>exact ⟨A,y,C,hN,he,h1⟩
  | no p hp hno _=>exact absurd e (hno n hn)
theorem sI {R K : Int} {op : Fo} {E : List Int} {v6 v7 : Int} {v8 : Bool} {M A C : List Nd} {y : Nd} (hM : M = A ++ y :: C) (hs : M.Pairwise (fun a b=>a.ID < b.ID)) (hl : M.length ≤ 1000) (hy : y.ID = op.ID) : gJ R K op E v6 v7 v8 ((A.length : Int),true) M = some (R,K,M.map (mF op.ID v6 v7 v8),E) :=
  aAi hM hs hl hy M [] fuel rfl (gS (by omega))
end Go.Fn
open Go Go.IL
namespace Go.Fn
theorem nclone {l : List Nd} (hl : l.length ≤ 100000) : eJ l = some l:=by
  unfold eJ
  have h : (bno (app 32 ([] : (List Nd)) l) fun x3=>some x3) = some l:=by
    rw [mJ (by simp; omega) (by simp; omega),bnoS,List.nil_append]
  rw [h,tV]
  rintro rfl; rfl
theorem eclone {l : List Int} (hl : l.length ≤ 100000) : iH l = some l:=by
  unfold iH
  have h : (bno (app 8 ([] : (List Int)) l) fun x3=>some x3) = some l:=by
    rw [mJ (by simp; omega) (by simp; omega),bnoS,List.nil_append]
  rw [h,tV]
  rintro rfl; rfl
structure BS (K : Int) (N : List Nd) (E : List Int) : Prop where
  kp : 0 ≤ K ∧ K ≤ 24
  ln : N.length ≤ 24
  el : (E.length : Int) ≤ K
  so : N.Pairwise (fun a b=>a.ID < b.ID)
  ra : ∀ n ∈ N,1 ≤ n.ID ∧ n.ID ≤ 1048576
  en : ∀ n ∈ N,(n.Closed = true ↔ n.ID ∈ E)
  nd : E.Nodup
  es : ∀ e ∈ E,∃ n ∈ N,n.ID = e
theorem FV.bs {K : Int} {st : Fs} (h : FV K st) : BS K st.Nodes st.Ended:=⟨h.kp.2,h.ln,h.el,h.so,fun n hn=>(h.ra n hn).1,h.en,h.nd,h.es⟩
def may34 (op : Fo) : Prop:=(1 ≤ op.ID ∧ op.ID ≤ 1048576) ∧ (1 ≤ op.Weight ∧ op.Weight ≤ 256) ∧ (0 ≤ op.Dep ∧ op.Dep ≤ 1048576) ∧ op.Dep ≠ op.ID
theorem wrong34 (n : Nd) : nA n = some (decide (n.ID < 1) || decide (1048576 < n.ID) || decide (n.Weight < 1) || decide (256 < n.Weight)):=rfl
end Go.Fn
open Go Go.IL
namespace Go.Fn
def clN (id : Int) (n : Nd) : Nd:=if n.ID = id then ⟨n.ID,n.Parent,n.Weight,true⟩ else n
theorem tU (id : Int) (n : Nd) : (clN id n).ID = n.ID:=by unfold clN; split <;> rfl
theorem zU (id : Int) (n : Nd) : (clN id n).Parent = n.Parent:=by unfold clN; split <;> rfl
theorem clN_w (id : Int) (n : Nd) : (clN id n).Weight = n.Weight:=by unfold clN; split <;> rfl
theorem map_cl {A C : List Nd} {y : Nd} (hs : (A ++ y :: C).Pairwise (fun a b=>a.ID < b.ID)) : (A ++ y :: C).map (clN y.ID) = A ++ (⟨y.ID,y.Parent,y.Weight,true⟩ : Nd) :: C:=by
  obtain ⟨hA,hC⟩:=pK hs
  rw [List.map_append,List.map_cons]
  have e1 : A.map (clN y.ID) = A:=by
    conv=>rhs; rw [← List.map_id A]
    exact List.map_congr_left (fun a ha=>by unfold clN; rw [if_neg (hA a ha)]; rfl)
  have e2 : C.map (clN y.ID) = C:=by
    conv=>rhs; rw [← List.map_id C]
    exact List.map_congr_left (fun a ha=>by unfold clN; rw [if_neg (hC a ha)]; rfl)
  rw [e1,e2]
  congr 2
  unfold clN; rw [if_pos rfl]
theorem fv_shut {st : Fs} (h : FV 24 st) {y : Nd} (hy : y ∈ st.Nodes) (hc : y.Closed = false) : FV 24 ⟨st.Room,st.Keep,st.Nodes.map (clN y.ID),st.Ended ++ [y.ID]⟩ ∧ st.Ended.length + 1 ≤ 24:=by
  obtain ⟨r,hr⟩:=h.rk
  have hln:=h.ln
  have hlen : st.Ended.length + 1 ≤ 24:=by
    obtain ⟨A,C,hN⟩:=List.append_of_mem hy
    have h1 : (A.filter (·.Closed)).length + (C.filter (·.Closed)).length = st.Ended.length:=by
      have:=yG h
      rw [hN,List.filter_append,List.filter_cons_of_neg (by rw [hc]; simp),List.length_append] at this
      exact this
    rw [hN] at hln
    have h2:=List.length_filter_le (·.Closed) A
    have h3:=List.length_filter_le (·.Closed) C
    simp only [List.length_append,List.length_cons] at hln
    omega
  have hni : ¬ y.ID ∈ st.Ended:=fun hm=>by have:=(h.en y hy).2 hm; rw [hc] at this; cases this
  have himg : ∀ m ∈ st.Nodes.map (clN y.ID),∃ n ∈ st.Nodes,m = clN y.ID n:=fun m hm=>by
    obtain ⟨n,hn,e⟩:=List.mem_map.1 hm
    exact ⟨n,hn,e.symm⟩
  have hin : ∀ p : Int,(∃ m ∈ st.Nodes,m.ID = p) → ∃ m ∈ st.Nodes.map (clN y.ID),m.ID = p:=fun p ⟨m,hm,e⟩=>⟨_,List.mem_map.2 ⟨m,hm,rfl⟩,(tU _ _).trans e⟩
  refine ⟨⟨h.rm,h.kp,by show (st.Nodes.map _).length ≤ 24; rw [List.length_map]; exact hln,by show ((st.Ended ++ [y.ID]).length : Int) ≤ 24; rw [List.length_append,List.length_singleton]; omega,?_,fun m hm=>?_,fun m hm=>?_,⟨r,fun m hm hz=>?_⟩,fun m hm=>?_,?_,fun e he=>?_⟩,hlen⟩
  · show (st.Nodes.map _).Pairwise _
    rw [List.pairwise_map]
    exact h.so.imp (fun hab=>by rw [tU,tU]; exact hab)
  · obtain ⟨n, hn, rfl⟩ := himg m hm
    rw [tU,clN_w]; exact h.ra n hn
  · obtain ⟨n, hn, rfl⟩ := himg m hm
    rw [zU]; exact (h.pa n hn).imp id (hin _)
  · obtain ⟨n, hn, rfl⟩ := himg m hm
    rw [zU] at hz ⊢
    rw [tU]
    exact hr n hn hz
  · obtain ⟨n, hn, rfl⟩ := himg m hm
    have hen:=h.en n hn
    rw [tU]
    show _ ↔ n.ID ∈ st.Ended ++ [y.ID]
    rw [List.mem_append,List.mem_singleton]
    unfold clN
    split
    · rename_i e
      exact ⟨fun _=>.inr e,fun _=>rfl⟩
    · rename_i e
      rw [hen]
      exact ⟨.inl,fun hh=>hh.resolve_right e⟩
  · show (st.Ended ++ [y.ID]).Nodup
    rw [List.nodup_append]
    exact ⟨h.nd,by simp,fun a ha b hb=>by rw [List.mem_singleton.1 hb]; rintro rfl; exact hni ha⟩
  · have he : e ∈ st.Ended ++ [y.ID] := he
    rcases List.mem_append.1 he with he | he
    · exact hin e (h.es e he)
    · exact hin e ⟨y,hy,(List.mem_singleton.1 he).symm⟩
end Go.Fn
open Go Go.IL
namespace Go.Fn
theorem neq34 {l m : List Nd} (hl : l.length ≤ 1000000) : fS l m = some (decide (l = m)):=by
  have heq : ∀ x y : Nd,(decide (x.ID = y.ID) && (decide (x.Parent = y.Parent) && (decide (x.Weight = y.Weight) && ((x.Closed == y.Closed) && true)))) = decide (x = y):=fun x y=>by
    obtain ⟨a,b,c,d⟩:=x; obtain ⟨e,f,g,i⟩:=y; rw [Bool.eq_iff_iff]; simp
  have:=qT (L:=cF l m) (m:=m) (z:=true) hl (fun p x r s y t f h k e=>by
    rw [cF]
    simp only [bndD,lZ h,cP,fN h,show gix m (p.length : Int) = some y by rw [e]; exact fN k,bnoS,heq,w_at h hl]) (fun _ f=>by
    rw [cF]
    simp only [bndD,jY,bM])
  rw [Bool.and_true] at this
  exact this
theorem ieq34 {l m : List Int} (hl : l.length ≤ 1000000) : kD l m = some (decide (l = m)):=by
  have:=qT (L:=eP l m) (m:=m) (z:=true) hl (fun p x r s y t f h k e=>by
    rw [eP]
    simp only [bndD,lZ h,cP,fN h,show gix m (p.length : Int) = some y by rw [e]; exact fN k,bnoS,w_at h hl]) (fun _ f=>by
    rw [eP]
    simp only [bndD,jY,bM])
  rw [Bool.and_true] at this
  exact this
end Go.Fn
open Go Go.IL
namespace Go.Fn
end Go.Fn
open Go Go.IL
namespace Go.Fn
theorem off_any {K : Int} {st : Fs} (h : FV K st) (R' K' : Int) {id : Int} (hid : ∃ n ∈ st.Nodes,n.ID = id) : ∃ A y C,st.Nodes = A ++ y :: C ∧ y.ID = id ∧ fR R' K' id st.Nodes st.Ended = some (R',K',offS A y C,st.Ended.filter fun y=>!decide (y = id)):=by
  obtain ⟨y,hy,rfl⟩:=hid
  obtain ⟨A,z,C,hN,hz,hf⟩:=wQ (R:=R') (K:=K') (E:=st.Ended) h.ok ⟨y,hy,rfl⟩
  have hzy : z = y:=uT h.so (by rw [hN]; simp) hy hz
  subst hzy
  have hln:=h.ln; have hel:=h.el; have hkp:=h.kp
  have hra:=h.ra
  have hlen : A.length + C.length + 1 ≤ 24:=by rw [hN] at hln; simp at hln; omega
  have hdel : fD (A.length : Int) ((A.length : Int) + 1) st.Nodes = some (A ++ C):=by
    unfold fD
    rw [delS_ok (by omega) (by omega) (by rw [hN]; simp; omega),hN]
    congr 1
    have e1 : ((A.length : Int)).toNat = A.length:=by omega
    have e2 : ((A.length : Int) + 1).toNat = A.length + 1:=by omega
    rw [e1,e2,List.take_left,List.drop_append]
    simp
  have hw : ∀ n ∈ A ++ C,1 ≤ n.Weight ∧ n.Weight ≤ 256:=fun n hn=>(hra n (by rw [hN]; rcases List.mem_append.1 hn with hn | hn <;> simp [hn])).2
  have hl : (A ++ C).length ≤ 1000:=by rw [List.length_append]; omega
  have hsum:=sum34 (st:=⟨R',K',A ++ C,st.Ended⟩) hl hw z.ID
  have hoff:=off_L (a0:=R') (a1:=K') (E:=st.Ended) (y:=z) (M:=A ++ C) hl hw (hra z hy).2 (del34 (by omega)) (A ++ C) [] fuel rfl (gS (by omega))
  refine ⟨A,z,C,hN,rfl,?_⟩
  unfold fR
  rw [hf,bnoS,fN hN,bnoS,oP hN,bnoS,bndD,w64 (by omega) (by omega),hdel,bnoS,hsum,bnoS]
  exact hoff
end Go.Fn
open Go Go.IL
namespace Go.Fn
inductive Dsc (N : List Nd) (d : Int) : Int → Prop
  | child (n : Nd) (hn : n ∈ N) (hp : n.Parent = d) : Dsc N d n.ID
  | up (n : Nd) (hn : n ∈ N) (hp : n.Parent ≠ 0) (h : Dsc N d n.Parent) : Dsc N d n.ID
structure Tr (N : List Nd) (r : Int → Nat) : Prop where
  so : N.Pairwise (fun a b=>a.ID < b.ID)
  id : ∀ n ∈ N,1 ≤ n.ID
  pa : ∀ n ∈ N,n.Parent = 0 ∨ ∃ m ∈ N,m.ID = n.Parent
  rk : ∀ n ∈ N,n.Parent ≠ 0 → r n.Parent < r n.ID
theorem FV.tr {K : Int} {st : Fs} (h : FV K st) : ∃ r,Tr st.Nodes r:=by
  obtain ⟨r,hr⟩:=h.rk
  exact ⟨r,h.so,fun n hn=>(h.ra n hn).1.1,h.pa,hr⟩
section
variable {N : List Nd} {r : Int → Nat}
end
end Go.Fn
open Go Go.IL
namespace Go.Fn
def In (M : List Int) (n : Nat) (l : List Int) : Prop:=l.length = n ∧ ∀ x ∈ l,x ∈ M
section
variable {α β : Type} {Q : α → Prop} {M : List Int} {n : Nat} {l : List Int}
end
section
variable {M : List Int} {n : Nat}
end
end Go.Fn
open Go Go.IL
namespace Go.Fn
section
variable {M : List Int} {n : Nat}
end
section
variable {M : List Int} {n : Nat} {rec0 : Int → Int → Int → List Int → Option (List Int)} {kk : List Int → Int → Int → Int → Bool → Bool → Option (List Int)} {a b lim : Int} {c d : Bool}
end
section
variable {M : List Int} {n : Nat} {rec0 : Int → Int → Int → List Int → Option (List Int)}
end
end Go.Fn
open Go Go.IL
namespace Go.Fn
end Go.Fn
open Go Go.IL
namespace Go.Fn
abbrev T19:=aM
inductive Pl (N : List Nd) (id : Int) : Int → Prop
  | yes (A : List Nd) (y : Nd) (C : List Nd) (h : N = A ++ y :: C) (e : y.ID = id) (ha : ∀ a ∈ A,a.ID ≠ id) : Pl N id (A.length : Int)
  | no (h : ∀ n ∈ N,n.ID ≠ id) : Pl N id (-1)
theorem pl_L {t : T19} {id : Int} (hl : t.L.length ≤ 1000) : ∀ (r p : List Nd) (f : Nat), t.L = p ++ r → (∀ a ∈ p, a.ID ≠ id) → r.length < f → ∃ i, cS t id f (p.length : Int) = some i ∧ Pl t.L id i
  | [], p, f + 1, hN, ha, _ => by
    rw [List.append_nil] at hN
    rw [cS]
    simp only [bndD,hN,jY,bM]
    exact ⟨_,rfl,.no ha⟩
  | n :: r, p, f + 1, hN, ha, hf => by
    rw [cS]
    simp only [bndD,lZ hN,cP,fN hN,bnoS,w_at hN (show t.L.length ≤ 1000000 by omega)]
    by_cases h : n.ID = id
    · rw [decide_eq_true h, cP]
      exact ⟨_,rfl,.yes p n r hN h ha⟩
    · rw [decide_eq_false h, bM]
      exact pl_L hl r (p ++ [n]) f (jK hN) (fun a hm=>by
        rcases List.mem_append.1 hm with hm | hm
        · exact ha a hm
        · rw [List.mem_singleton.1 hm]; exact h) (by simpa using hf)
theorem sQ {t : T19} (hl : t.L.length ≤ 1000) (id : Int) : ∃ i,bK t id = some i ∧ Pl t.L id i :=
  pl_L hl t.L [] fuel rfl (fun _ h=>(List.not_mem_nil h).elim) (gS (by omega))
theorem pl_no {t : T19} (hl : t.L.length ≤ 1000) {id : Int} (h : ∀ n ∈ t.L,n.ID ≠ id) : bK t id = some (-1):=by
  obtain ⟨i,h1,h2⟩:=sQ hl id
  cases h2 with
  | yes A y C hN e _=>exact absurd e (h y (by rw [hN]; simp))
  | no _=>exact h1
theorem uZ {t : T19} (hl : t.L.length ≤ 1000) {id : Int} {A C : List Nd} {y : Nd} (h : t.L = A ++ y :: C) (e : y.ID = id) (ha : ∀ a ∈ A,a.ID ≠ id) : bK t id = some (A.length : Int):=by
  have key : ∀ (B p : List Nd) (f : Nat),t.L = p ++ (B ++ y :: C) → (∀ a ∈ B,a.ID ≠ id) → B.length < f → cS t id f (p.length : Int) = some (((p ++ B).length : Nat) : Int):=fun B=>by
    induction B with
    | nil =>
      intro p f hN _ hf
      obtain ⟨f,rfl⟩ : ∃ g,f = g + 1:=⟨f - 1,by omega⟩
      have hN : t.L = p ++ y :: C:=hN
      rw [cS]
      simp only [bndD,lZ hN,cP,fN hN,bnoS,decide_eq_true e,List.append_nil]
    | cons b B ih =>
      intro p f hN hb hf
      obtain ⟨f,rfl⟩ : ∃ g,f = g + 1:=⟨f - 1,by omega⟩
      have hN : t.L = p ++ b :: (B ++ y :: C):=hN
      have hr:=ih (p ++ [b]) f (jK hN) (fun a ha=>hb a (by simp [ha])) (by simpa using hf)
      rw [cS]
      simp only [bndD,lZ hN,cP,fN hN,bnoS,decide_eq_false (hb b (by simp)),bM,w_at hN (show t.L.length ≤ 1000000 by omega)]
      rw [hr]; simp
  have hA : A.length ≤ 1000:=by rw [h] at hl; simp at hl; omega
  exact key A [] fuel h ha (gS (by omega))
theorem par_pl {N A C : List Nd} {y : Nd} {id : Int} (h : N = A ++ y :: C) (e : y.ID = id) (ha : ∀ a ∈ A,a.ID ≠ id) : pB N id = some y.Parent:=by
  unfold pB
  rw [h,List.find?_append]
  have h1 : A.find? (fun n=>decide (n.ID = id)) = none:=List.find?_eq_none.2 (fun a hm=>by simpa using ha a hm)
  rw [h1]
  simp [e]
theorem wC {t : T19} (hl : t.L.length ≤ 1000) (h0 : ∀ n ∈ t.L, n.ID ≠ 0) : ∀ (k f turn : Nat) (id i : Int) (acc : List Int), Pl t.L id i → turn + k = t.L.length + 1 → k < f → acc.length ≤ turn → cU t f acc i (turn : Int) = some (acc ++ fT t.L k id)
  | k,0,_,_,_,_,_,_,hf,_=>absurd hf (by omega)
  | 0, f + 1, turn, id, i, acc, _, ht, _, _ => by
    rw [cU]
    simp only [bndD,decide_eq_false (show ¬ (turn : Int) ≤ (t.L.length : Int) by omega),Bool.false_and,bM]
    unfold fT; rw [List.append_nil]
  | k + 1, f + 1, turn, id, i, acc, hp, ht, hf, ha => by
    rw [cU]
    unfold fT
    cases hp with
    | no h =>
      rw [tN h]
      simp only [bndD,show decide (0 ≤ (-1 : Int)) = false from rfl,Bool.and_false,bM,List.append_nil]
    | yes A y C hN e hA =>
      have hg : gix t.L (A.length : Int) = some y:=fN hN
      obtain ⟨j,hj,hp2⟩:=sQ hl y.Parent
      rw [par_pl hN e hA]
      simp only [bndD,decide_eq_true (show (turn : Int) ≤ (t.L.length : Int) by omega),decide_eq_true (show (0 : Int) ≤ (A.length : Int) by omega),Bool.and_self,cP,hg,bnoS]
      have hw : IntKind.wrap .i64 ((turn : Int) + 1) = ((turn + 1 : Nat) : Int):=by rw [w64 (by omega) (by omega)]; omega
      by_cases hz : y.Parent = 0
      · have hr := wC hl h0 k f (turn + 1) y.Parent j acc hp2 (by omega) (by omega) (by omega)
        have hnil : fT t.L k y.Parent = []:=by
          cases k with
          | zero=>rfl
          | succ k=>unfold fT; rw [tN (fun n hn=>by rw [hz]; exact h0 n hn)]
        rw [hnil] at hr
        rw [decide_eq_true hz]
        show fI t (turn : Int) (cU t f) y acc = _
        unfold fI
        rw [hj,bnoS,bndD,hw,hr,if_pos hz]
      · have hr := wC hl h0 k f (turn + 1) y.Parent j (acc ++ [y.Parent]) hp2 (by omega) (by omega) (by rw [List.length_append, List.length_singleton]; omega)
        rw [decide_eq_false hz]
        show bno (app 8 acc [y.Parent]) _ = _
        rw [mJ (by rw [List.length_singleton]; omega) (by rw [List.length_singleton]; omega),bnoS]
        unfold fI
        rw [hj,bnoS,bndD,hw,hr,if_neg hz,List.append_assoc]; rfl
theorem rpath {t : T19} (hl : t.L.length ≤ 1000) (h0 : ∀ n ∈ t.L,n.ID ≠ 0) (id : Int) : gB t id = some (fT t.L (t.L.length + 1) id):=by
  obtain ⟨i,hi,hp⟩:=sQ hl id
  have:=wC hl h0 (t.L.length + 1) fuel 0 id i [] hp (by omega) (gS (by omega)) (Nat.le_refl _)
  unfold gB
  rw [hi,bnoS]
  exact this
theorem in_L {l : List Int} {x : Int} (hl : l.length ≤ 1000000) : ∀ (r p : List Int) (f : Nat), l = p ++ r → r.length < f → gV l x f (p.length : Int) = some (decide (x ∈ r))
  | [], p, f + 1, h, _ => by
    rw [List.append_nil] at h
    rw [gV]
    simp only [bndD,h,jY,bM]
    simp
  | y :: r, p, f + 1, h, hf => by
    have hr:=in_L (x:=x) hl r (p ++ [y]) f (jK h) (by simpa using hf)
    rw [gV]
    simp only [bndD,lZ h,cP,fN h,bnoS,w_at h hl]
    by_cases e : y = x
    · rw [decide_eq_true e,cP,decide_eq_true (show x ∈ y :: r by rw [e]; simp)]
    · rw [decide_eq_false e, bM, hr]
      have : x ∈ y :: r ↔ x ∈ r:=by
        constructor
        · intro h; exact (List.mem_cons.1 h).resolve_left (fun e2=>e e2.symm)
        · intro h; exact List.mem_cons_of_mem _ h
      simp only [this]
theorem in19 {l : List Int} {x : Int} (hl : l.length ≤ 1000000) : jV l x = some (decide (x ∈ l)):=in_L hl l [] fuel rfl (gS (by omega))
def qL (N : List Nd) (id : Int) : List Int:=(N.filter fun n=>decide (n.Parent = id)).map (·.ID)
theorem aAf {t : T19} (hl : t.L.length ≤ 1000) {id : Int} : ∀ (r p : List Nd) (f : Nat),t.L = p ++ r → r.length < f → dS t id f (qL p id) (p.length : Int) = some (qL t.L id)
  | [], p, f + 1, h, _ => by
    rw [List.append_nil] at h
    rw [dS]
    simp only [bndD,h,jY,bM]
  | n :: r, p, f + 1, h, hf => by
    have hr:=aAf hl (id:=id) r (p ++ [n]) f (jK h) (by simpa using hf)
    have hk : (qL p id).length ≤ 1000:=by
      unfold qL
      rw [List.length_map]
      have:=List.length_filter_le (fun n=>decide (n.Parent = id)) p
      rw [h] at hl; simp at hl; omega
    have e : qL (p ++ [n]) id = if n.Parent = id then qL p id ++ [n.ID] else qL p id:=by
      unfold qL
      rw [List.filter_append,List.map_append]
      by_cases hn : n.Parent = id <;> simp [hn]
    rw [e] at hr
    rw [dS]
    simp only [bndD,lZ h,cP,fN h,bnoS,w_at h (show t.L.length ≤ 1000000 by omega)]
    by_cases hn : n.Parent = id
    · rw [if_pos hn] at hr
      rw [decide_eq_true hn,cP,mJ (by simp; omega) (by simp; omega),bnoS]
      exact hr
    · rw [if_neg hn] at hr
      rw [decide_eq_false hn,bM]
      exact hr
theorem aAg {t : T19} (hl : t.L.length ≤ 1000) (id : Int) : iU t id = some (qL t.L id) :=
  aAf hl t.L [] fuel rfl (gS (by omega))
theorem wo_L {l : List Int} {x : Int} (hl : l.length ≤ 1000) : ∀ (r p : List Int) (f : Nat),l = p ++ r → r.length < f → eL l x f (p.filter fun y=>!decide (y = x)) (p.length : Int) = some (l.filter fun y=>!decide (y = x))
  | [], p, f + 1, h, _ => by
    rw [List.append_nil] at h
    rw [eL]
    simp only [bndD,h,jY,bM]
  | y :: r, p, f + 1, h, hf => by
    have hr:=wo_L (x:=x) hl r (p ++ [y]) f (jK h) (by simpa using hf)
    have hk : (p.filter fun y=>!decide (y = x)).length ≤ 1000:=by
      have:=List.length_filter_le (fun y=>!decide (y = x)) p
      rw [h] at hl; simp at hl; omega
    rw [List.filter_append] at hr
    rw [eL]
    simp only [bndD,lZ h,cP,fN h,bnoS,w_at h (show l.length ≤ 1000000 by omega)]
    by_cases e : y = x
    · rw [show [y].filter (fun y => !decide (y = x)) = [] by simp [e], List.append_nil] at hr
      rw [decide_eq_true e]
      exact hr
    · rw [show [y].filter (fun y => !decide (y = x)) = [y] by simp [e]] at hr
      rw [decide_eq_false e]
      show bno (app 8 (p.filter fun y=>!decide (y = x)) [y]) _ = _
      rw [mJ (by simp; omega) (by simp; omega),bnoS]
      exact hr
theorem wo19 {l : List Int} {x : Int} (hl : l.length ≤ 1000) : iI l x = some (l.filter fun y=>!decide (y = x)):=wo_L hl l [] fuel rfl (gS (by omega))
theorem aAT {t : T19} (hl : t.L.length ≤ 1000) {A C : List Nd} {y z : Nd} (h : t.L = A ++ y :: C) (e : y.ID = z.ID) (ha : ∀ a ∈ A,a.ID ≠ z.ID) : dG t z = some ⟨t.Room,t.Keep,A ++ z :: C,t.Closed⟩:=by
  unfold dG
  rw [mJ (by simp; omega) (by simp; omega),bnoS,List.nil_append,uZ hl h e ha,bnoS,fN h,bnoS,oP h,bnoS,bndD]
  rw [show t.L.set ((A.length : Nat) : Int).toNat z = A ++ z :: C by rw [h]; exact rC]
end Go.Fn
open Go Go.IL
namespace Go.Fn
def mV (n : Nd) : Bool:=decide (n.ID < 1) || decide (1048576 < n.ID) || decide (n.Weight < 1) || decide (256 < n.Weight)
def sC (N : List Nd) (n : Nd) : Bool:=!decide (n.Parent = 0) && !(N.any fun m=>decide (m.ID = n.Parent))
def mO (N : List Nd) (k : Nat) (n : Nd) : Bool:=decide (n.ID ∈ fT N k n.ID)
def ordB (x : Nd) : List Nd → Bool
  | []=>true
  | n :: r=>decide (x.ID < n.ID) && ordB n r
def qX (E : List Int) (n : Nd) : Bool:=n.Closed == decide (n.ID ∈ E)
def endB (N : List Nd) (E : List Int) : Bool:=N.all (qX E) && decide ((N.filter (·.Closed)).length = E.length)
def rB (st : Fs) (k : Nat) : Int:=bif st.Nodes.any (sC st.Nodes) then 6 else bif st.Nodes.any (mO st.Nodes k) then 4 else bif endB st.Nodes st.Ended then 0 else 9
def ordN : List Nd → Bool
  | []=>true
  | x :: r=>ordB x r
def oR (st : Fs) : Bool:=decide (st.Room < 1) || decide (24 < st.Room) || decide (st.Keep < 0) || decide (st.Room < st.Keep)
def pJ (st : Fs) (k : Nat) : Int:=bif oR st || st.Nodes.any mV then 8 else bif decide (st.Room < (st.Nodes.length : Int)) || decide (st.Keep < (st.Ended.length : Int)) then 7 else bif ordN st.Nodes then rB st k else 10
theorem vC (x n : Nd) (r : List Nd) : ordB x (n :: r) = (decide (x.ID < n.ID) && ordB n r):=rfl
theorem aAe (a b : Nat) : decide ((a : Int) = (b : Int)) = decide (a = b):=by rw [Bool.eq_iff_iff]; simp; omega
theorem aAd : ∀ (r : List Nd) (x : Nd),ordB x r = true → (x :: r).Pairwise (fun a b=>a.ID < b.ID)
  | [],x,_=>List.pairwise_singleton _ _
  | n :: r, x, h => by
    have h : (decide (x.ID < n.ID) && ordB n r) = true:=h
    rw [Bool.and_eq_true,decide_eq_true_iff] at h
    have ih:=aAd r n h.2
    refine List.pairwise_cons.2 ⟨fun m hm=>?_,ih⟩
    rcases List.mem_cons.1 hm with e | hm
    · rw [e]; exact h.1
    · have:=(List.pairwise_cons.1 ih).1 m hm; omega
theorem wG {N : List Nd} (h : ordN N = true) : N.Pairwise (fun a b=>a.ID < b.ID):=by
  cases N with
  | nil=>exact .nil
  | cons x r=>exact aAd r x h
theorem qY {N : List Nd} {p : Int} : (N.any fun m=>decide (m.ID = p)) = true ↔ ∃ m ∈ N,m.ID = p:=by
  rw [List.any_eq_true]; simp
section
variable {st : Fs}
theorem wrongC (hl : st.Nodes.length ≤ 1000) : cE st.Nodes = some (st.Nodes.any mV):=by
  unfold cE dW
  exact cmem (P:=nA) (q:=mV) (I:=cC st.Nodes) (l:=st.Nodes) (fun n hn=>rfl) (fun f v=>rfl) (by omega)
theorem lostC (h : Ok34 st.Nodes) : bS st.Nodes st = some (st.Nodes.any (sC st.Nodes)):=by
  have hln:=h.ln
  unfold bS eD
  refine cmem (P:=fun y=>lJ st y) (q:=sC st.Nodes) (I:=cH st.Nodes st) (l:=st.Nodes) (fun n hn=>?_) (fun f v=>rfl) (by omega)
  obtain ⟨r,h1,h2⟩:=xJ h (id:=n.Parent) (h.pa n hn)
  unfold lJ sC
  rw [h1,bnoS,bndD,bndD]
  cases h2 with
  | yes A y C hN he hA hC=>rw [qY.2 ⟨y,by rw [hN]; simp,he⟩]
  | no p hp hno _ =>
    have hf : (st.Nodes.any fun m=>decide (m.ID = n.Parent)) = false:=Bool.eq_false_iff.2 (fun hh=>by obtain ⟨m,hm,e⟩:=qY.1 hh; exact hno m hm e)
    rw [hf]
theorem roundC (h : Ok34 st.Nodes) : bR st.Nodes st = some (st.Nodes.any (mO st.Nodes st.Nodes.length)):=by
  have hln:=h.ln
  unfold bR dX
  refine cmem (P:=fun y=>kQ st y) (q:=mO st.Nodes st.Nodes.length) (I:=cD st.Nodes st) (l:=st.Nodes) (fun n hn=>?_) (fun f v=>rfl) (by omega)
  have hp:=qE st.Nodes st.Nodes.length n.ID
  have hr:=h.ra n hn
  unfold kQ
  rw [path34 h ⟨by omega,by omega⟩,bnoS,cint (by omega),bnoS]; rfl
theorem endC (hl : st.Nodes.length ≤ 1000) (he : st.Ended.length ≤ 1000) : ∀ (r p : List Nd) (f : Nat), st.Nodes = p ++ r → r.length < f → dT st f ((p.filter (·.Closed)).length : Int) (p.length : Int) = some (r.all (qX st.Ended) && decide ((st.Nodes.filter (·.Closed)).length = st.Ended.length))
  | [], p, f + 1, hN, _ => by
    rw [List.append_nil] at hN
    rw [dT]
    simp only [bndD,hN,jY,bM,List.all_nil,Bool.true_and,aAe]
  | n :: r, p, f + 1, hN, hf => by
    have hpl : p.length ≤ 1000:=by rw [hN] at hl; simp at hl; omega
    have hfl:=List.length_filter_le (·.Closed) p
    have hrec:=endC hl he r (p ++ [n]) f (jK hN) (by simpa using hf)
    have hcon:=cint (l:=st.Ended) (x:=n.ID) (by omega)
    rw [List.filter_append] at hrec
    rw [dT]
    simp only [bndD,lZ hN,cP,fN hN,bnoS,List.all_cons]
    have hJ : ∀ v : Int,dT st f v ((p ++ [n]).length : Int) = some (r.all (qX st.Ended) && decide ((st.Nodes.filter (·.Closed)).length = st.Ended.length)) → iP st (p.length : Int) (dT st f) n v = some ((qX st.Ended n && r.all (qX st.Ended)) && decide ((st.Nodes.filter (·.Closed)).length = st.Ended.length)):=fun v hv=>by
      unfold iP
      rw [hcon,bnoS,bndD]
      show (bif !(qX st.Ended n) then _ else _) = _
      cases qX st.Ended n
      · rfl
      · simp only [Bool.not_true, bM, bndD, w_at hN (show st.Nodes.length ≤ 1000000 by omega), Bool.true_and]
        exact hv
    cases hC : n.Closed
    · rw [show [n].filter (·.Closed) = [] by simp [hC], List.append_nil] at hrec
      simp only [bM]
      exact hJ _ hrec
    · rw [show [n].filter (·.Closed) = [n] by simp [hC], List.length_append, List.length_singleton] at hrec
      simp only [cP,w64 (show -9223372036854775808 ≤ ((p.filter (·.Closed)).length : Int) + 1 by omega) (by omega)]
      exact hJ _ hrec
theorem endedC (hl : st.Nodes.length ≤ 1000) (he : st.Ended.length ≤ 1000) : jO st = some (endB st.Nodes st.Ended) :=
  endC hl he st.Nodes [] fuel rfl (gS (by omega))
theorem tailF (h : Ok34 st.Nodes) (he : st.Ended.length ≤ 1000) : (bno (bS st.Nodes st) fun x40 =>
      bif x40 then (some 6) else (
        bno (bR st.Nodes st) fun x42 =>
        bif x42 then (some 4) else (
          bno (jO st) fun x44 =>
          bif (!x44) then (some 9) else (some 0)))) = some (rB st st.Nodes.length):=by
  rw [lostC h,bnoS,roundC h,endedC h.ln he]
  unfold rB
  cases st.Nodes.any (sC st.Nodes)
  · rw [bM, bnoS]
    cases st.Nodes.any (mO st.Nodes st.Nodes.length)
    · rw [bM, bnoS]
      cases endB st.Nodes st.Ended <;> rfl
    · rfl
  · rfl
theorem ord_L (hl : st.Nodes.length ≤ 1000) (T : Int) (hT : ordN st.Nodes = true → (bno (bS st.Nodes st) fun x40 =>
      bif x40 then (some 6) else (
        bno (bR st.Nodes st) fun x42 =>
        bif x42 then (some 4) else (
          bno (jO st) fun x44 =>
          bif (!x44) then (some 9) else (some 0)))) = some T) : ∀ (r p : List Nd) (x : Nd) (f : Nat),st.Nodes = (p ++ [x]) ++ r → (ordB x r = true → ordN st.Nodes = true) → r.length < f → iS st f ((p ++ [x]).length : Int) = some (bif ordB x r then T else 10)
  | [], p, x, f + 1, hN, ho, _ => by
    rw [List.append_nil] at hN
    rw [iS]
    rw [← hN]
    simp only [bndD,jY,bM]
    exact hT (ho rfl)
  | n :: r, p, x, f + 1, hN, ho, hf => by
    have hpl : (p ++ [x]).length ≤ 1000:=by rw [hN] at hl; simp at hl ⊢; omega
    have e1 : ((p ++ [x]).length : Int) - 1 = (p.length : Int):=by rw [List.length_append,List.length_singleton]; omega
    have hg1 : gix st.Nodes (p.length : Int) = some x:=fN (l:=st.Nodes) (r:=n :: r) (by rw [hN,List.append_assoc]; rfl)
    rw [iS]
    simp only [bndD,lZ hN,cP,e1,w64 (show -9223372036854775808 ≤ (p.length : Int) by omega) (by rw [List.length_append] at hpl; omega),hg1,fN hN,bnoS,w_at hN (show st.Nodes.length ≤ 1000000 by omega)]
    by_cases h : x.ID < n.ID
    · have hrec := ord_L hl T hT r (p ++ [x]) n f (by rw [hN]; simp) (fun h2 => ho (by rw [vC, decide_eq_true h, h2]; rfl)) (by simpa using hf)
      rw [decide_eq_false (show ¬ n.ID ≤ x.ID by omega),bM,hrec]
      rw [vC,decide_eq_true h,Bool.true_and]
    · rw [decide_eq_true (show n.ID ≤ x.ID by omega), cP]
      rw [vC,decide_eq_false h]; rfl
theorem aAl (hl : st.Nodes.length ≤ 1000) (he : st.Ended.length ≤ 1000) (hp : ∀ n ∈ st.Nodes,I64 n.Parent) : kJ st = some (pJ st st.Nodes.length):=by
  have hL : st.Nodes.any mV = false → iS st fuel 1 = some (bif ordN st.Nodes then rB st st.Nodes.length else 10):=fun hw=>by
    have hok : ordN st.Nodes = true → Ok34 st.Nodes:=fun ho=>⟨hl,fun n hn=>by
      have:=List.any_eq_false.1 hw n hn
      unfold mV at this
      simp at this; omega,wG ho,hp⟩
    cases hN : st.Nodes with
    | nil =>
      obtain ⟨m,hm⟩ : ∃ m,fuel = m + 1:=⟨2 ^ 64 - 1,by show 2 ^ 64 = _; omega⟩
      have ht:=tailF (hok (by rw [hN]; rfl)) he
      rw [hN] at ht
      rw [hm,iS]
      rw [hN]
      simp only [bndD,List.length_nil,show decide ((1 : Int) < ((0 : Nat) : Int)) = false from rfl,bM]
      exact ht
    | cons x r =>
      have:=ord_L hl (rB st st.Nodes.length) (fun ho=>tailF (hok ho) he) r [] x fuel hN (fun h=>by rw [hN]; exact h) (gS (by rw [hN] at hl; simp at hl; omega))
      rw [hN] at this
      exact this
  unfold kJ pJ
  simp only [bndD]
  show bno (gd ((oR st) == false) _ _) _ = _
  cases hr : oR st
  · show bno (cE st.Nodes) _ = _
    rw [wrongC hl,bnoS]
    show (bif (oR st || _) then _ else _) = _
    rw [hr,Bool.false_or]
    cases hw : st.Nodes.any mV
    · rw [bM]
      cases hf : (decide (st.Room < (st.Nodes.length : Int)) || decide (st.Keep < (st.Ended.length : Int)))
      · rw [bM,hL hw]; rfl
      · rfl
    · rfl
  · show bno (some (default : Bool)) _ = _
    rw [bnoS]
    show (bif (oR st || _) then _ else _) = _
    rw [hr]; rfl
theorem num_L (hl : st.Nodes.length ≤ 1000) : ∀ (r p : List Nd) (f : Nat),st.Nodes = p ++ r → r.length < f → fB st f (p.length : Int) = some (!(r.any mV))
  | [], p, f + 1, hN, _ => by
    rw [List.append_nil] at hN
    rw [fB]
    simp only [bndD,hN,jY,bM]; rfl
  | n :: r, p, f + 1, hN, hf => by
    have hrec:=num_L hl r (p ++ [n]) f (jK hN) (by simpa using hf)
    rw [fB]
    simp only [bndD,lZ hN,cP,fN hN,bnoS,w_at hN (show st.Nodes.length ≤ 1000000 by omega),List.any_cons]
    show (bif mV n then _ else _) = _
    cases mV n
    · rw [bM,hrec,Bool.false_or]
    · rfl
theorem aAj (hl : st.Nodes.length ≤ 1000) (he : st.Ended.length ≤ 1000) : ∀ (r p : List Nd) (f : Nat), st.Nodes = p ++ r → r.length < f → dF st f ((p.filter (·.Closed)).length : Int) (p.length : Int) = some (r.all (qX st.Ended) && decide ((st.Nodes.filter (·.Closed)).length = st.Ended.length))
  | [], p, f + 1, hN, _ => by
    rw [List.append_nil] at hN
    rw [dF]
    simp only [bndD,hN,jY,bM,List.all_nil,Bool.true_and,aAe]
  | n :: r, p, f + 1, hN, hf => by
    have hpl : p.length ≤ 1000:=by rw [hN] at hl; simp at hl; omega
    have hfl:=List.length_filter_le (·.Closed) p
    have hrec:=aAj hl he r (p ++ [n]) f (jK hN) (by simpa using hf)
    have hcon:=in19 (l:=st.Ended) (x:=n.ID) (by omega)
    rw [List.filter_append] at hrec
    rw [dF]
    simp only [bndD,lZ hN,cP,fN hN,bnoS,List.all_cons]
    have hJ : ∀ v : Int,dF st f v ((p ++ [n]).length : Int) = some (r.all (qX st.Ended) && decide ((st.Nodes.filter (·.Closed)).length = st.Ended.length)) → gU st (p.length : Int) (dF st f) v = some ((qX st.Ended n && r.all (qX st.Ended)) && decide ((st.Nodes.filter (·.Closed)).length = st.Ended.length)):=fun v hv=>by
      unfold gU
      rw [fN hN,bnoS,bnoS,hcon,bnoS,bndD]
      show (bif !(qX st.Ended n) then _ else _) = _
      cases qX st.Ended n
      · rfl
      · simp only [Bool.not_true, bM, bndD, w_at hN (show st.Nodes.length ≤ 1000000 by omega), Bool.true_and]
        exact hv
    cases hC : n.Closed
    · rw [show [n].filter (·.Closed) = [] by simp [hC], List.append_nil] at hrec
      simp only [bM]
      exact hJ _ hrec
    · rw [show [n].filter (·.Closed) = [n] by simp [hC], List.length_append, List.length_singleton] at hrec
      simp only [cP,w64 (show -9223372036854775808 ≤ ((p.filter (·.Closed)).length : Int) + 1 by omega) (by omega)]
      exact hJ _ hrec
def tre (st : Fs) : T19:=⟨st.Room,st.Keep,st.Nodes,st.Ended⟩
theorem rnd_L (hl : st.Nodes.length ≤ 1000) (he : st.Ended.length ≤ 1000) (h0 : ∀ n ∈ st.Nodes,n.ID ≠ 0) : ∀ (r p : List Nd) (f : Nat),st.Nodes = p ++ r → r.length < f → fU st (tre st) f (p.length : Int) = some (bif r.any (mO st.Nodes (st.Nodes.length + 1)) then 4 else bif endB st.Nodes st.Ended then 0 else 9)
  | [], p, f + 1, hN, _ => by
    have hc : kX st = some (endB st.Nodes st.Ended):=aAj hl he st.Nodes [] fuel rfl (gS (by omega))
    rw [List.append_nil] at hN
    rw [fU]
    rw [← hN]
    simp only [bndD,jY,bM,hc,bnoS]
    cases endB st.Nodes st.Ended <;> rfl
  | n :: r, p, f + 1, hN, hf => by
    have hrec:=rnd_L hl he h0 r (p ++ [n]) f (jK hN) (by simpa using hf)
    have hlen:=qE st.Nodes (st.Nodes.length + 1) n.ID
    have hpa : gB (tre st) n.ID = some (fT st.Nodes (st.Nodes.length + 1) n.ID):=rpath (t:=tre st) hl h0 n.ID
    have hin:=in19 (l:=fT st.Nodes (st.Nodes.length + 1) n.ID) (x:=n.ID) (by omega)
    rw [fU]
    simp only [bndD,lZ hN,cP,fN hN,bnoS,hpa,hin,w_at hN (show st.Nodes.length ≤ 1000000 by omega),List.any_cons]
    show (bif mO st.Nodes (st.Nodes.length + 1) n then _ else _) = _
    cases mO st.Nodes (st.Nodes.length + 1) n
    · rw [bM,hrec,Bool.false_or]
    · rfl
theorem lst_L (hl : st.Nodes.length ≤ 1000) (he : st.Ended.length ≤ 1000) (h0 : ∀ n ∈ st.Nodes, n.ID ≠ 0) : ∀ (r p : List Nd) (f : Nat), st.Nodes = p ++ r → r.length < f → fV st (tre st) f (p.length : Int) = some (bif r.any (sC st.Nodes) then 6 else bif st.Nodes.any (mO st.Nodes (st.Nodes.length + 1)) then 4 else bif endB st.Nodes st.Ended then 0 else 9)
  | [], p, f + 1, hN, _ => by
    have hc:=rnd_L hl he h0 st.Nodes [] fuel rfl (gS (by omega))
    rw [List.append_nil] at hN
    rw [fV]
    rw [← hN]
    simp only [bndD,jY,bM]
    exact hc
  | n :: r, p, f + 1, hN, hf => by
    have hrec:=lst_L hl he h0 r (p ++ [n]) f (jK hN) (by simpa using hf)
    obtain ⟨i,hi,hp⟩:=sQ (t:=tre st) hl n.Parent
    have hb : (!decide (n.Parent = 0) && decide (i < 0)) = sC st.Nodes n:=by
      unfold sC
      congr 1
      cases hp with
      | yes A y C hA e _ =>
        have hA : st.Nodes = A ++ y :: C:=hA
        rw [qY.2 ⟨y,by rw [hA]; simp,e⟩,decide_eq_false (by omega)]; rfl
      | no hno =>
        have hf : (st.Nodes.any fun m=>decide (m.ID = n.Parent)) = false:=Bool.eq_false_iff.2 (fun hh=>by obtain ⟨m,hm,e⟩:=qY.1 hh; exact hno m hm e)
        rw [hf]; rfl
    rw [fV]
    simp only [bndD,lZ hN,cP,fN hN,bnoS,w_at hN (show st.Nodes.length ≤ 1000000 by omega),List.any_cons]
    rw [← hb]
    cases hz : decide (n.Parent = 0)
    · simp only [Bool.not_false, beq_self_eq_true, gdtt, bnoS, hi, Bool.true_and]
      cases hi2 : decide (i < 0)
      · rw [bM,hrec,Bool.false_or]
      · rfl
    · simp only [Bool.not_true, ft, gdff, bnoS, Bool.false_and, bM, Bool.false_or]
      by_cases hpl : (!decide ((default : Nd).Parent = 0)) = true <;> exact hrec
theorem aAW (hl : st.Nodes.length ≤ 1000) (he : st.Ended.length ≤ 1000) (h0 : ∀ n ∈ st.Nodes,n.ID ≠ 0) : ∀ (r p : List Nd) (x : Nd) (f : Nat),st.Nodes = (p ++ [x]) ++ r → r.length < f → eN st (tre st) f ((p ++ [x]).length : Int) = some (bif ordB x r then rB st (st.Nodes.length + 1) else 10)
  | [], p, x, f + 1, hN, _ => by
    have hc:=lst_L hl he h0 st.Nodes [] fuel rfl (gS (by omega))
    rw [List.append_nil] at hN
    rw [eN]
    rw [← hN]
    simp only [bndD,jY,bM]
    exact hc
  | n :: r, p, x, f + 1, hN, hf => by
    have hpl : (p ++ [x]).length ≤ 1000:=by rw [hN] at hl; simp at hl ⊢; omega
    have e1 : ((p ++ [x]).length : Int) - 1 = (p.length : Int):=by rw [List.length_append,List.length_singleton]; omega
    have hg1 : gix st.Nodes (p.length : Int) = some x:=fN (l:=st.Nodes) (r:=n :: r) (by rw [hN,List.append_assoc]; rfl)
    rw [eN]
    simp only [bndD,lZ hN,cP,e1,w64 (show -9223372036854775808 ≤ (p.length : Int) by omega) (by rw [List.length_append] at hpl; omega),hg1,fN hN,bnoS,w_at hN (show st.Nodes.length ≤ 1000000 by omega)]
    by_cases h : x.ID < n.ID
    · have hrec := aAW hl he h0 r (p ++ [x]) n f (by rw [hN]; simp) (by simpa using hf)
      rw [decide_eq_false (show ¬ n.ID ≤ x.ID by omega),bM,hrec]
      rw [vC,decide_eq_true h,Bool.true_and]
    · rw [decide_eq_true (show n.ID ≤ x.ID by omega), cP]
      rw [vC,decide_eq_false h]; rfl
theorem aAk (hl : st.Nodes.length ≤ 1000) (he : st.Ended.length ≤ 1000) : jG st = some (pJ st (st.Nodes.length + 1)):=by
  have hL : st.Nodes.any mV = false → eN st (tre st) fuel 1 = some (bif ordN st.Nodes then rB st (st.Nodes.length + 1) else 10):=fun hw=>by
    have h0 : ∀ n ∈ st.Nodes,n.ID ≠ 0:=fun n hn=>by
      have:=List.any_eq_false.1 hw n hn
      unfold mV at this
      simp at this; omega
    cases hN : st.Nodes with
    | nil =>
      obtain ⟨m,hm⟩ : ∃ m,fuel = m + 1:=⟨2 ^ 64 - 1,by show 2 ^ 64 = _; omega⟩
      have ht:=lst_L hl he h0 st.Nodes [] fuel rfl (gS (by omega))
      rw [hN] at ht
      rw [hm,eN]
      rw [hN]
      simp only [bndD,List.length_nil,show decide ((1 : Int) < ((0 : Nat) : Int)) = false from rfl,bM]
      unfold rB
      rw [hN]
      exact ht
    | cons x r =>
      have:=aAW hl he h0 r [] x fuel hN (gS (by rw [hN] at hl; simp at hl; omega))
      rw [hN] at this
      exact this
  have hnum : jJ st = some (!(oR st || st.Nodes.any mV)):=by
    unfold jJ
    simp only [bndD]
    show (bif oR st then _ else _) = _
    cases oR st
    · exact num_L hl st.Nodes [] fuel rfl (gS (by omega))
    · rfl
  unfold jG pJ
  show bno (some (tre st)) _ = _
  rw [bnoS,hnum,bnoS,Bool.not_not]
  cases hw : (oR st || st.Nodes.any mV)
  · rw [bM, bndD, bndD, bndD]
    cases hf : (decide (st.Room < (st.Nodes.length : Int)) || decide (st.Keep < (st.Ended.length : Int)))
    · rw [bM,hL (by rw [Bool.or_eq_false_iff] at hw; exact hw.2)]; rfl
    · rfl
  · rfl
end
end Go.Fn
open Go Go.IL
namespace Go.Fn
section
variable {N : List Nd}
theorem yY (hpa : ∀ n ∈ N, n.Parent = 0 ∨ ∃ m ∈ N, m.ID = n.Parent) : ∀ (k : Nat) (z x : Int), x ∈ fT N k z → ∃ m ∈ N, m.ID = x
  | 0,_,_,h=>(List.not_mem_nil h).elim
  | k + 1, z, x, h => by
    unfold fT at h
    cases hp : pB N z with
    | none=>rw [hp] at h; exact (List.not_mem_nil h).elim
    | some p =>
      rw [hp] at h
      obtain ⟨n,hn,e1,e2⟩:=uC hp
      by_cases hz : p = 0
      · simp only [hz,if_true] at h; exact (List.not_mem_nil h).elim
      · simp only [if_neg hz] at h
        rcases List.mem_cons.1 h with e | h
        · rw [e,← e2]; exact (hpa n hn).resolve_left (by rw [e2]; exact hz)
        · exact yY hpa k p x h
theorem xA (hs : N.Pairwise (fun a b => a.ID < b.ID)) (hpa : ∀ n ∈ N, n.Parent = 0 ∨ ∃ m ∈ N, m.ID = n.Parent) : ∀ (k : Nat) {z : Int}, (∃ n ∈ N, n.ID = z) → ¬ (z :: fT N k z).Nodup → ∃ n ∈ N, n.ID ∈ fT N k n.ID
  | 0,z,_,h=>absurd (List.nodup_cons.2 ⟨List.not_mem_nil,.nil⟩) h
  | k + 1, z, hz, h => by
    obtain ⟨n,hn,rfl⟩:=hz
    have e : fT N (k + 1) n.ID = if n.Parent = 0 then [] else n.Parent :: fT N k n.Parent:=by
      rw [fT,wZ hs hn]
    by_cases hp : n.Parent = 0
    · rw [e, if_pos hp] at h
      exact absurd (List.nodup_cons.2 ⟨List.not_mem_nil,.nil⟩) h
    · rw [if_neg hp] at e
      by_cases hm : n.ID ∈ fT N (k + 1) n.ID
      · exact ⟨n,hn,hm⟩
      · rw [List.nodup_cons] at h
        have h2 : ¬ (n.Parent :: fT N k n.Parent).Nodup:=fun hh=>h ⟨hm,by rw [e]; exact hh⟩
        obtain ⟨m,hm1,hm2⟩:=xA hs hpa k ((hpa n hn).resolve_left hp) h2
        exact ⟨m,hm1,sS k _ _ hm2⟩
theorem yV (hs : N.Pairwise (fun a b=>a.ID < b.ID)) (hpa : ∀ n ∈ N,n.Parent = 0 ∨ ∃ m ∈ N,m.ID = n.Parent) (hr : ∀ n ∈ N,n.ID ∉ fT N N.length n.ID) : ∃ r : Int → Nat,∀ n ∈ N,n.Parent ≠ 0 → r n.Parent < r n.ID:=by
  refine ⟨fun z=>(fT N N.length z).length,fun n hn hp=>?_⟩
  have hnd : (n.ID :: fT N N.length n.ID).Nodup:=Classical.byContradiction fun hh=>by
    obtain ⟨m,h1,h2⟩:=xA hs hpa N.length ⟨n,hn,rfl⟩ hh
    exact hr m h1 h2
  have hle:=qJ hnd (m:=N.map (·.ID)) (fun x hx=>by
    rcases List.mem_cons.1 hx with e | hx
    · exact List.mem_map.2 ⟨n,hn,e.symm⟩
    · obtain ⟨m, hm, e⟩ := yY hpa _ _ _ hx
      exact List.mem_map.2 ⟨m,hm,e⟩)
  rw [List.length_cons,List.length_map] at hle
  have h1:=sR (N:=N) N.length n.ID (by omega)
  have h2 : fT N (N.length + 1) n.ID = n.Parent :: fT N N.length n.Parent:=by
    rw [fT,wZ hs hn]
    exact if_neg hp
  have h3 : (fT N N.length n.ID).length = (fT N N.length n.Parent).length + 1:=by rw [← h1,h2]; rfl
  show (fT N N.length n.Parent).length < (fT N N.length n.ID).length
  omega
theorem aAB (hs : N.Pairwise (fun a b=>a.ID < b.ID)) (hpa : ∀ n ∈ N,n.Parent = 0 ∨ ∃ m ∈ N,m.ID = n.Parent) : N.any (mO N N.length) = N.any (mO N (N.length + 1)):=by
  cases h : N.any (mO N N.length)
  · have hr : ∀ n ∈ N, n.ID ∉ fT N N.length n.ID := fun n hn hm => by
      have:=List.any_eq_false.1 h n hn
      unfold mO at this
      simp only [decide_eq_true_iff] at this
      exact this hm
    obtain ⟨r,hrk⟩:=yV hs hpa hr
    symm
    rw [List.any_eq_false]
    intro n hn
    unfold mO
    rw [sT hs hrk hpa ⟨n,hn,rfl⟩ 1]
    simp only [decide_eq_true_iff]
    exact hr n hn
  · symm
    obtain ⟨n,hn,e⟩:=List.any_eq_true.1 h
    unfold mO at e
    exact List.any_eq_true.2 ⟨n,hn,by unfold mO; exact decide_eq_true (sS _ _ _ (of_decide_eq_true e))⟩
theorem zD (h : N.any (sC N) = false) : ∀ n ∈ N,n.Parent = 0 ∨ ∃ m ∈ N,m.ID = n.Parent:=fun n hn=>by
  have:=List.any_eq_false.1 h n hn
  unfold sC at this
  by_cases hz : n.Parent = 0
  · exact .inl hz
  · right
    rw [decide_eq_false hz,Bool.not_false,Bool.true_and] at this
    cases hh : N.any fun m=>decide (m.ID = n.Parent)
    · rw [hh] at this; exact absurd rfl this
    · exact qY.1 hh
theorem yK : ∀ {l m : List Int},l.Nodup → (∀ x ∈ l,x ∈ m) → m.length ≤ l.length → m.Nodup ∧ ∀ x ∈ m,x ∈ l
  | [], m, _, _, h => by
    have : m = []:=List.length_eq_zero_iff.1 (Nat.le_zero.1 h)
    subst this; exact ⟨.nil,fun _ h=>h⟩
  | x :: l, m, hn, hs, h => by
    obtain ⟨h1,h2⟩:=List.nodup_cons.1 hn
    have hx:=hs x (by simp)
    have hle:=List.length_erase_of_mem hx
    have hp : 0 < m.length:=List.length_pos_of_mem hx
    rw [List.length_cons] at h
    obtain ⟨h3,h4⟩:=yK (l:=l) (m:=m.erase x) h2 (fun y hy=>by
      have hne : y ≠ x:=fun e=>h1 (e ▸ hy)
      exact (List.mem_erase_of_ne hne).2 (hs y (by simp [hy]))) (by omega)
    have hperm:=List.perm_cons_erase hx
    refine ⟨hperm.nodup_iff.2 (List.nodup_cons.2 ⟨fun hh=>h1 (h4 x hh),h3⟩),fun y hy=>?_⟩
    rcases List.mem_cons.1 (hperm.mem_iff.1 hy) with e | hy
    · rw [e]; simp
    · exact List.mem_cons_of_mem _ (h4 y hy)
end
structure GV (st : Fs) : Prop where
  rm : 1 ≤ st.Room ∧ st.Room ≤ 24
  kp : 0 ≤ st.Keep ∧ st.Keep ≤ st.Room
  ln : (st.Nodes.length : Int) ≤ st.Room
  el : (st.Ended.length : Int) ≤ st.Keep
  fv : FV 24 ⟨24,24,st.Nodes,st.Ended⟩
theorem vV (st : Fs) : pJ st (st.Nodes.length + 1) = pJ st st.Nodes.length := by
  unfold pJ
  cases h1 : (oR st || st.Nodes.any mV)
  · cases h2 : (decide (st.Room < (st.Nodes.length : Int)) || decide (st.Keep < (st.Ended.length : Int)))
    · cases h3 : ordN st.Nodes
      · rfl
      · show rB st (st.Nodes.length + 1) = rB st st.Nodes.length
        unfold rB
        cases h4 : st.Nodes.any (sC st.Nodes)
        · rw [aAB (wG h3) (zD h4)]
        · rfl
    · rfl
  · rfl
theorem aAP {st : Fs} (h : pJ st st.Nodes.length = 0) : GV st := by
  unfold pJ at h
  cases h1 : (oR st || st.Nodes.any mV)
  · rw [h1] at h
    cases h2 : (decide (st.Room < (st.Nodes.length : Int)) || decide (st.Keep < (st.Ended.length : Int)))
    · rw [h2] at h
      cases h3 : ordN st.Nodes
      · rw [h3] at h; cases h
      · rw [h3] at h
        have h : rB st st.Nodes.length = 0:=h
        unfold rB at h
        cases h4 : st.Nodes.any (sC st.Nodes)
        · rw [h4] at h
          cases h5 : st.Nodes.any (mO st.Nodes st.Nodes.length)
          · rw [h5] at h
            cases h6 : endB st.Nodes st.Ended
            · rw [h6] at h; cases h
            · rw [Bool.or_eq_false_iff] at h1 h2
              have hs:=wG h3
              have hpa:=zD h4
              have hra : ∀ n ∈ st.Nodes,(1 ≤ n.ID ∧ n.ID ≤ 1048576) ∧ 1 ≤ n.Weight ∧ n.Weight ≤ 256:=fun n hn=>by
                have:=List.any_eq_false.1 h1.2 n hn
                unfold mV at this
                simp at this; omega
              have hrk:=yV hs hpa (fun n hn hm=>by
                have:=List.any_eq_false.1 h5 n hn
                unfold mO at this
                simp only [decide_eq_true_iff] at this
                exact this hm)
              have hrg:=h1.1
              unfold oR at hrg
              simp only [Bool.or_eq_false_iff,decide_eq_false_iff_not] at hrg h2
              unfold endB at h6
              rw [Bool.and_eq_true,decide_eq_true_iff] at h6
              have hen : ∀ n ∈ st.Nodes,(n.Closed = true ↔ n.ID ∈ st.Ended):=fun n hn=>by
                have:=List.all_eq_true.1 h6.1 n hn
                unfold qX at this
                rw [beq_iff_eq] at this
                rw [this,decide_eq_true_iff]
              have hnd : ((st.Nodes.filter (·.Closed)).map (·.ID)).Nodup:=qR (List.Pairwise.sublist List.filter_sublist hs)
              obtain ⟨g1,g2⟩:=yK hnd (m:=st.Ended) (fun x hx=>by
                obtain ⟨n,hn,rfl⟩:=List.mem_map.1 hx
                obtain ⟨hn,hc⟩:=List.mem_filter.1 hn
                exact (hen n hn).1 hc) (by rw [List.length_map]; exact Nat.le_of_eq h6.2.symm)
              refine ⟨by omega,by omega,by omega,by omega,⟨rfl,⟨rfl,by decide,by decide⟩,by show st.Nodes.length ≤ 24; omega,by show (st.Ended.length : Int) ≤ 24; omega,hs,hra,hpa,hrk,hen,g1,fun e he=>?_⟩⟩
              obtain ⟨n,hn,e2⟩:=List.mem_map.1 (g2 e he)
              exact ⟨n,(List.mem_filter.1 hn).1,e2⟩
          · rw [h5] at h; cases h
        · rw [h4] at h; cases h
    · rw [h2] at h; cases h
  · rw [h1] at h; cases h
end Go.Fn
open Go Go.IL
namespace Go.Fn
def sel (h : Nd → Nd) (ks : List Int) (n : Nd) : Nd:=if n.ID ∈ ks then h n else n
theorem wX {h : Nd → Nd} (hid : ∀ n,(h n).ID = n.ID) (ks : List Int) (n : Nd) : (sel h ks n).ID = n.ID:=by unfold sel; split; exact hid n; rfl
theorem sN {h : Nd → Nd} (N : List Nd) : N.map (sel h []) = N:=by
  conv=>rhs; rw [← List.map_id N]
  exact List.map_congr_left (fun n _=>by unfold sel; simp)
section
variable {N : List Nd} {R K : Int} {E : List Int}
theorem qB {h : Nd → Nd} (hid : ∀ n,(h n).ID = n.ID) (hs : N.Pairwise (fun a b=>a.ID < b.ID)) (hl : N.length ≤ 1000) {y : Nd} (hy : y ∈ N) {pre : List Int} (hp : y.ID ∉ pre) :
    ∃ A C,N.map (sel h pre) = A ++ y :: C ∧ bK ⟨R,K,N.map (sel h pre),E⟩ y.ID = some (A.length : Int) ∧ ∀ z : Nd,z.ID = y.ID → z = h y → dG ⟨R,K,N.map (sel h pre),E⟩ z = some ⟨R,K,N.map (sel h (pre ++ [y.ID])),E⟩:=by
  obtain ⟨A,C,hN⟩:=List.append_of_mem hy
  have hs2:=hs
  rw [hN] at hs2
  obtain ⟨hA,hC⟩:=pK hs2
  have hys : sel h pre y = y:=by unfold sel; rw [if_neg hp]
  have hsame : ∀ n,n.ID ≠ y.ID → sel h (pre ++ [y.ID]) n = sel h pre n:=fun n hn=>by
    unfold sel
    have : n.ID ∈ pre ++ [y.ID] ↔ n.ID ∈ pre:=by simp [hn]
    simp only [this]
  have h1 : N.map (sel h pre) = A.map (sel h pre) ++ y :: C.map (sel h pre):=by
    rw [hN,List.map_append,List.map_cons,hys]
  have h2 : N.map (sel h (pre ++ [y.ID])) = A.map (sel h pre) ++ h y :: C.map (sel h pre):=by
    rw [hN,List.map_append,List.map_cons,List.map_congr_left (fun n hn=>hsame n (hA n hn)),List.map_congr_left (fun n hn=>hsame n (hC n hn))]
    congr 2
    unfold sel
    rw [if_pos (by simp)]
  have hA2 : ∀ a ∈ A.map (sel h pre),a.ID ≠ y.ID:=fun a ha=>by
    obtain ⟨n,hn,e⟩:=List.mem_map.1 ha
    rw [← e,wX hid]
    exact hA n hn
  have hl2 : (⟨R,K,N.map (sel h pre),E⟩ : T19).L.length ≤ 1000:=by show (N.map (sel h pre)).length ≤ 1000; rw [List.length_map]; exact hl
  refine ⟨_,_,h1,uZ hl2 h1 rfl hA2,fun z hz1 hz2=>?_⟩
  rw [aAT hl2 h1 hz1.symm (fun a ha=>by rw [hz1]; exact hA2 a ha),h2,hz2]
end
def wS : List Nd → Int
  | []=>0
  | n :: r=>n.Weight + wS r
theorem aAU : ∀ a b : List Nd,wS (a ++ b) = wS a + wS b
  | [],b=>by show wS b = 0 + wS b; omega
  | n :: a, b => by
    have:=aAU a b
    show n.Weight + wS (a ++ b) = n.Weight + wS a + wS b
    omega
theorem yI (id : Int) : ∀ N : List Nd,wS (N.filter fun n=>decide (n.Parent = id)) = sumS N id
  | []=>rfl
  | n :: N => by
    have:=yI id N
    have e : sumS (n :: N) id = (if n.Parent = id then n.Weight else 0) + sumS N id:=rfl
    rw [e]
    by_cases h : n.Parent = id
    · rw [List.filter_cons_of_pos (by simp [h]), if_pos h]
      show n.Weight + wS _ = _
      rw [this]
    · rw [List.filter_cons_of_neg (by simp [h]),if_neg h,this]; omega
theorem wS_bd : ∀ {M : List Nd},(∀ n ∈ M,1 ≤ n.Weight ∧ n.Weight ≤ 256) → 0 ≤ wS M ∧ wS M ≤ 256 * M.length
  | [],_=>⟨Int.le_refl _,Int.le_refl _⟩
  | n :: M, h => by
    have h1:=wS_bd (M:=M) (fun x hx=>h x (by simp [hx]))
    have h2:=h n (by simp)
    show 0 ≤ n.Weight + wS M ∧ n.Weight + wS M ≤ 256 * ((M.length + 1 : Nat) : Int)
    omega
section
variable {N : List Nd} {R K : Int} {E : List Int}
theorem xE {M p r : List Nd} {n : Nd} (h : M = p ++ n :: r) : M.map (·.ID) = p.map (·.ID) ++ n.ID :: r.map (·.ID):=by rw [h]; simp
theorem yQ (hs : N.Pairwise (fun a b=>a.ID < b.ID)) (hl : N.length ≤ 1000) (hw : ∀ n ∈ N,1 ≤ n.Weight ∧ n.Weight ≤ 256) {id : Int} {x2 : Nd} {M : List Nd} (hM : ∀ n ∈ M,n ∈ N) (hml : M.length ≤ 1000) {res : Option T19} (hres : eG id x2 (M.map (·.ID)) (wS M) fuel 0 R K N E = res) : ∀ (r p : List Nd) (f : Nat),M = p ++ r → r.length < f → eS ⟨R,K,N,E⟩ id x2 (M.map (·.ID)) f (wS p) (p.length : Int) = res
  | [], p, f + 1, h, _ => by
    rw [List.append_nil] at h
    subst h
    rw [eS]
    have : decide ((M.length : Int) < ((M.map (·.ID)).length : Int)) = false:=by rw [List.length_map]; exact jY
    simp only [bndD,this,bM]
    exact hres
  | n :: r, p, f + 1, h, hf => by
    have hrec:=yQ hs hl hw hM hml hres r (p ++ [n]) f (jK h) (by simpa using hf)
    have hn:=hM n (by rw [h]; simp)
    have hwn:=hw n hn
    have hpb:=wS_bd (M:=p) (fun x hx=>hw x (hM x (by rw [h]; simp [hx])))
    have hpl : p.length ≤ 1000:=by rw [h] at hml; simp at hml; omega
    have hmp:=xE h
    have hlen : (p.map (·.ID)).length = p.length:=List.length_map ..
    obtain ⟨A,C,hA,hpl2,_⟩:=qB (h:=fun n=>n) (fun _=>rfl) hs hl (R:=R) (K:=K) (E:=E) hn (pre:=[]) List.not_mem_nil
    rw [sN] at hA hpl2
    have h1:=lZ hmp
    have h2:=fN hmp
    have h3:=w_at hmp (by rw [List.length_map]; omega)
    rw [hlen] at h1 h2 h3
    rw [List.length_append,hlen,← hlen,← List.length_append] at h3
    have h3 : IntKind.wrap .i64 ((p.length : Int) + 1) = ((p ++ [n]).length : Int):=w_at h (by omega)
    rw [aAU,show wS [n] = n.Weight + 0 from rfl,Int.add_zero] at hrec
    rw [eS]
    simp only [bndD,h1,cP,h2,bnoS,hpl2,fN hA,w64 (show -9223372036854775808 ≤ wS p + n.Weight by omega) (by omega),h3]
    exact hrec
theorem yO {id : Int} (hl : N.length ≤ 1000) (he : E.length ≤ 1000) : ∀ (r p : List Nd) (f : Nat),N = p ++ r → r.length < f → eF id R K N E f (p.filter fun n=>!decide (n.ID = id)) (p.length : Int) = some ⟨R,K,N.filter fun n=>!decide (n.ID = id),E.filter fun y=>!decide (y = id)⟩
  | [], p, f + 1, h, _ => by
    rw [List.append_nil] at h
    rw [eF]
    simp only [bndD,h,jY,bM,wo19 he,bnoS]
  | n :: r, p, f + 1, h, hf => by
    have hr:=yO (id:=id) hl he r (p ++ [n]) f (jK h) (by simpa using hf)
    have hk : (p.filter fun n=>!decide (n.ID = id)).length ≤ 1000:=by
      have:=List.length_filter_le (fun n : Nd=>!decide (n.ID = id)) p
      rw [h] at hl; simp at hl; omega
    rw [List.filter_append] at hr
    rw [eF]
    simp only [bndD,lZ h,cP,fN h,bnoS,w_at h (show N.length ≤ 1000000 by omega)]
    by_cases e : n.ID = id
    · rw [show [n].filter (fun n : Nd => !decide (n.ID = id)) = [] by simp [e], List.append_nil] at hr
      rw [decide_eq_true e]
      exact hr
    · rw [show [n].filter (fun n : Nd => !decide (n.ID = id)) = [n] by simp [e]] at hr
      rw [decide_eq_false e]
      show bno (app 32 (p.filter fun n=>!decide (n.ID = id)) [n]) _ = _
      rw [mJ (by rw [List.length_singleton]; omega) (by rw [List.length_singleton]; omega),bnoS]
      exact hr
def goN (y : Nd) (S : Int) (n : Nd) : Nd:=⟨n.ID,y.Parent,max 1 (y.Weight * n.Weight / S),n.Closed⟩
theorem yP (hs : N.Pairwise (fun a b=>a.ID < b.ID)) (hl : N.length ≤ 1000) (he : E.length ≤ 1000) (hw : ∀ n ∈ N,1 ≤ n.Weight ∧ n.Weight ≤ 256) {id : Int} {y : Nd} (hy : 1 ≤ y.Weight ∧ y.Weight ≤ 256) {M : List Nd} (hM : ∀ n ∈ M,n ∈ N) (hml : M.length ≤ 1000) {S : Int} (hS : ∀ n ∈ M,n.Weight ≤ S) (hnd : (M.map (·.ID)).Nodup) : ∀ (r p : List Nd) (f : Nat),M = p ++ r → r.length < f → eG id y (M.map (·.ID)) S f (p.length : Int) R K (N.map (sel (goN y S) (p.map (·.ID)))) E = some ⟨R,K,(N.map (sel (goN y S) (M.map (·.ID)))).filter fun n=>!decide (n.ID = id),E.filter fun y=>!decide (y = id)⟩
  | [], p, f + 1, h, _ => by
    rw [List.append_nil] at h
    subst h
    rw [eG]
    have : decide ((M.length : Int) < ((M.map (·.ID)).length : Int)) = false:=by rw [List.length_map]; exact jY
    simp only [bndD,this,bM]
    exact yO (by rw [List.length_map]; exact hl) he _ [] fuel rfl (gS (by rw [List.length_map]; omega))
  | n :: r, p, f + 1, h, hf => by
    have hrec:=yP hs hl he hw (id:=id) hy hM hml hS hnd r (p ++ [n]) f (jK h) (by simpa using hf)
    have hnM : n ∈ M:=by rw [h]; simp
    have hn:=hM n hnM
    have hwn:=hw n hn
    have hSn:=hS n hnM
    have hmp:=xE h
    have hlen : (p.map (·.ID)).length = p.length:=List.length_map ..
    have hnp : n.ID ∉ p.map (·.ID):=fun hh=>by
      rw [hmp] at hnd
      exact (List.nodup_append.1 hnd).2.2 n.ID hh n.ID (by simp) rfl
    obtain ⟨A,C,hA,hpl2,hwith⟩:=qB (h:=goN y S) (fun _=>rfl) hs hl (R:=R) (K:=K) (E:=E) hn hnp
    have h1:=lZ hmp
    have h2:=fN hmp
    rw [hlen] at h1 h2
    have h3 : IntKind.wrap .i64 ((p.length : Int) + 1) = ((p ++ [n]).length : Int):=w_at h (by omega)
    have g1 : 1 ≤ y.Weight * n.Weight:=by
      have:=Int.mul_le_mul hy.1 hwn.1 (by decide) (by omega)
      simpa using this
    have g2 : y.Weight * n.Weight ≤ 65536:=by
      have:=Int.mul_le_mul hy.2 hwn.2 (by omega) (by decide)
      simpa using this
    have hd0 : 0 ≤ y.Weight * n.Weight / S:=Int.ediv_nonneg (by omega) (by omega)
    have hd1 : y.Weight * n.Weight / S ≤ y.Weight * n.Weight:=Int.ediv_le_self _ (by omega)
    have hquo : quoI .i64 (y.Weight * n.Weight) S = some (y.Weight * n.Weight / S):=by
      unfold quoI
      rw [if_neg (by omega),Int.tdiv_eq_ediv_of_nonneg (by omega),w64 (by omega) (by omega)]
    have hwi:=hwith ⟨n.ID,y.Parent,max 1 (y.Weight * n.Weight / S),n.Closed⟩ rfl rfl
    rw [List.map_append,show [n].map (·.ID) = [n.ID] from rfl] at hrec
    rw [eG]
    simp only [bndD,h1,cP,h2,bnoS,hpl2,fN hA,w64 (show -9223372036854775808 ≤ y.Weight * n.Weight by omega) (by omega),hquo,hwi,h3]
    exact hrec
theorem roff19 (hs : N.Pairwise (fun a b => a.ID < b.ID)) (hl : N.length ≤ 1000) (he : E.length ≤ 1000) (hw : ∀ n ∈ N, 1 ≤ n.Weight ∧ n.Weight ≤ 256) {A C : List Nd} {y : Nd} (hN : N = A ++ y :: C) (hp : y.Parent ≠ y.ID) : eB ⟨R, K, N, E⟩ y.ID = some ⟨R, K, offS A y C, E.filter fun e => !decide (e = y.ID)⟩ := by
  have hy : y ∈ N:=by rw [hN]; simp
  have hs2:=hs
  rw [hN] at hs2
  obtain ⟨hA,hC⟩:=pK hs2
  have hM : ∀ n ∈ N.filter (fun n=>decide (n.Parent = y.ID)),n ∈ N:=fun n hn=>(List.mem_filter.1 hn).1
  have hml : (N.filter fun n=>decide (n.Parent = y.ID)).length ≤ 1000:=by
    have:=List.length_filter_le (fun n : Nd=>decide (n.Parent = y.ID)) N
    omega
  have hsum : sumS N y.ID = sumS (A ++ C) y.ID:=by
    rw [hN,tW,tW]
    have e : sumS (y :: C) y.ID = (if y.Parent = y.ID then y.Weight else 0) + sumS C y.ID:=rfl
    rw [e,if_neg hp]; omega
  have hS : ∀ n ∈ N.filter (fun n=>decide (n.Parent = y.ID)),n.Weight ≤ sumS (A ++ C) y.ID:=fun n hn=>by
    obtain ⟨h1,h2⟩:=List.mem_filter.1 hn
    have h2 : n.Parent = y.ID:=of_decide_eq_true h2
    have:=wV hw h1
    rw [h2,hsum] at this
    exact this
  have hnd:=qR (List.Pairwise.sublist (List.filter_sublist (p:=fun n=>decide (n.Parent = y.ID))) hs)
  have h1:=yP (R:=R) (K:=K) hs hl he hw (id:=y.ID) (hw y hy) hM hml hS hnd (N.filter fun n=>decide (n.Parent = y.ID)) [] fuel rfl (gS (by omega))
  rw [show List.map (fun x : Nd=>x.ID) [] = [] from rfl,sN] at h1
  have hwk:=yI y.ID N
  rw [hsum] at hwk
  rw [← hwk] at h1
  have h0:=yQ (R:=R) (K:=K) (E:=E) hs hl hw hM hml h1 (N.filter fun n=>decide (n.Parent = y.ID)) [] fuel rfl (gS (by omega))
  have hfin : (N.map (sel (goN y (wS (N.filter fun n=>decide (n.Parent = y.ID)))) ((N.filter fun n=>decide (n.Parent = y.ID)).map (·.ID)))).filter (fun n=>!decide (n.ID = y.ID)) = offS A y C:=by
    rw [hwk]
    generalize hg : sel (goN y (sumS (A ++ C) y.ID)) ((N.filter fun n=>decide (n.Parent = y.ID)).map (·.ID)) = g
    have hgid : ∀ n,(g n).ID = n.ID:=fun n=>by rw [← hg]; exact wX (h:=goN y (sumS (A ++ C) y.ID)) (fun _=>rfl) _ n
    have hgo : ∀ n ∈ N,g n = offN y (sumS (A ++ C) y.ID) n:=fun n hn=>by
      rw [← hg]
      unfold sel offN goN
      have : n.ID ∈ (N.filter fun n=>decide (n.Parent = y.ID)).map (·.ID) ↔ n.Parent = y.ID:=by
        constructor
        · intro hh
          obtain ⟨m,hm,e⟩:=List.mem_map.1 hh
          obtain ⟨hm1,hm2⟩:=List.mem_filter.1 hm
          have : m = n:=uT hs hm1 hn e
          rw [← this]; exact of_decide_eq_true hm2
        · intro hh
          exact List.mem_map.2 ⟨n,List.mem_filter.2 ⟨hn,decide_eq_true hh⟩,rfl⟩
      simp only [this,Int.max_comm]
    have hkeep : ∀ B : List Nd,(∀ b ∈ B,b ∈ N) → (∀ b ∈ B,b.ID ≠ y.ID) → (B.map g).filter (fun n=>!decide (n.ID = y.ID)) = B.map (offN y (sumS (A ++ C) y.ID)):=fun B hB hne=>by
      rw [List.map_congr_left (fun b hb=>hgo b (hB b hb))]
      refine List.filter_eq_self.2 (fun n hn=>?_)
      obtain ⟨b,hb,e⟩:=List.mem_map.1 hn
      rw [← e,pX,decide_eq_false (hne b hb)]; rfl
    unfold offS
    conv=>lhs; rw [hN]
    rw [List.map_append,List.map_cons,List.filter_append,List.filter_cons_of_neg (by rw [hgid]; simp),hkeep A (fun b hb=>by rw [hN]; simp [hb]) hA,hkeep C (fun b hb=>by rw [hN]; simp [hb]) hC,List.map_append]
  rw [hfin] at h0
  unfold eB
  rw [uZ (t:=⟨R,K,N,E⟩) hl hN rfl hA,bnoS]
  show bno (gix N (A.length : Int)) _ = _
  rw [fN hN,bnoS,aAg (t:=⟨R,K,N,E⟩) hl,bnoS]
  exact h0
end
end Go.Fn
open Go Go.IL
namespace Go.Fn
def zN (N : List Nd) (x d w : Int) (o b : Bool) (p : Int) : List Nd:=bif b then (N.map (mvN d p)).map (mF x d w o) else N.map (mF x d w o)
section
variable {N : List Nd} {R K : Int} {E : List Int}
theorem mv_so (hs : N.Pairwise (fun a b=>a.ID < b.ID)) (d p : Int) : (N.map (mvN d p)).Pairwise (fun a b=>a.ID < b.ID):=by
  rw [List.pairwise_map]
  exact hs.imp (fun hab=>by rw [xD,xD]; exact hab)
theorem hangE (h : Ok34 N) {op : Fo} (h64 : I64 op.Dep) {A C : List Nd} {y : Nd} (hN : N = A ++ y :: C) (hyx : y.ID = op.ID) {d w : Int} {o : Bool} (hd : (op.Dep = 0 ∨ ∃ n ∈ N, n.ID = op.Dep) ∧ d = op.Dep ∧ w = op.Weight ∧ o = op.Only ∨ (op.Dep ≠ 0 ∧ ∀ n ∈ N, n.ID ≠ op.Dep) ∧ d = 0 ∧ w = 16 ∧ o = false) :
    iO R K op N E = some (R,K,zN N op.ID d w o (decide (op.ID ∈ fT N N.length d)) y.Parent,E):=by
  have hln:=h.ln
  have hs:=h.so
  have hs2:=hs
  rw [hN] at hs2
  obtain ⟨hA,hC⟩:=pK hs2
  have hy : y ∈ N:=by rw [hN]; simp
  have hyr:=h.ra y hy
  obtain ⟨A',y',C',hN',hyx',hfy'⟩:=wQ (R:=R) (K:=K) (E:=E) h (id:=op.ID) ⟨y,hy,hyx⟩
  have e1 : y' = y:=uT hs (by rw [hN']; simp) hy (hyx'.trans hyx.symm)
  subst e1
  have hn0 : ∀ n ∈ N,n.ID ≠ 0:=fun n hn=>by have:=h.ra n hn; omega
  have hp0 : fT N N.length 0 = []:=by
    cases N.length with
    | zero=>rfl
    | succ k=>unfold fT; rw [tN hn0]
  obtain ⟨q,hq1,hq2⟩:=tB (R:=R) (K:=K) (E:=E) h (id:=op.Dep) h64
  unfold iO
  rw [hq1,bnoS,bndD,bndD]
  cases hq2 with
  | no p hp hno _ =>
    rcases hd with ⟨hd1,rfl,rfl,rfl⟩ | ⟨hd1,rfl,rfl,rfl⟩
    · have h0 : op.Dep = 0 := hd1.resolve_right (fun ⟨n, hn, e⟩ => hno n hn e)
      have e : ((!false) && !decide (op.Dep = 0)) = false:=by rw [decide_eq_true h0]; rfl
      show (bif ((!false) && !decide (op.Dep = 0)) then _ else _) = _
      rw [e,bM]
      unfold gK
      rw [hfy',bnoS]
      show (bif false then _ else _) = _
      rw [bM,bndD,h0,hp0]
      have:=sI (R:=R) (K:=K) (op:=op) (E:=E) (v6:=op.Dep) (v7:=op.Weight) (v8:=op.Only) hN' hs hln hyx'
      rw [h0] at this
      exact this
    · have e : ((!false) && !decide (op.Dep = 0)) = true := by rw [decide_eq_false hd1.1]; rfl
      show (bif ((!false) && !decide (op.Dep = 0)) then _ else _) = _
      rw [e,cP]
      unfold gK
      rw [hfy',bnoS]
      show (bif false then _ else _) = _
      rw [bM,bndD,hp0]
      exact sI (R:=R) (K:=K) (op:=op) (E:=E) (v6:=0) (v7:=16) (v8:=false) hN' hs hln hyx'
  | yes B k D hB hk _ _ =>
    have hkm : k ∈ N:=by rw [hB]; simp
    rcases hd with ⟨hd1,rfl,rfl,rfl⟩ | ⟨hd1,rfl,rfl,rfl⟩
    · have hpl := qE N N.length op.Dep
      have hmem:=cint (l:=fT N N.length op.Dep) (x:=op.ID) (by omega)
      have hp34:=path34b (a0:=R) (a1:=K) (E:=E) h (id:=op.Dep) h64
      have e0 : ((!true) && !decide (op.Dep = 0)) = false:=rfl
      show (bif ((!true) && !decide (op.Dep = 0)) then _ else _) = _
      rw [e0,bM]
      unfold gK
      rw [hfy',bnoS]
      show (bif true then _ else _) = _
      rw [cP,hp34,bnoS,hmem,bnoS,bndD]
      show (bif decide (op.ID ∈ fT N N.length op.Dep) then _ else _) = _
      cases decide (op.ID ∈ fT N N.length op.Dep)
      · rw [bM]
        exact sI hN' hs hln hyx'
      · have hs3 := hs
        rw [hB] at hs3
        have hset : N.set ((B.length : Nat) : Int).toNat (⟨k.ID,y'.Parent,k.Weight,k.Closed⟩ : Nd) = N.map (mvN k.ID y'.Parent):=by
          conv=>lhs; rw [hB]
          rw [rC,← map_mv hs3,← hB]
        have hN1 : N.map (mvN k.ID y'.Parent) = A'.map (mvN k.ID y'.Parent) ++ mvN k.ID y'.Parent y' :: C'.map (mvN k.ID y'.Parent):=by
          conv=>lhs; rw [hN']
          rw [List.map_append,List.map_cons]
        have hend:=sI (R:=R) (K:=K) (op:=op) (E:=E) (v6:=op.Dep) (v7:=op.Weight) (v8:=op.Only) hN1 (mv_so hs _ _) (by rw [List.length_map]; exact hln) ((xD _ _ _).trans hyx')
        rw [List.length_map] at hend
        rw [cP,fN hN',bnoS,oP hN',bnoS,fN hB,bnoS]
        show bno (N[((B.length : Nat) : Int).toNat]?) _ = _
        rw [oP hB,bnoS,bndD]
        show gJ R K op E op.Dep op.Weight op.Only ((A'.length : Int),true) (N.set ((B.length : Nat) : Int).toNat (⟨k.ID,y'.Parent,k.Weight,k.Closed⟩ : Nd)) = _
        rw [hset,hend,hk]; rfl
    · exact absurd hk (hd1.2 k hkm)
def tkN (x : Int) (n : Nd) : Nd:=⟨n.ID,x,n.Weight,n.Closed⟩
def atN (d w : Int) (n : Nd) : Nd:=⟨n.ID,d,w,n.Closed⟩
theorem yW (hs : N.Pairwise (fun a b=>a.ID < b.ID)) (hl : N.length ≤ 1000) {x d w : Int} {y z : Nd} (hz : z ∈ N) (hzx : z.ID = x) (hyx : y.ID = x) (hc : y.Closed = z.Closed) : dG ⟨R,K,N,E⟩ (⟨y.ID,d,w,y.Closed⟩ : Nd) = some ⟨R,K,N.map (sel (atN d w) [x]),E⟩:=by
  obtain ⟨A,C,hA,_,hwi⟩:=qB (h:=atN d w) (fun _=>rfl) hs hl (R:=R) (K:=K) (E:=E) hz (pre:=[]) List.not_mem_nil
  rw [sN] at hwi
  have:=hwi ⟨y.ID,d,w,y.Closed⟩ (hyx.trans hzx.symm) (by show _ = (⟨z.ID,d,w,z.Closed⟩ : Nd); rw [hyx,hzx,hc])
  rw [this,List.nil_append,hzx]
theorem aAY (hs : N.Pairwise (fun a b=>a.ID < b.ID)) (hl : N.length ≤ 1000) {x d w : Int} {o : Bool} {y z : Nd} (hz : z ∈ N) (hzx : z.ID = x) (hyx : y.ID = x) (hc : y.Closed = z.Closed) {M : List Nd} (hM : ∀ n ∈ M,n ∈ N) (hml : M.length ≤ 1000) (hnd : (M.map (·.ID)).Nodup) (hxm : x ∉ M.map (·.ID)) (ho : o = true) : ∀ (r p : List Nd) (f : Nat),M = p ++ r → r.length < f → eE x d w o y (M.map (·.ID)) f (p.length : Int) R K (N.map (sel (tkN x) (p.map (·.ID)))) E = some ⟨R,K,(N.map (sel (tkN x) (M.map (·.ID)))).map (sel (atN d w) [x]),E⟩
  | [], p, f + 1, h, _ => by
    rw [List.append_nil] at h
    subst h
    have hso : (N.map (sel (tkN x) (M.map (·.ID)))).Pairwise (fun a b=>a.ID < b.ID):=by
      rw [List.pairwise_map]
      exact hs.imp (fun hab=>by rw [wX (h:=tkN x) (fun _=>rfl),wX (h:=tkN x) (fun _=>rfl)]; exact hab)
    have hzs : sel (tkN x) (M.map (·.ID)) z = z:=by unfold sel; rw [if_neg (by rw [hzx]; exact hxm)]
    have hend:=yW (R:=R) (K:=K) (E:=E) (d:=d) (w:=w) hso (by rw [List.length_map]; exact hl) (List.mem_map.2 ⟨z,hz,hzs⟩) hzx hyx hc
    rw [eE]
    have : decide ((M.length : Int) < ((M.map (·.ID)).length : Int)) = false:=by rw [List.length_map]; exact jY
    simp only [bndD,this,Bool.false_and,bM,hend,bnoS]
  | n :: r, p, f + 1, h, hf => by
    have hrec:=aAY hs hl (d:=d) (w:=w) hz hzx hyx hc hM hml hnd hxm ho r (p ++ [n]) f (jK h) (by simpa using hf)
    have hnM : n ∈ M:=by rw [h]; simp
    have hn:=hM n hnM
    have hmp:=xE h
    have hlen : (p.map (·.ID)).length = p.length:=List.length_map ..
    have hnp : n.ID ∉ p.map (·.ID):=fun hh=>by
      rw [hmp] at hnd
      exact (List.nodup_append.1 hnd).2.2 n.ID hh n.ID (by simp) rfl
    obtain ⟨A,C,hA,hpl2,hwith⟩:=qB (h:=tkN x) (fun _=>rfl) hs hl (R:=R) (K:=K) (E:=E) hn hnp
    have h1:=lZ hmp
    have h2:=fN hmp
    rw [hlen] at h1 h2
    have h3 : IntKind.wrap .i64 ((p.length : Int) + 1) = ((p ++ [n]).length : Int):=w_at h (by omega)
    have hwi:=hwith ⟨n.ID,x,n.Weight,n.Closed⟩ rfl rfl
    rw [List.map_append,show [n].map (·.ID) = [n.ID] from rfl] at hrec
    rw [eE]
    simp only [bndD,h1,ho,Bool.and_self,cP,h2,bnoS,hpl2,fN hA,hwi,h3]
    rw [ho] at hrec
    exact hrec
theorem aAZ (hs : N.Pairwise (fun a b => a.ID < b.ID)) (hl : N.length ≤ 1000) {x d w : Int} {o : Bool} {y z : Nd} (hz : z ∈ N) (hzx : z.ID = x) (hyx : y.ID = x) (hc : y.Closed = z.Closed) : gF x d w o y R K N E = some ⟨R, K, N.map (mF x d w o), E⟩ := by
  have hkl : (qL N d).length ≤ 1000:=by
    unfold qL
    rw [List.length_map]
    have:=List.length_filter_le (fun n : Nd=>decide (n.Parent = d)) N
    omega
  have hks : (qL N d).filter (fun e=>!decide (e = x)) = ((N.filter fun n=>decide (n.Parent = d)).filter fun n=>!decide (n.ID = x)).map (·.ID):=by
    unfold qL
    rw [List.filter_map]; rfl
  have hpt : ∀ (g : Nd → Nd),(∀ n ∈ N,g n = mF x d w o n) → N.map g = N.map (mF x d w o):=fun g hg=>List.map_congr_left hg
  unfold gF
  rw [aAg (t:=⟨R,K,N,E⟩) hl,bnoS]
  show bno (iI (qL N d) x) _ = _
  rw [wo19 hkl,bnoS,hks]
  have hM : ∀ n ∈ (N.filter fun n=>decide (n.Parent = d)).filter (fun n=>!decide (n.ID = x)),n ∈ N ∧ n.Parent = d ∧ n.ID ≠ x:=fun n hn=>by
    obtain ⟨h1,h2⟩:=List.mem_filter.1 hn
    obtain ⟨h3,h4⟩:=List.mem_filter.1 h1
    exact ⟨h3,of_decide_eq_true h4,by simpa using h2⟩
  have hin : ∀ n ∈ N,n.ID ∈ ((N.filter fun n=>decide (n.Parent = d)).filter fun n=>!decide (n.ID = x)).map (·.ID) ↔ n.Parent = d ∧ n.ID ≠ x:=fun n hn=>by
    constructor
    · intro hh
      obtain ⟨m,hm,e⟩:=List.mem_map.1 hh
      obtain ⟨a,b,c⟩:=hM m hm
      have : m = n:=uT hs a hn e
      rw [← this]; exact ⟨b,c⟩
    · intro ⟨a, b⟩
      exact List.mem_map.2 ⟨n,List.mem_filter.2 ⟨List.mem_filter.2 ⟨hn,decide_eq_true a⟩,by simp [b]⟩,rfl⟩
  have hnd : (((N.filter fun n=>decide (n.Parent = d)).filter fun n=>!decide (n.ID = x)).map (·.ID)).Nodup:=qR (List.Pairwise.sublist List.filter_sublist (List.Pairwise.sublist List.filter_sublist hs))
  have hml : ((N.filter fun n=>decide (n.Parent = d)).filter fun n=>!decide (n.ID = x)).length ≤ 1000:=by
    have h1:=List.length_filter_le (fun n : Nd=>!decide (n.ID = x)) (N.filter fun n=>decide (n.Parent = d))
    have h2:=List.length_filter_le (fun n : Nd=>decide (n.Parent = d)) N
    omega
  have hxm : x ∉ ((N.filter fun n=>decide (n.Parent = d)).filter fun n=>!decide (n.ID = x)).map (·.ID):=fun hh=>by
    obtain ⟨m,hm,e⟩:=List.mem_map.1 hh
    exact (hM m hm).2.2 e
  generalize hMM : (N.filter fun n=>decide (n.Parent = d)).filter (fun n=>!decide (n.ID = x)) = M at *
  cases ho : o
  · obtain ⟨j, hj⟩ : ∃ j, fuel = j + 1 := ⟨2 ^ 64 - 1, by show 2 ^ 64 = _; omega⟩
    rw [hj,eE]
    simp only [bndD,Bool.and_false,bM,yW (R:=R) (K:=K) (E:=E) (d:=d) (w:=w) hs hl hz hzx hyx hc,bnoS]
    rw [← ho,hpt _ (fun n hn=>?_)]
    unfold sel mF atN
    rw [ho]
    by_cases e : n.ID = x <;> simp [e]
  · have hL2 := aAY (R := R) (K := K) (E := E) (d := d) (w := w) hs hl hz hzx hyx hc (fun n hn => (hM n hn).1) hml hnd hxm ho M [] fuel rfl (gS (by omega))
    rw [show List.map (fun x : Nd=>x.ID) [] = [] from rfl,sN,ho] at hL2
    refine hL2.trans ?_
    rw [List.map_map,← ho,hpt _ (fun n hn=>?_)]
    have hi:=hin n hn
    show sel (atN d w) [x] (sel (tkN x) (M.map (·.ID)) n) = _
    by_cases e : n.ID = x
    · have h1 : sel (tkN x) (M.map (·.ID)) n = n := by unfold sel; rw [if_neg (fun hh => (hi.1 hh).2 e)]
      rw [h1]
      unfold sel mF
      rw [if_pos (by simp [e]),if_pos e]; rfl
    · by_cases e2 : n.Parent = d
      · have h1 : sel (tkN x) (M.map (·.ID)) n = tkN x n := by unfold sel; rw [if_pos (hi.2 ⟨e2, e⟩)]
        rw [h1]
        unfold sel mF
        rw [if_neg (by show n.ID ∉ [x]; simp [e]),if_neg e,if_pos ⟨ho,e2⟩]; rfl
      · have h1 : sel (tkN x) (M.map (·.ID)) n = n := by unfold sel; rw [if_neg (fun hh => e2 (hi.1 hh).1)]
        rw [h1]
        unfold sel mF
        rw [if_neg (by simp [e]),if_neg e,if_neg (fun hh=>e2 hh.2)]
theorem yX (hs : N.Pairwise (fun a b=>a.ID < b.ID)) (hl : N.length ≤ 1000) (h0 : ∀ n ∈ N,n.ID ≠ 0) {x d w : Int} {o : Bool} {A C : List Nd} {y : Nd} (hN : N = A ++ y :: C) (hyx : y.ID = x) : gG ⟨R,K,N,E⟩ x d w o = some ⟨R,K,zN N x d w o (decide (x ∈ fT N (N.length + 1) d)) y.Parent,E⟩:=by
  have hs2:=hs
  rw [hN] at hs2
  obtain ⟨hA,hC⟩:=pK hs2
  have hy : y ∈ N:=by rw [hN]; simp
  have hpl:=qE N (N.length + 1) d
  unfold gG
  rw [uZ (t:=⟨R,K,N,E⟩) hl hN hyx (fun a ha=>by rw [← hyx]; exact hA a ha),bnoS]
  show bno (gix N (A.length : Int)) _ = _
  rw [fN hN,bnoS,rpath (t:=⟨R,K,N,E⟩) hl h0,bnoS]
  show bno (jV (fT N (N.length + 1) d) x) _ = _
  rw [in19 (by omega),bnoS]
  by_cases hb : x ∈ fT N (N.length + 1) d
  · rw [decide_eq_true hb, cP]
    have hk : ∃ k ∈ N,k.ID = d:=by
      cases hp : pB N d with
      | none=>unfold fT at hb; rw [hp] at hb; exact absurd hb List.not_mem_nil
      | some p=>obtain ⟨n,hn,e,_⟩:=uC hp; exact ⟨n,hn,e⟩
    obtain ⟨k,hkm,rfl⟩:=hk
    obtain ⟨B,D,hB,hplk,hwi⟩:=qB (h:=tkN y.Parent) (fun _=>rfl) hs hl (R:=R) (K:=K) (E:=E) hkm (pre:=[]) List.not_mem_nil
    rw [sN] at hB hplk hwi
    rw [hplk,bnoS]
    show bno (gix N (B.length : Int)) _ = _
    rw [fN hB,bnoS,hwi ⟨k.ID,y.Parent,k.Weight,k.Closed⟩ rfl rfl,bnoS,List.nil_append]
    have hmv : N.map (sel (tkN y.Parent) [k.ID]) = N.map (mvN k.ID y.Parent):=List.map_congr_left (fun n _=>by
      unfold sel mvN tkN
      simp only [List.mem_singleton])
    rw [hmv]
    exact aAZ (mv_so hs _ _) (by rw [List.length_map]; exact hl) (z:=mvN k.ID y.Parent y) (List.mem_map.2 ⟨y,hy,rfl⟩) ((xD _ _ _).trans hyx) hyx (by unfold mvN; split <;> rfl)
  · rw [decide_eq_false hb, bM]
    exact aAZ hs hl hy hyx hyx rfl
theorem put19 (hs : N.Pairwise (fun a b=>a.ID < b.ID)) (hl : N.length ≤ 1000) (h0 : ∀ n ∈ N,n.ID ≠ 0) {x dep wt : Int} {only : Bool} {A C : List Nd} {y : Nd} (hN : N = A ++ y :: C) (hyx : y.ID = x) {d w : Int} {o : Bool} (hd : (dep = 0 ∨ ∃ n ∈ N,n.ID = dep) ∧ d = dep ∧ w = wt ∧ o = only ∨ (dep ≠ 0 ∧ ∀ n ∈ N,n.ID ≠ dep) ∧ d = 0 ∧ w = 16 ∧ o = false) : eA ⟨R,K,N,E⟩ x dep wt only = some ⟨R,K,zN N x d w o (decide (x ∈ fT N (N.length + 1) d)) y.Parent,E⟩:=by
  obtain ⟨i,hi,hp⟩:=sQ (t:=⟨R,K,N,E⟩) hl dep
  have hp : Pl N dep i:=hp
  have hneg : i < 0 ↔ ∀ n ∈ N,n.ID ≠ dep:=by
    cases hp with
    | yes B k D hB e _=>exact ⟨fun h=>by omega,fun h=>absurd e (h k (by rw [hB]; simp))⟩
    | no hno=>exact ⟨fun _=>hno,fun _=>by decide⟩
  unfold eA
  rcases hd with ⟨hd1,rfl,rfl,rfl⟩ | ⟨hd1,rfl,rfl,rfl⟩
  · by_cases hz : d = 0
    · simp only [bndD, decide_eq_true hz, Bool.not_true, ft, gdff, bnoS, Bool.false_and, bM]
      exact yX hs hl h0 hN hyx
    · obtain ⟨n, hn, e⟩ := hd1.resolve_left hz
      have hi2 : ¬ i < 0:=fun hh=>hneg.1 hh n hn e
      simp only [bndD,decide_eq_false hz,Bool.not_false,beq_self_eq_true,gdtt,hi,bnoS,decide_eq_false hi2,Bool.and_false,bM]
      exact yX hs hl h0 hN hyx
  · simp only [bndD, decide_eq_false hd1.1, Bool.not_false, beq_self_eq_true, gdtt, hi, bnoS, decide_eq_true (hneg.2 hd1.2), Bool.and_self, cP]
    exact yX hs hl h0 hN hyx
end
end Go.Fn
open Go Go.IL
namespace Go.Fn
section
variable {N : List Nd} {R K : Int} {E : List Int}
theorem zC {x : Int} (h : ∀ n ∈ N, n.ID ≠ x → n.Parent ≠ x) : ∀ (k : Nat) (z : Int), z ≠ x → x ∉ fT N k z
  | 0,_,_,hh=>List.not_mem_nil hh
  | k + 1, z, hz, hh => by
    unfold fT at hh
    cases hp : pB N z with
    | none=>rw [hp] at hh; exact List.not_mem_nil hh
    | some p =>
      rw [hp] at hh
      obtain ⟨n,hn,e1,e2⟩:=uC hp
      have hpx : p ≠ x:=by rw [← e2]; exact h n hn (by rw [e1]; exact hz)
      by_cases h0 : p = 0
      · simp only [h0,if_true] at hh; exact List.not_mem_nil hh
      · simp only [if_neg h0] at hh
        rcases List.mem_cons.1 hh with e | hh
        · exact hpx e.symm
        · exact zC h k p hpx hh
theorem aAb (h0 : ∀ n ∈ N,n.ID ≠ 0) : ∀ k,fT N k 0 = []
  | 0=>rfl
  | k + 1=>by unfold fT; rw [tN h0]
theorem aAK (N : List Nd) (x d w : Int) (o b : Bool) (p : Int) : (zN N x d w o b p).length = N.length:=by
  unfold zN
  cases b <;> simp
theorem yH (N : List Nd) (op : Fo) : ∃ (d w : Int) (o : Bool),((op.Dep = 0 ∨ ∃ n ∈ N,n.ID = op.Dep) ∧ d = op.Dep ∧ w = op.Weight ∧ o = op.Only ∨ (op.Dep ≠ 0 ∧ ∀ n ∈ N,n.ID ≠ op.Dep) ∧ d = 0 ∧ w = 16 ∧ o = false):=by
  by_cases h : op.Dep = 0 ∨ ∃ n ∈ N,n.ID = op.Dep
  · exact ⟨_,_,_,.inl ⟨h,rfl,rfl,rfl⟩⟩
  · refine ⟨_,_,_,.inr ⟨⟨fun e=>h (.inl e),fun n hn e=>h (.inr ⟨n,hn,e⟩)⟩,rfl,rfl,rfl⟩⟩
theorem hang_eq {a b : Int} (h : FV 24 ⟨a,b,N,E⟩) {op : Fo} (h64 : I64 op.Dep) (hx : ∃ n ∈ N,n.ID = op.ID) : ∃ M,iO R K op N E = some (R,K,M,E) ∧ eA ⟨R,K,N,E⟩ op.ID op.Dep op.Weight op.Only = some ⟨R,K,M,E⟩ ∧ M.length = N.length:=by
  have hok : Ok34 N:=h.ok
  have hso : N.Pairwise (fun a b=>a.ID < b.ID):=h.so
  have hn0 : ∀ n ∈ N,n.ID ≠ 0:=fun n hn=>by have:=hok.ra n hn; omega
  obtain ⟨y,hy,hyx⟩:=hx
  obtain ⟨A,C,hN⟩:=List.append_of_mem hy
  obtain ⟨d,w,o,hd⟩:=yH N op
  obtain ⟨r,hrk⟩:=h.rk
  have hrk : ∀ n ∈ N,n.Parent ≠ 0 → r n.Parent < r n.ID:=hrk
  have hpa : ∀ n ∈ N,n.Parent = 0 ∨ ∃ m ∈ N,m.ID = n.Parent:=h.pa
  have he : fT N (N.length + 1) d = fT N N.length d:=by
    by_cases h0 : d = 0
    · rw [h0,aAb hn0,aAb hn0]
    · rcases hd with ⟨h1, h2, _⟩ | ⟨_, h2, _⟩
      · exact sT hso hrk hpa (by rw [h2]; exact h1.resolve_left (by rw [← h2]; exact h0)) 1
      · exact absurd h2 h0
  have h1:=hangE (R:=R) (K:=K) (E:=E) hok h64 hN hyx hd
  have h2:=put19 (R:=R) (K:=K) (E:=E) hso hok.ln hn0 hN hyx hd
  rw [he] at h2
  exact ⟨_,h1,h2,aAK ..⟩
theorem aAX {x dep w : Int} {o : Bool} {A C : List Nd} (hN : N = A ++ C) (hl : N.length ≤ 1000) (hA : ∀ a ∈ A,a.ID < x) (hC : ∀ c ∈ C,x < c.ID) : ∀ (r p : List Nd) (f : Nat),A = p ++ r → r.length < f → dU x dep w o R K N E f (p.length : Int) = bno (eA ⟨R,K,A ++ [(⟨x,-1,16,false⟩ : Nd)] ++ C,E⟩ x dep w o) fun x43=>some (x43,0)
  | [], p, f + 1, h, _ => by
    rw [List.append_nil] at h
    subst h
    have hal : A.length ≤ 1000:=by rw [hN] at hl; simp at hl; omega
    have hcl : C.length ≤ 1000:=by rw [hN] at hl; simp at hl; omega
    have hgo : (bno (cut N 0 (A.length : Int)) fun x38 =>
      bno (app 32 ([] : (List aF)) x38) fun x39 =>
      bno (app 32 x39 (([(⟨x,(-1),16,false⟩ : aF)] : (List aF)))) fun x40 =>
      bno (cut N (A.length : Int) (N.length : Int)) fun x41 =>
      bno (app 32 x40 x41) fun x42 =>
      bno (eA (⟨R,K,x42,E⟩ : aM) x dep w o) fun x43 =>
      some (x43,(0 : Int))) = bno (eA ⟨R,K,A ++ [(⟨x,-1,16,false⟩ : Nd)] ++ C,E⟩ x dep w o) fun x43=>some (x43,0):=by
      rw [zS hN,bnoS,mJ (by simp; omega) (by simp; omega),bnoS,List.nil_append,mJ (by simp; omega) (by simp; omega),bnoS,aAN hN,bnoS,mJ (by simp; omega) (by simp; omega),bnoS]
    rw [dU]
    cases C with
    | nil =>
      have hlt : decide ((A.length : Int) < (N.length : Int)) = false:=by rw [hN,List.append_nil]; exact jY
      simp only [bndD,hlt,ft,gdff,bnoS,Bool.false_and,bM]
      exact hgo
    | cons c C =>
      have hc:=hC c (by simp)
      simp only [bndD,lZ hN,beq_self_eq_true,gdtt,fN hN,bnoS,decide_eq_false (show ¬ c.ID < x by omega),Bool.and_false,bM]
      exact hgo
  | n :: r, p, f + 1, h, hf => by
    have hrec:=aAX (dep:=dep) (w:=w) (o:=o) hN hl hA hC r (p ++ [n]) f (jK h) (by simpa using hf)
    have hN2 : N = p ++ n :: (r ++ C):=by rw [hN,h]; simp
    have hn:=hA n (by rw [h]; simp)
    rw [dU]
    simp only [bndD,lZ hN2,beq_self_eq_true,gdtt,fN hN2,bnoS,decide_eq_true hn,Bool.and_self,cP,w_at hN2 (show N.length ≤ 1000000 by omega)]
    exact hrec
theorem aAh {a b : Int} (h : FV 24 ⟨a, b, N, E⟩) {op : Fo} (hm : may34 op) (hno : ∀ n ∈ N, n.ID ≠ op.ID) : ∃ M, fO op R K N E = some (R, K, M, E, 0) ∧ dV op.ID op.Dep op.Weight op.Only R K N E = some (⟨R, K, M, E⟩, 0) ∧ M.length ≤ 100 := by
  obtain ⟨hid,hw,hdp,hne⟩:=hm
  have hok : Ok34 N:=h.ok
  have hso : N.Pairwise (fun a b=>a.ID < b.ID):=h.so
  have hln : N.length ≤ 24:=h.ln
  have hpa : ∀ n ∈ N,n.Parent = 0 ∨ ∃ m ∈ N,m.ID = n.Parent:=h.pa
  obtain ⟨q,hq1,hq2⟩:=tB (R:=R) (K:=K) (E:=E) hok (id:=op.ID) ⟨by omega,by omega⟩
  cases hq2 with
  | yes A y C hN he _ _=>exact absurd he (hno y (by rw [hN]; simp))
  | no p hp _ hsp =>
    obtain ⟨h1,h2⟩:=hsp (by omega) (by omega)
    have hN : N.take p ++ N.drop p = N:=List.take_append_drop p N
    have hins : fC (p : Int) ([(⟨op.ID,op.ID,16,false⟩ : Nd)]) N = some (N.take p ++ [(⟨op.ID,op.ID,16,false⟩ : Nd)] ++ N.drop p):=by
      unfold fC
      rw [insS_ok (by omega) (by omega) (by simp; omega) (by simp; omega),Int.toNat_natCast]
    generalize hA : N.take p = A at *
    generalize hC : N.drop p = C at *
    have hmem : ∀ (q : Int) n,n ∈ A ++ [(⟨op.ID,q,16,false⟩ : Nd)] ++ C → n = ⟨op.ID,q,16,false⟩ ∨ n ∈ N:=fun q n hn=>by
      rw [← hN]
      simp only [List.mem_append,List.mem_singleton] at hn ⊢
      rcases hn with (a | a) | a
      · exact .inr (.inl a)
      · exact .inl a
      · exact .inr (.inr a)
    have hlen : A.length + C.length = N.length:=by rw [← hN,List.length_append]
    have hsoq : ∀ q : Int,(A ++ [(⟨op.ID,q,16,false⟩ : Nd)] ++ C).Pairwise (fun a b=>a.ID < b.ID):=fun q=>by
      rw [← hN] at hso
      have hpw:=List.pairwise_append.1 hso
      refine List.pairwise_append.2 ⟨List.pairwise_append.2 ⟨hpw.1,List.pairwise_singleton _ _,fun a ha b hb=>by rw [List.mem_singleton.1 hb]; exact h1 a ha⟩,hpw.2.1,fun a ha b hb=>?_⟩
      rcases List.mem_append.1 ha with ha | ha
      · exact hpw.2.2 a ha b hb
      · rw [List.mem_singleton.1 ha]; exact h2 b hb
    have hlq : ∀ q : Int,(A ++ [(⟨op.ID,q,16,false⟩ : Nd)] ++ C).length ≤ 1000:=fun q=>by
      rw [List.length_append,List.length_append,List.length_singleton]; omega
    have hraq : ∀ (q : Int),∀ n ∈ A ++ [(⟨op.ID,q,16,false⟩ : Nd)] ++ C,1 ≤ n.ID ∧ n.ID ≤ 1048576:=fun q n hn=>by
      rcases hmem q n hn with e | hn
      · rw [e]; exact hid
      · exact hok.ra n hn
    have hokf : Ok34 (A ++ [(⟨op.ID,op.ID,16,false⟩ : Nd)] ++ C):=⟨hlq _,hraq _,hsoq _,fun n hn=>by
      rcases hmem _ n hn with e | hn
      · rw [e]; exact ⟨by show -9223372036854775808 ≤ op.ID; omega,by show op.ID ≤ _; omega⟩
      · exact hok.pa n hn⟩
    have hnp : ∀ (q : Int),∀ n ∈ A ++ [(⟨op.ID,q,16,false⟩ : Nd)] ++ C,n.ID ≠ op.ID → n.Parent ≠ op.ID:=fun q n hn hx=>by
      rcases hmem q n hn with e | hn
      · rw [e] at hx; exact absurd rfl hx
      · rcases hpa n hn with e | ⟨m, hm, e⟩
        · omega
        · rw [← e]; exact hno m hm
    have hsame : ∀ (q : Int) (d w : Int) (o : Bool),(A ++ [(⟨op.ID,q,16,false⟩ : Nd)] ++ C).map (mF op.ID d w o) = A.map (mF op.ID d w o) ++ [(⟨op.ID,d,w,false⟩ : Nd)] ++ C.map (mF op.ID d w o):=fun q d w o=>by
      rw [List.map_append,List.map_append]
      congr 2
      show [mF op.ID d w o ⟨op.ID,q,16,false⟩] = _
      unfold mF
      rw [if_pos rfl]
    obtain ⟨d,w,o,hd⟩:=yH (A ++ [(⟨op.ID,op.ID,16,false⟩ : Nd)] ++ C) op
    have hd2 : (op.Dep = 0 ∨ ∃ n ∈ A ++ [(⟨op.ID,-1,16,false⟩ : Nd)] ++ C,n.ID = op.Dep) ∧ d = op.Dep ∧ w = op.Weight ∧ o = op.Only ∨ (op.Dep ≠ 0 ∧ ∀ n ∈ A ++ [(⟨op.ID,-1,16,false⟩ : Nd)] ++ C,n.ID ≠ op.Dep) ∧ d = 0 ∧ w = 16 ∧ o = false:=by
      have hx : ∀ q q' : Int,(∃ n ∈ A ++ [(⟨op.ID,q,16,false⟩ : Nd)] ++ C,n.ID = op.Dep) → ∃ n ∈ A ++ [(⟨op.ID,q',16,false⟩ : Nd)] ++ C,n.ID = op.Dep:=fun q q' ⟨n,hn,e⟩=>by
        simp only [List.mem_append,List.mem_singleton] at hn
        rcases hn with (a | a) | a
        · exact ⟨n,by simp [a],e⟩
        · rw [a] at e; exact absurd e.symm hne
        · exact ⟨n,by simp [a],e⟩
      rcases hd with ⟨g1,g2⟩ | ⟨g1,g2⟩
      · exact .inl ⟨g1.imp id (hx _ _),g2⟩
      · exact .inr ⟨⟨g1.1,fun n hn e=>by obtain ⟨m,hm,e2⟩:=hx (-1) op.ID ⟨n,hn,e⟩; exact g1.2 m hm e2⟩,g2⟩
    have hdx : d ≠ op.ID:=by
      rcases hd with ⟨_,g,_⟩ | ⟨_,g,_⟩
      · rw [g]; exact hne
      · omega
    have hap : ∀ q : Int,A ++ [(⟨op.ID,q,16,false⟩ : Nd)] ++ C = A ++ (⟨op.ID,q,16,false⟩ : Nd) :: C:=fun q=>by simp
    have f1:=hangE (R:=R) (K:=K) (E:=E) hokf (op:=op) ⟨by omega,by omega⟩ (hap _) rfl hd
    have f2:=put19 (R:=R) (K:=K) (E:=E) (hsoq (-1)) (hlq _) (fun n hn=>by have:=hraq _ n hn; omega) (hap (-1)) rfl hd2
    rw [decide_eq_false (zC (hnp _) _ _ hdx)] at f1 f2
    have hr:=aAX (R:=R) (K:=K) (E:=E) (x:=op.ID) (dep:=op.Dep) (w:=op.Weight) (o:=op.Only) hN.symm (by omega) h1 h2 A [] fuel rfl (gS (by omega))
    refine ⟨A.map (mF op.ID d w o) ++ [(⟨op.ID,d,w,false⟩ : Nd)] ++ C.map (mF op.ID d w o),?_,?_,by simp only [List.length_append,List.length_map,List.length_singleton]; omega⟩
    · unfold fO
      rw [hq1,bnoS,hins,bnoS,f1,bnoS]
      show some (R,K,List.map _ _,E,(0 : Int)) = _
      rw [hsame]
    · unfold dV
      refine hr.trans ?_
      rw [f2,bnoS]
      show some ((⟨R,K,List.map _ _,E⟩ : T19),(0 : Int)) = _
      rw [hsame]
end
def sF (id dep w : Int) : Int:=if decide (id < 1) || decide (1048576 < id) || decide (dep < 0) || decide (1048576 < dep) || decide (w < 1) || decide (256 < w) then 8 else if id = dep then 4 else 0
theorem rN (id dep w : Int) : jH id dep w = some (sF id dep w):=by
  unfold jH sF
  simp only [bndD]
  cases (decide (id < 1) || decide (1048576 < id) || decide (dep < 0) || decide (1048576 < dep) || decide (w < 1) || decide (256 < w))
  · rw [bM]
    by_cases h : id = dep
    · rw [decide_eq_true h]; simp [h]
    · rw [decide_eq_false h]; simp [h]
  · rfl
section
variable {st : Fs}
theorem GV.ok (h : GV st) : Ok34 st.Nodes:=h.fv.ok
theorem zA (h : GV st) {N : List Nd} {E : List Int} (hf : FV 24 ⟨24,24,N,E⟩) {id : Int} (hid : ∃ n ∈ N,n.ID = id) : ∃ M F,fR st.Room st.Keep id N E = some (st.Room,st.Keep,M,F) ∧ eB ⟨st.Room,st.Keep,N,E⟩ id = some ⟨st.Room,st.Keep,M,F⟩ ∧ FV 24 ⟨24,24,M,F⟩ ∧ ∀ m ∈ M,∃ n ∈ N,n.ID = m.ID:=by
  obtain ⟨A,y,C,hN,hyx,hoff⟩:=off_any hf st.Room st.Keep (id:=id) hid
  have hN : N = A ++ y :: C:=hN
  have hfv:=fv_off hf hN
  have hy : y ∈ N:=by rw [hN]; simp
  have hne : y.Parent ≠ y.ID:=fun e=>by
    obtain ⟨r,hr⟩:=hf.rk
    have h1:=(hf.ra y hy).1
    have:=hr y hy (by omega)
    rw [e] at this; omega
  have hln : N.length ≤ 24:=hf.ln
  have hel : (E.length : Int) ≤ 24:=hf.el
  have hr:=roff19 (R:=st.Room) (K:=st.Keep) (E:=E) (N:=N) hf.so (by omega) (by omega) (fun n hn=>(hf.ra n hn).2) hN hne
  rw [hyx] at hr hfv
  refine ⟨_,_,hoff,hr,hfv,fun m hm=>?_⟩
  obtain ⟨n,hn,e⟩:=List.mem_map.1 hm
  refine ⟨n,?_,by rw [← e,pX]⟩
  rw [hN]
  rcases List.mem_append.1 hn with hn | hn <;> simp [hn]
theorem rest_eq (h : GV st) {op : Fo} (hm : may34 op) (hno : ∀ n ∈ st.Nodes, n.ID ≠ op.ID) : ∃ M F e, dH st.Room st.Keep op st.Nodes st.Ended false = some (st.Room, st.Keep, M, F, e) ∧ dB (tre st) op.ID op.Dep op.Weight op.Only = some (⟨st.Room, st.Keep, M, F⟩, e) ∧ M.length ≤ 100 ∧ F.length ≤ 100 := by
  have hel : (st.Ended.length : Int) ≤ 24:=h.fv.el
  have hidm:=hm.1
  have hln:=h.fv.ln
  have hln : st.Nodes.length ≤ 24:=hln
  obtain ⟨q,hq1,hq2⟩:=tB (R:=st.Room) (K:=st.Keep) (E:=st.Ended) h.ok (id:=op.ID) ⟨by omega,by omega⟩
  have hpl:=pl_no (t:=tre st) (by show st.Nodes.length ≤ 1000; omega) hno
  have hch : sF op.ID op.Dep op.Weight = 0:=by
    obtain ⟨h1,h2,h3,h4⟩:=hm
    unfold sF
    rw [decide_eq_false (show ¬ op.ID < 1 by omega),decide_eq_false (show ¬ 1048576 < op.ID by omega),decide_eq_false (show ¬ op.Dep < 0 by omega),decide_eq_false (show ¬ 1048576 < op.Dep by omega),decide_eq_false (show ¬ op.Weight < 1 by omega),decide_eq_false (show ¬ 256 < op.Weight by omega)]
    simp only [Bool.or_self,Bool.false_eq_true,if_false,if_neg (show ¬ op.ID = op.Dep from fun e=>h4 e.symm)]
  have hF : dH st.Room st.Keep op st.Nodes st.Ended false = bif decide (st.Room ≤ (st.Nodes.length : Int)) then (bif decide ((st.Ended.length : Int) = 0) then some (st.Room,st.Keep,st.Nodes,st.Ended,7) else bno (gix st.Ended 0) fun x33=>bno (st.Ended[((0 : Int)).toNat]?) fun x34=>bno (fR st.Room st.Keep x34 st.Nodes st.Ended) fun x35=>fO op x35.1 x35.2.1 x35.2.2.1 x35.2.2.2) else fO op st.Room st.Keep st.Nodes st.Ended:=by
    unfold dH
    rw [bM,bndD,decide_eq_false (show ¬ op.ID = op.Dep from fun e=>hm.2.2.2 e.symm),bM,hq1,bnoS]
    cases hq2 with
    | yes A y C hN he _ _=>exact absurd he (hno y (by rw [hN]; simp))
    | no p hp _ _ =>
      show (bif false then _ else _) = _
      rw [bM,bndD,bndD]
  have hI : dB (tre st) op.ID op.Dep op.Weight op.Only = bif (decide (st.Room ≤ (st.Nodes.length : Int)) && decide ((st.Ended.length : Int) = 0)) then some (tre st,7) else bif decide (st.Room ≤ (st.Nodes.length : Int)) then (bno (gix st.Ended 0) fun x46=>bno (eB ⟨st.Room,st.Keep,st.Nodes,st.Ended⟩ x46) fun x47=>dV op.ID op.Dep op.Weight op.Only x47.Room x47.Keep x47.L x47.Closed) else dV op.ID op.Dep op.Weight op.Only st.Room st.Keep st.Nodes st.Ended:=by
    unfold dB
    simp only [rN,hch,bnoS,hpl,bndD,decide_true,Bool.not_true,bM,show decide (0 ≤ (-1 : Int)) = false from rfl]
    rfl
  rw [hF,hI]
  by_cases hf : st.Room ≤ (st.Nodes.length : Int)
  · rw [decide_eq_true hf, cP, Bool.true_and, cP]
    cases hE : st.Ended with
    | nil=>exact ⟨_,_,_,rfl,by show some (tre st,(7 : Int)) = _; unfold tre; rw [hE],by omega,Nat.zero_le _⟩
    | cons z F =>
      have hz : decide (((z :: F).length : Int) = 0) = false:=decide_eq_false (by simp only [List.length_cons]; omega)
      have hg : gix (z :: F) 0 = some z:=rfl
      have hg2 : (z :: F)[((0 : Int)).toNat]? = some z:=rfl
      rw [hz,bM,bM,hg,bnoS,hg2,bnoS,bnoS,← hE]
      obtain ⟨M,F',o1,o2,o3,o4⟩:=zA h h.fv (id:=z) (h.fv.es z (by show z ∈ st.Ended; rw [hE]; simp))
      obtain ⟨M2,i1,i2,i3⟩:=aAh (R:=st.Room) (K:=st.Keep) o3 hm (fun m hm2 e=>by
        obtain ⟨n,hn,e2⟩:=o4 m hm2
        exact hno n hn (e2.trans e))
      rw [o1,o2,bnoS,bnoS]
      have o5 : (F'.length : Int) ≤ 24:=o3.el
      exact ⟨M2,F',0,i1,i2,i3,by omega⟩
  · rw [decide_eq_false hf, bM, Bool.false_and, bM, bM]
    obtain ⟨M2,i1,i2,i3⟩:=aAh (R:=st.Room) (K:=st.Keep) h.fv hm hno
    exact ⟨M2,st.Ended,0,i1,i2,i3,by omega⟩
theorem bad_chk {op : Fo} (h : sF op.ID op.Dep op.Weight = 0) : may34 op:=by
  unfold sF at h
  split at h
  · omega
  · rename_i hb
    split at h
    · omega
    · rename_i hne
      simp at hb
      exact ⟨by omega,by omega,by omega,fun e=>hne e.symm⟩
theorem wY (h : GV st) {op : Fo} (h64 : I64 op.ID ∧ I64 op.Dep) : ∃ M F e, gP st.Room st.Keep op st.Nodes st.Ended = some (st.Room, st.Keep, M, F, e) ∧ (op.Kind = 0 → dB (tre st) op.ID op.Dep op.Weight op.Only = some (⟨st.Room, st.Keep, M, F⟩, e)) ∧ (op.Kind ≠ 0 → fM (tre st) op.ID op.Dep op.Weight op.Only = some (⟨st.Room, st.Keep, M, F⟩, e)) ∧ M.length ≤ 100 ∧ F.length ≤ 100 := by
  have hel : (st.Ended.length : Int) ≤ 24:=h.fv.el
  have hln : st.Nodes.length ≤ 24:=h.fv.ln
  have hbad : ∀ b,b = true → dH st.Room st.Keep op st.Nodes st.Ended b = some (st.Room,st.Keep,st.Nodes,st.Ended,8):=fun b hb=>by rw [hb]; rfl
  have hfront : gP st.Room st.Keep op st.Nodes st.Ended = dH st.Room st.Keep op st.Nodes st.Ended (decide (op.ID < 1) || decide (1048576 < op.ID) || decide (op.Weight < 1) || decide (256 < op.Weight) || decide (op.Dep < 0) || decide (1048576 < op.Dep)):=by
    unfold gP
    rw [wrong34,bnoS]
    show (bif (decide (op.ID < 1) || decide (1048576 < op.ID) || decide (op.Weight < 1) || decide (256 < op.Weight)) then _ else _) = _
    cases (decide (op.ID < 1) || decide (1048576 < op.ID) || decide (op.Weight < 1) || decide (256 < op.Weight))
    · rw [bM, bndD]
      cases decide (op.Dep < 0)
      · rw [bM,bndD]; rfl
      · rfl
    · rfl
  by_cases hc : sF op.ID op.Dep op.Weight = 0
  · have hm := bad_chk hc
    have hnb : (decide (op.ID < 1) || decide (1048576 < op.ID) || decide (op.Weight < 1) || decide (256 < op.Weight) || decide (op.Dep < 0) || decide (1048576 < op.Dep)) = false:=by
      obtain ⟨h1,h2,h3,h4⟩:=hm
      rw [decide_eq_false (show ¬ op.ID < 1 by omega),decide_eq_false (show ¬ 1048576 < op.ID by omega),decide_eq_false (show ¬ op.Dep < 0 by omega),decide_eq_false (show ¬ 1048576 < op.Dep by omega),decide_eq_false (show ¬ op.Weight < 1 by omega),decide_eq_false (show ¬ 256 < op.Weight by omega)]; rfl
    rw [hfront,hnb]
    by_cases hx : ∃ n ∈ st.Nodes,n.ID = op.ID
    · obtain ⟨q, hq1, hq2⟩ := tB (R := st.Room) (K := st.Keep) (E := st.Ended) h.ok (id := op.ID) h64.1
      obtain ⟨M,f1,f2,f3⟩:=hang_eq (R:=st.Room) (K:=st.Keep) (E:=st.Ended) h.fv (op:=op) h64.2 hx
      have f2 : eA (tre st) op.ID op.Dep op.Weight op.Only = some ⟨st.Room,st.Keep,M,st.Ended⟩:=f2
      obtain ⟨i,hi,hp⟩:=sQ (t:=tre st) (by show st.Nodes.length ≤ 1000; omega) op.ID
      have hi0 : 0 ≤ i:=by
        cases hp with
        | yes A y C _ _ _=>omega
        | no hno=>obtain ⟨n,hn,e⟩:=hx; exact absurd e (hno n hn)
      unfold dH
      rw [bM,bndD,decide_eq_false (show ¬ op.ID = op.Dep from fun e=>hm.2.2.2 e.symm),bM,hq1,bnoS]
      have hq : q.2 = true:=by
        cases hq2 with
        | yes A y C _ _ _ _=>rfl
        | no p _ hno _=>obtain ⟨n,hn,e⟩:=hx; exact absurd e (hno n hn)
      rw [hq,cP,bndD]
      by_cases hk : op.Kind = 0
      · rw [decide_eq_true hk, cP]
        refine ⟨_,_,_,rfl,fun _=>?_,fun hh=>absurd hk hh,by omega,by omega⟩
        unfold dB
        simp only [rN,hc,bnoS,hi,bndD,decide_true,Bool.not_true,bM,decide_eq_true hi0,cP]
        rfl
      · rw [decide_eq_false hk, bM, f1, bnoS]
        refine ⟨_,_,_,rfl,fun hh=>absurd hh hk,fun _=>?_,by show M.length ≤ 100; omega,by show st.Ended.length ≤ 100; omega⟩
        unfold fM
        simp only [rN,hc,bnoS,hi,bndD,decide_true,Bool.not_true,bM,decide_eq_false (show ¬ i < 0 by omega),f2]
    · have hno : ∀ n ∈ st.Nodes, n.ID ≠ op.ID := fun n hn e => hx ⟨n, hn, e⟩
      have hpl:=pl_no (t:=tre st) (by show st.Nodes.length ≤ 1000; omega) hno
      obtain ⟨M,F,e,r1,r2,r3⟩:=rest_eq h hm hno
      refine ⟨M,F,e,r1,fun _=>r2,fun _=>?_,r3⟩
      unfold fM
      simp only [rN,hc,bnoS,hpl,bndD,decide_true,Bool.not_true,bM,show decide ((-1 : Int) < 0) = true from rfl,cP,r2]
  · have hI : dB (tre st) op.ID op.Dep op.Weight op.Only = some (tre st, sF op.ID op.Dep op.Weight) := by
      unfold dB
      simp only [rN,bnoS,bndD,decide_eq_false hc,Bool.not_false,cP]
    have hMv : fM (tre st) op.ID op.Dep op.Weight op.Only = some (tre st,sF op.ID op.Dep op.Weight):=by
      unfold fM
      simp only [rN,bnoS,bndD,decide_eq_false hc,Bool.not_false,cP]
    refine ⟨st.Nodes,st.Ended,sF op.ID op.Dep op.Weight,?_,fun _=>hI,fun _=>hMv,by omega,by omega⟩
    rw [hfront]
    cases hb : (decide (op.ID < 1) || decide (1048576 < op.ID) || decide (op.Weight < 1) || decide (256 < op.Weight) || decide (op.Dep < 0) || decide (1048576 < op.Dep))
    · have hnb : (decide (op.ID < 1) || decide (1048576 < op.ID) || decide (op.Dep < 0) || decide (1048576 < op.Dep) || decide (op.Weight < 1) || decide (256 < op.Weight)) = false := by
        simp only [Bool.or_eq_false_iff] at hb ⊢
        simp [hb]
      unfold sF at hc ⊢
      rw [hnb] at hc ⊢
      simp only [Bool.false_eq_true,if_false] at hc ⊢
      by_cases he : op.ID = op.Dep
      · rw [if_pos he]
        unfold dH
        rw [bM,bndD,decide_eq_true he,cP]
      · rw [if_neg he] at hc; exact absurd rfl hc
    · rw [hbad _ rfl]
      have hnb : (decide (op.ID < 1) || decide (1048576 < op.ID) || decide (op.Dep < 0) || decide (1048576 < op.Dep) || decide (op.Weight < 1) || decide (256 < op.Weight)) = true:=by
        simp only [Bool.or_eq_true] at hb ⊢
        rcases hb with ((((a | a) | a) | a) | a) | a <;> simp [a]
      unfold sF
      rw [hnb]; rfl
end
end Go.Fn
open Go Go.IL
namespace Go.Fn
section
variable {st : Fs}
theorem shut_eq (h : GV st) {id : Int} (h64 : I64 id) : ∃ M F e, iM st.Room st.Keep id st.Nodes st.Ended = some (st.Room, st.Keep, M, F, e) ∧ gQ (tre st) id = some (⟨st.Room, st.Keep, M, F⟩, e) ∧ M.length ≤ 100 ∧ F.length ≤ 100 := by
  have hln : st.Nodes.length ≤ 24:=h.fv.ln
  have hel : (st.Ended.length : Int) ≤ 24:=h.fv.el
  by_cases hx : ∃ n ∈ st.Nodes,n.ID = id
  · obtain ⟨y, hy, rfl⟩ := hx
    obtain ⟨A,y',C,hN,hyx,hf⟩:=wQ (R:=st.Room) (K:=st.Keep) (E:=st.Ended) h.ok (id:=y.ID) ⟨y,hy,rfl⟩
    have e1 : y' = y:=uT h.fv.so (by show y' ∈ st.Nodes; rw [hN]; simp) hy hyx
    subst e1
    have hso : st.Nodes.Pairwise (fun a b=>a.ID < b.ID):=h.fv.so
    have hs2:=hso
    rw [hN] at hs2
    obtain ⟨hA,hC⟩:=pK hs2
    have hpl:=uZ (t:=tre st) (by show st.Nodes.length ≤ 1000; omega) hN rfl hA
    have hwi:=aAT (t:=tre st) (by show st.Nodes.length ≤ 1000; omega) hN (z:=⟨y'.ID,y'.Parent,y'.Weight,true⟩) rfl hA
    have hwi : dG (tre st) ⟨y'.ID,y'.Parent,y'.Weight,true⟩ = some ⟨st.Room,st.Keep,A ++ (⟨y'.ID,y'.Parent,y'.Weight,true⟩ : Nd) :: C,st.Ended⟩:=hwi
    have hg : gix (tre st).L (A.length : Int) = some y':=fN hN
    have hmap:=map_cl hs2
    rw [← hN] at hmap
    unfold iM gQ
    rw [hf,bnoS,hpl,bnoS,bndD,decide_eq_false (show ¬ (A.length : Int) < 0 by omega),bM,hg,bnoS]
    show ∃ M F e,(bif false then _ else _) = some (st.Room,st.Keep,M,F,e) ∧ (bif y'.Closed then some (tre st,(9 : Int)) else _) = some ((⟨st.Room,st.Keep,M,F⟩ : T19),e) ∧ M.length ≤ 100 ∧ F.length ≤ 100
    rw [bM,fN hN,bnoS]
    show ∃ M F e,bno (st.Nodes[((A.length : Nat) : Int).toNat]?) _ = some (st.Room,st.Keep,M,F,e) ∧ (bif y'.Closed then some (tre st,(9 : Int)) else _) = some ((⟨st.Room,st.Keep,M,F⟩ : T19),e) ∧ M.length ≤ 100 ∧ F.length ≤ 100
    rw [oP hN,bnoS]
    cases hc : y'.Closed
    · rw [bM, bM, bnoS, bnoS, bndD, hwi, bnoS]
      have hset : st.Nodes.set ((A.length : Nat) : Int).toNat (⟨y'.ID,y'.Parent,y'.Weight,true⟩ : Nd) = A ++ (⟨y'.ID,y'.Parent,y'.Weight,true⟩ : Nd) :: C:=by
        conv=>lhs; rw [hN]
        rw [rC]
      obtain ⟨v1,v2⟩:=fv_shut h.fv hy hc
      have v1 : FV 24 ⟨24,24,st.Nodes.map (clN y'.ID),st.Ended ++ [y'.ID]⟩:=v1
      rw [hmap] at v1
      show ∃ M F e,bno (app 8 st.Ended [y'.ID]) (fun x9=>bnd (decide (st.Keep < (x9.length : Int))) fun x10=>bif x10 then (bno (gix x9 0) fun x12=>bno (x9[((0 : Int)).toNat]?) fun x13=>bno (fR st.Room st.Keep x13 (st.Nodes.set ((A.length : Nat) : Int).toNat (⟨y'.ID,y'.Parent,y'.Weight,true⟩ : Nd)) x9) fun x14=>some (x14.1,x14.2.1,x14.2.2.1,x14.2.2.2,(0 : Int))) else some (st.Room,st.Keep,st.Nodes.set ((A.length : Nat) : Int).toNat (⟨y'.ID,y'.Parent,y'.Weight,true⟩ : Nd),x9,0)) = some (st.Room,st.Keep,M,F,e) ∧ bno (app 8 ([] : List Int) st.Ended) (fun x7=>bno (app 8 x7 [y'.ID]) fun x8=>bnd (decide (st.Keep < (x8.length : Int))) fun x9=>bif x9 then (bno (gix x8 0) fun x11=>bno (eB (⟨st.Room,st.Keep,A ++ (⟨y'.ID,y'.Parent,y'.Weight,true⟩ : Nd) :: C,x8⟩ : T19) x11) fun x12=>some (x12,(0 : Int))) else some ((⟨st.Room,st.Keep,A ++ (⟨y'.ID,y'.Parent,y'.Weight,true⟩ : Nd) :: C,x8⟩ : T19),0)) = some ((⟨st.Room,st.Keep,M,F⟩ : T19),e) ∧ M.length ≤ 100 ∧ F.length ≤ 100
      rw [hset,mJ (l:=([] : List Int)) (by simp; omega) (by simp; omega),bnoS,List.nil_append,mJ (by rw [List.length_singleton]; omega) (by rw [List.length_singleton]; omega),bnoS,bnoS,bndD,bndD]
      cases decide (st.Keep < ((st.Ended ++ [y'.ID]).length : Int))
      · have hAC : A.length + C.length + 1 ≤ 24 := by rw [hN] at hln; simp at hln; omega
        exact ⟨_,_,_,rfl,rfl,by simp only [List.length_append,List.length_cons]; omega,by rw [List.length_append,List.length_singleton]; omega⟩
      · rw [cP, cP]
        cases hE : st.Ended ++ [y'.ID] with
        | nil=>simp at hE
        | cons z F =>
          have hg : gix (z :: F) 0 = some z:=rfl
          have hg2 : (z :: F)[((0 : Int)).toNat]? = some z:=rfl
          rw [hg,bnoS,hg2,bnoS,bnoS]
          rw [hE] at v1
          obtain ⟨M,F',o1,o2,o3,o4⟩:=zA h v1 (id:=z) (v1.es z (by show z ∈ z :: F; simp))
          rw [o1,o2,bnoS,bnoS]
          have o5 : M.length ≤ 24:=o3.ln
          have o6 : (F'.length : Int) ≤ 24:=o3.el
          exact ⟨_,_,_,rfl,rfl,by show M.length ≤ 100; omega,by show F'.length ≤ 100; omega⟩
    · rw [cP, cP]
      exact ⟨_,_,_,rfl,rfl,by show st.Nodes.length ≤ 100; omega,by show st.Ended.length ≤ 100; omega⟩
  · have hno : ∀ n ∈ st.Nodes, n.ID ≠ id := fun n hn e => hx ⟨n, hn, e⟩
    have hpl:=pl_no (t:=tre st) (by show st.Nodes.length ≤ 1000; omega) hno
    obtain ⟨q,hq1,hq2⟩:=tB (R:=st.Room) (K:=st.Keep) (E:=st.Ended) h.ok h64
    refine ⟨st.Nodes,st.Ended,6,?_,?_,by omega,by omega⟩
    · unfold iM
      rw [hq1,bnoS]
      cases hq2 with
      | yes A y C hN he _ _=>exact absurd he (hno y (by rw [hN]; simp))
      | no p _ _ _=>rfl
    · unfold gQ
      rw [hpl,bnoS,bndD]; rfl
theorem yR (h : GV st) {id : Int} (h64 : I64 id) : ∃ M F e, (bno (dC ⟨st.Room, st.Keep, st.Nodes, st.Ended⟩ id) fun x16 =>
        bif (!x16.2) then some (st,(6 : Int)) else (
          bno (fR st.Room st.Keep id st.Nodes st.Ended) fun x18 =>
          some ((⟨x18.1,x18.2.1,x18.2.2.1,x18.2.2.2⟩ : Fs),0))) = some (⟨st.Room,st.Keep,M,F⟩,e) ∧ hG (tre st) id = some (⟨st.Room,st.Keep,M,F⟩,e) ∧ M.length ≤ 100 ∧ F.length ≤ 100:=by
  have hel : (st.Ended.length : Int) ≤ 24:=h.fv.el
  have hln : st.Nodes.length ≤ 24:=h.fv.ln
  obtain ⟨q,hq1,hq2⟩:=tB (R:=st.Room) (K:=st.Keep) (E:=st.Ended) h.ok h64
  obtain ⟨i,hi,hp⟩:=sQ (t:=tre st) (by show st.Nodes.length ≤ 1000; omega) id
  unfold hG
  rw [hq1,bnoS,hi,bnoS,bndD]
  by_cases hx : ∃ n ∈ st.Nodes,n.ID = id
  · have hq : q.2 = true := by
      cases hq2 with
      | yes A y C _ _ _ _=>rfl
      | no p _ hno _=>obtain ⟨n,hn,e⟩:=hx; exact absurd e (hno n hn)
    have hi0 : ¬ i < 0:=by
      cases hp with
      | yes A y C _ _ _=>omega
      | no hno=>obtain ⟨n,hn,e⟩:=hx; exact absurd e (hno n hn)
    obtain ⟨M,F,o1,o2,o3,_⟩:=zA h h.fv (id:=id) hx
    have o5 : M.length ≤ 24:=o3.ln
    have o6 : (F.length : Int) ≤ 24:=o3.el
    have o2 : eB (tre st) id = some ⟨st.Room,st.Keep,M,F⟩:=o2
    rw [hq,Bool.not_true,bM,o1,bnoS,decide_eq_false hi0,bM,o2,bnoS]
    exact ⟨_,_,_,rfl,rfl,by show M.length ≤ 100; omega,by show F.length ≤ 100; omega⟩
  · have hq : q.2 = false := by
      cases hq2 with
      | yes A y C hN e _ _=>exact absurd ⟨y,by rw [hN]; simp,e⟩ hx
      | no p _ hno _=>rfl
    have hi0 : i < 0:=by
      cases hp with
      | yes A y C hN e _=>exact absurd ⟨y,by have hN : st.Nodes = _:=hN; rw [hN]; simp,e⟩ hx
      | no hno=>decide
    rw [hq,Bool.not_false,cP,decide_eq_true hi0,cP]
    exact ⟨st.Nodes,st.Ended,6,rfl,rfl,by omega,by omega⟩
end
theorem do_eq {st : Fs} {op : Fo} (hl : st.Nodes.length ≤ 1000) (he : st.Ended.length ≤ 1000) (hp : ∀ n ∈ st.Nodes, I64 n.Parent) (h64 : I64 op.ID ∧ I64 op.Dep) (hk : 0 ≤ op.Kind) : ∃ x, pZ st op = some x ∧ kT st op = some x ∧ x.1.Nodes.length ≤ 1000 ∧ x.1.Ended.length ≤ 1000 := by
  have hown : kR st = some (st.Room,st.Keep,st.Nodes,st.Ended):=by
    unfold kR
    rw [nclone (by omega),bnoS,eclone (by omega),bnoS]
  have hcF:=aAl hl he hp
  have hcR:=aAk hl he
  rw [vV] at hcR
  by_cases hz : pJ st st.Nodes.length = 0
  · have h := aAP hz
    rw [hz] at hcF hcR
    have htre : kO st = some (tre st):=rfl
    unfold pZ kT
    simp only [hown,hcF,hcR,bnoS,bndD,decide_true,Bool.not_true,bM,htre]
    have hlate : 3 < op.Kind ∨ op.Kind = 0 ∨ op.Kind = 1 ∨ op.Kind = 2 ∨ op.Kind = 3:=by omega
    rcases hlate with k | k | k | k | k
    · refine ⟨(st, 12), ?_, ?_, hl, he⟩
      · rw [decide_eq_false (show ¬ op.Kind = 0 by omega), bM, decide_eq_false (show ¬ op.Kind = 1 by omega)]
        unfold lO
        rw [bM,bndD,decide_eq_false (show ¬ op.Kind = 2 by omega),bM,bndD,decide_eq_false (show ¬ op.Kind = 3 by omega),bM]
      · rw [decide_eq_true k,cP]
    · obtain ⟨M, F, e, r1, r2, _, r4, r5⟩ := wY h h64
      refine ⟨(⟨st.Room,st.Keep,M,F⟩,e),?_,?_,by show M.length ≤ 1000; omega,by show F.length ≤ 1000; omega⟩
      · rw [decide_eq_true k, cP]
        unfold lO
        rw [cP]
        show bno (gP st.Room st.Keep op st.Nodes st.Ended) _ = _
        rw [r1,bnoS]
      · rw [decide_eq_false (show ¬ 3 < op.Kind by omega),bM,decide_eq_true k,cP,r2 k,bnoS]; rfl
    · obtain ⟨M, F, e, r1, _, r2, r4, r5⟩ := wY h h64
      refine ⟨(⟨st.Room,st.Keep,M,F⟩,e),?_,?_,by show M.length ≤ 1000; omega,by show F.length ≤ 1000; omega⟩
      · rw [decide_eq_false (show ¬ op.Kind = 0 by omega), bM, decide_eq_true k]
        unfold lO
        rw [cP]
        show bno (gP st.Room st.Keep op st.Nodes st.Ended) _ = _
        rw [r1,bnoS]
      · rw [decide_eq_false (show ¬ 3 < op.Kind by omega),bM,decide_eq_false (show ¬ op.Kind = 0 by omega),bM,decide_eq_true k,cP,r2 (by omega),bnoS]; rfl
    · obtain ⟨M, F, e, r1, r2, r4, r5⟩ := shut_eq h h64.1
      refine ⟨(⟨st.Room,st.Keep,M,F⟩,e),?_,?_,by show M.length ≤ 1000; omega,by show F.length ≤ 1000; omega⟩
      · rw [decide_eq_false (show ¬ op.Kind = 0 by omega), bM, decide_eq_false (show ¬ op.Kind = 1 by omega)]
        unfold lO
        rw [bM,bndD,decide_eq_true k,cP]
        show bno (iM st.Room st.Keep op.ID st.Nodes st.Ended) _ = _
        rw [r1,bnoS]
      · rw [decide_eq_false (show ¬ 3 < op.Kind by omega),bM,decide_eq_false (show ¬ op.Kind = 0 by omega),bM,decide_eq_false (show ¬ op.Kind = 1 by omega),bM,decide_eq_true k,cP,r2,bnoS]; rfl
    · obtain ⟨M, F, e, r1, r2, r4, r5⟩ := yR h h64.1
      refine ⟨(⟨st.Room,st.Keep,M,F⟩,e),?_,?_,by show M.length ≤ 1000; omega,by show F.length ≤ 1000; omega⟩
      · rw [decide_eq_false (show ¬ op.Kind = 0 by omega), bM, decide_eq_false (show ¬ op.Kind = 1 by omega)]
        unfold lO
        rw [bM,bndD,decide_eq_false (show ¬ op.Kind = 2 by omega),bM,bndD,decide_eq_true k,cP]
        exact r1
      · rw [decide_eq_false (show ¬ 3 < op.Kind by omega),bM,decide_eq_false (show ¬ op.Kind = 0 by omega),bM,decide_eq_false (show ¬ op.Kind = 1 by omega),bM,decide_eq_false (show ¬ op.Kind = 2 by omega),bM,r2,bnoS]; rfl
  · refine ⟨(st, pJ st st.Nodes.length), ?_, ?_, hl, he⟩
    · unfold pZ
      simp only [hown,hcF,bnoS,bndD,decide_eq_false hz,Bool.not_false,cP]
    · unfold kT
      simp only [hcR,bnoS,bndD,decide_eq_false hz,Bool.not_false,cP]
theorem xB {st : Fs} (hl : st.Nodes.length ≤ 1000) : ∀ (r p : List Nd) (f : Nat),st.Nodes = p ++ r → r.length < f → gO st f (p.length : Int) p = some st
  | [], p, f + 1, h, _ => by
    rw [List.append_nil] at h
    rw [gO]
    simp only [bndD,h,jY,bM]
    rw [← h]
  | x :: r, p, f + 1, h, hf => by
    have hp : p.length ≤ 1000:=by rw [h] at hl; simp at hl; omega
    have hrec:=xB hl r (p ++ [x]) f (jK h) (by simpa using hf)
    rw [gO]
    simp only [bndD,lZ h,cP,fN h,bnoS,mJ (b:=32) (l:=p) (m:=[x]) (by rw [List.length_singleton]; omega) (by rw [List.length_singleton]; omega),w_at h (show st.Nodes.length ≤ 1000000 by omega)]
    exact hrec
theorem aAc {st : Fs} (hl : st.Nodes.length ≤ 1000) : lF st = some st:=xB hl st.Nodes [] fuel rfl (gS (by omega))
theorem zB {l : List Nd} (hl : l.length ≤ 1000) : ∀ (r p : List Nd) (f : Nat),l = p ++ r → r.length < f → fE l f p (p.length : Int) = some l
  | [], p, f + 1, h, _ => by
    rw [List.append_nil] at h
    rw [fE]
    simp only [bndD,h,jY,bM]
  | x :: r, p, f + 1, h, hf => by
    have hp : p.length ≤ 1000:=by rw [h] at hl; simp at hl; omega
    have hrec:=zB hl r (p ++ [x]) f (jK h) (by simpa using hf)
    rw [fE]
    simp only [bndD,lZ h,cP,fN h,bnoS,mJ (b:=32) (l:=p) (m:=[x]) (by rw [List.length_singleton]; omega) (by rw [List.length_singleton]; omega),w_at h (show l.length ≤ 1000000 by omega)]
    exact hrec
theorem aAm {st : Fs} (hl : st.Nodes.length ≤ 1000) : jN st = some st:=by
  unfold jN lK
  have h:=zB hl st.Nodes [] fuel rfl (gS (by omega))
  have h : fE st.Nodes fuel [] 0 = some st.Nodes:=h
  rw [h,bnoS]
theorem rneq34 {l m : List Nd} (hl : l.length ≤ 1000000) : jP l m = some (decide (l = m)):=by
  have heq : ∀ x y : Nd,(decide (x.ID = y.ID) && (decide (x.Parent = y.Parent) && (decide (x.Weight = y.Weight) && ((x.Closed == y.Closed) && true)))) = decide (x = y):=fun x y=>by
    obtain ⟨a,b,c,d⟩:=x; obtain ⟨e,f,g,i⟩:=y; rw [Bool.eq_iff_iff]; simp
  have:=qT (L:=eM l m) (m:=m) (z:=true) hl (fun p x r s y t f h k e=>by
    rw [eM]
    simp only [bndD,lZ h,cP,fN h,show gix m (p.length : Int) = some y by rw [e]; exact fN k,bnoS,heq,w_at h hl]) (fun _ f=>by
    rw [eM]
    simp only [bndD,jY,bM])
  rw [Bool.and_true] at this
  exact this
theorem rieq34 {l m : List Int} (hl : l.length ≤ 1000000) : iC l m = some (decide (l = m)):=by
  have:=qT (L:=eT l m) (m:=m) (z:=true) hl (fun p x r s y t f h k e=>by
    rw [eT]
    simp only [bndD,lZ h,cP,fN h,show gix m (p.length : Int) = some y by rw [e]; exact fN k,bnoS,w_at h hl]) (fun _ f=>by
    rw [eT]
    simp only [bndD,jY,bM])
  rw [Bool.and_true] at this
  exact this
def xN (a b : Fs) : Bool:=decide (a.Room = b.Room) && decide (a.Keep = b.Keep) && decide (a.Nodes = b.Nodes) && decide (a.Ended = b.Ended)
theorem sameF {a b : Fs} (hl : a.Nodes.length ≤ 1000) (he : a.Ended.length ≤ 1000) : nI a b = some (xN a b):=by
  unfold nI xN
  rw [neq34 (by omega),ieq34 (by omega)]
  simp only [bndD]
  cases (decide (a.Room = b.Room) && decide (a.Keep = b.Keep))
  · rfl
  · simp only [beq_self_eq_true, gdtt, bnoS, Bool.true_and]
    cases decide (a.Nodes = b.Nodes) <;> rfl
theorem sameR {a b : Fs} (hl : a.Nodes.length ≤ 1000) (he : a.Ended.length ≤ 1000) : iY a b = some (xN a b):=by
  unfold iY xN
  rw [rneq34 (by omega),rieq34 (by omega)]
  simp only [bndD]
  cases (decide (a.Room = b.Room) && decide (a.Keep = b.Keep))
  · rfl
  · simp only [beq_self_eq_true, gdtt, bnoS, Bool.true_and]
    cases decide (a.Nodes = b.Nodes) <;> rfl
theorem same_me (a : Fs) : xN a a = true:=by unfold xN; simp
theorem few34 {st : Fs} : kG st = some (decide (st.Nodes.length ≤ 30) && decide (st.Ended.length ≤ 30)):=by
  unfold kG
  simp only [bndD]
  congr 1
  congr 1 <;> rw [Bool.eq_iff_iff] <;> simp <;> omega
theorem aAL {st o : Fs} {op : Fo} (hp : ∀ n ∈ st.Nodes,I64 n.Parent) (h64 : I64 op.ID ∧ I64 op.Dep) (hk : 0 ≤ op.Kind) : jA st o op = some true:=by
  unfold jA
  simp only [few34,bnoS,bndD]
  cases hs : (decide (st.Nodes.length ≤ 30) && decide (st.Ended.length ≤ 30))
  · simp only [Bool.not_false,tf,gdff,bnoS,Bool.true_or,cP,wR]
  · simp only [Bool.not_true, beq_self_eq_true, gdtt, bnoS, Bool.false_or]
    cases ho : (decide (o.Nodes.length ≤ 30) && decide (o.Ended.length ≤ 30))
    · simp only [Bool.not_false,cP,wR,bnoS]
    · rw [Bool.not_true, bM]
      rw [Bool.and_eq_true,decide_eq_true_iff,decide_eq_true_iff] at hs ho
      obtain ⟨x,h1,h2,h3,h4⟩:=do_eq (op:=op) (show st.Nodes.length ≤ 1000 by omega) (show st.Ended.length ≤ 1000 by omega) hp h64 hk
      have hcF:=aAl (st:=st) (by omega) (by omega) hp
      have hcR:=aAk (st:=st) (by omega) (by omega)
      rw [vV] at hcR
      simp only [aAc (st:=st) (by omega),aAc (st:=o) (by omega),bnoS,h1,h2,aAm h3,aAm (st:=st) (by omega),sameR h3 h4,same_me,bndD,decide_true,Bool.and_self,beq_self_eq_true,gdtt,hcF,hcR,sameF (a:=st) (b:=o) (by omega) (by omega),sameR (a:=st) (b:=o) (by omega) (by omega),sameR (a:=st) (b:=st) (by omega) (by omega),wR]
end Go.Fn
open Go.RowKit Go.WideShapes Go.ChangeShapes
namespace Go.IL

def sL (v : Value) : Prop:=∀ a n c,v = .slice (some a) n c → a.spot = none
theorem uW {P : Program} {w : World} {r : Reach} {b : Nat} {t : TypeId} {v : Value} (h : Cell.okWide P w r b t v) : sL v:=by
  intro a n c e
  subst e
  have h2 : Cell.ok P w r b t (.slice (some a) n c):=by
    unfold Cell.okWide at h
    split at h <;> first | exact h | (rename_i h3 _; cases h3) | (rename_i h3; cases h3) | skip
    all_goals first | exact h | simp_all
  unfold Cell.ok at h2
  split at h2 <;> simp_all [World.has]
theorem aAA {P : Program} {w : World} {r : Reach} {b : Nat} {t : TypeId} {v : Value} (h : Value.okWide P w r b t v) : ∀ u ∈ v.cells.toList,sL u:=by
  have agg : ∀ cs : Array Value,Row.okWide P w r b t cs → ∀ u ∈ cs.toList,sL u:=by
    intro cs ⟨ts,_,_,h3⟩ u hu
    obtain ⟨i,hi⟩:=List.getElem?_of_mem hu
    obtain ⟨q,_,hq⟩:=h3 i u (by simpa using hi)
    exact uW hq
  unfold Value.okWide at h
  split at h
  · obtain ⟨cs,rfl,_,h⟩:=h; simpa [Value.cells] using agg cs h
  · obtain ⟨cs,rfl,_,h⟩:=h; simpa [Value.cells] using agg cs h
  · have h2 := uW h
    intro u hu
    cases v with
    | agg cs =>
      exfalso
      unfold Cell.okWide at h
      split at h <;> simp_all [Cell.ok]
    | _=>simp [Value.cells] at hu; subst hu; exact h2

def Env.none (w : World) : Env:=⟨w,fun _ _=>False⟩
def OpD (P : Program) (sp : Bool) (t : TypeId) (Q : List D → Prop) : Prop :=
  ∀ {H : Type} {enc : TypeId × Value → H} {w : World} {base : Nat} {spare : Nat → Bool} {held : Bool} {fuel : Nat} {cs : List Value} {x : DataW H × List MemPlace},
    DataW.trod enc P w base spare held fuel t cs = some x → (sp = true → ∀ v ∈ cs,sL v) → ∃ ds,RdL (Env.none w) β0 cs ds ∧ Q ds
def qInt (k : IntKind) (ds : List D) : Prop:=∃ n : Int,ds = [.int k n] ∧ (k.min ≤ n ∧ n ≤ k.max)
def qBool (ds : List D) : Prop:=∃ b : Bool,ds = [.bool b]
def qSlice {α : Type} (f : Enc α) (wf : α → Prop) (ds : List D) : Prop:=∃ l : List α,ds = [.slice false (l.map f.d)] ∧ l.length ≤ 9223372036854775807 ∧ ∀ x ∈ l,wf x
def qList : List (List D → Prop) → List D → Prop
  | [],ds=>ds = []
  | Q :: Qs,ds=>∃ a b,ds = a ++ b ∧ Q a ∧ qList Qs b

section
variable {P : Program} {sp : Bool} {t : TypeId}
theorem nT {k : IntKind} (hu : P.underlying t = some (.int k)) : OpD P sp t (qInt k):=by
  intro H enc w base spare held fuel cs x h _
  obtain ⟨n,rfl,rfl,hw⟩:=DataW.trod_int hu h
  exact ⟨[.int k n],.cons (.int _ _ _) (.nil _),n,rfl,by simpa [Lit.wf] using hw⟩
theorem xC (hu : P.underlying t = some .bool) : OpD P sp t qBool:=by
  intro H enc w base spare held fuel cs x h _
  obtain ⟨b,rfl,rfl⟩:=DataW.trod_bool hu h
  exact ⟨[.bool b],.cons (.bool _ _) (.nil _),b,rfl⟩
theorem vD {α : Type} {f : Enc α} {e : TypeId} {wf : α → Prop} (hu : P.underlying t = some (.slice e)) (hc : P.cellsOf e = f.sz) (he : OpD P false e (fun ds => ∃ a, ds = (f.d a).cells ∧ wf a)) : OpD P sp t (qSlice f wf) := by
  intro H enc w base spare held fuel cs x h hs
  rcases DataW.trod_slice hu h with ⟨rfl,_⟩ | ⟨a,len,cap,elems,rest,n,_,rfl,rfl,hb,hl,hm,hlen,hel,_,_⟩
  · exact ⟨[.slice false []],.cons (.nslice _ _) (.nil _),[],rfl,by simp,by simp⟩
  · by_cases hl0 : len = 0
    · subst hl0; exact ⟨[.slice false []],.cons (.eslice _ a cap false (fun h=>by cases h)) (.nil _),[],rfl,by simp,by simp⟩
    have hsp0 : a.spot = none:=by
      have h1:=hel 0 (by omega)
      have h2 : elems[0]? = some (elems[0]'(by omega)):=List.getElem?_eq_getElem _
      rw [h2,Option.bind_eq_some_iff] at h1
      obtain ⟨vs,h3,_⟩:=h1
      have h7:=World.cells?_some h3
      have hp:=f.pos
      have h8:=h7.2.2 0 (by rw [hc]; exact hp)
      rw [Nat.zero_mul] at h8
      have e0 : ((a.add 0).add 0) = a:=rfl
      rw [e0] at h8
      cases hsp : a.spot with
      | none=>rfl
      | some q =>
        exfalso
        unfold World.cell? at h8
        rw [hsp] at h8
        split at h8
        · simp at h8; have:=h7.1; simp_all
        · have:=h7.1; simp_all
    have ha : a = ⟨a.block,a.off,none⟩:=by cases a; simp_all
    have each : ∀ i,i < len → ∃ (vs : List Value) (y : α),(∀ k v,vs[k]? = some v → w.cell? ⟨a.block,a.off + (i * f.sz + k),none⟩ = some v) ∧ RdL (Env.none w) β0 vs (f.d y).cells ∧ wf y:=by
      intro i hi
      have h1:=hel i hi
      have h2 : elems[i]? = some (elems[i]'(by omega)):=List.getElem?_eq_getElem _
      rw [h2,Option.bind_eq_some_iff] at h1
      obtain ⟨vs,h3,h4⟩:=h1
      obtain ⟨ds,h5,y,rfl,h6⟩:=he h4 (by simp)
      refine ⟨vs,y,fun k v hk=>?_,h5,h6⟩
      have h7:=World.cells?_some h3
      have hk':=(List.getElem?_eq_some_iff.1 hk).1
      have h8:=h7.2.2 k (by omega)
      rw [hk,ha,hc] at h8
      rw [← h8]
      congr 1
      by_cases h9 : i * f.sz = 0
      · by_cases h10 : k = 0
        · simp [Addr.add,h9,h10]
        · simp [Addr.add,h9,h10]
      · by_cases h10 : k = 0
        · simp [Addr.add,h9,h10]
        · simp [Addr.add,h9,h10,Nat.add_assoc]
    have all : ∀ m,m ≤ len → ∃ (vs : List Value) (l : List α),l.length = m ∧ (∀ k v,vs[k]? = some v → w.cell? ⟨a.block,a.off + k,none⟩ = some v) ∧ RdL (Env.none w) β0 vs (D.flat (l.map f.d)) ∧ ∀ y ∈ l,wf y:=by
      intro m
      induction m with
      | zero=>intro _; exact ⟨[],[],rfl,by simp,.nil _,by simp⟩
      | succ m ih =>
        intro hm'
        obtain ⟨vs,l,h1,h2,h3,h4⟩:=ih (by omega)
        obtain ⟨us,y,h5,h6,h7⟩:=each m (by omega)
        have hvl : vs.length = m * f.sz:=by rw [h3.length,f.flat_len,h1]
        refine ⟨vs ++ us,l ++ [y],by simp [h1],fun k v hk=>?_,?_,?_⟩
        · by_cases hk' : k < vs.length
          · exact h2 k v (by rwa [List.getElem?_append_left hk'] at hk)
          · rw [List.getElem?_append_right (by omega)] at hk
            have:=h5 _ _ hk
            rwa [hvl,show m * f.sz + (k - m * f.sz) = k by omega] at this
        · rw [List.map_append]
          have e2 : D.flat (l.map f.d ++ [y].map f.d) = D.flat (l.map f.d) ++ (f.d y).cells:=by simp [D.flat]
          rw [e2]; exact h3.append h6
        · intro z hz
          rcases List.mem_append.1 hz with h | h
          · exact h4 z h
          · simp at h; subst h; exact h7
    obtain ⟨vs,l,h1,h2,h3,h4⟩:=all len (Nat.le_refl _)
    refine ⟨[.slice false (l.map f.d)],.cons ?_ (.nil _),l,rfl,by unfold maxLen at hm; omega,h4⟩
    rw [ha]
    exact .slice _ _ _ len cap f.sz false vs _ (by rw [List.length_map,h1]) hl (by simp) (f.len l) f.pos (fun k v hk=>⟨h2 k v hk,fun h=>h⟩) h3

def sJ (P : Program) : Nat → List Field → Bool
  | _,[]=>true
  | k,f :: fs=>f.offset == k && sJ P (k + P.cellsOf f.type) fs
inductive OpFs (P : Program) (sp : Bool) : List Field → List (List D → Prop) → Prop
  | nil : OpFs P sp [] []
  | cons {f fs Q Qs} (h : OpD P sp f.type Q) (t : OpFs P sp fs Qs) : OpFs P sp (f :: fs) (Q :: Qs)
theorem rJ {fs : Array Field} {Qs : List (List D → Prop)} (hu : P.underlying t = some (.struct fs)) (hf : sJ P 0 fs.toList = true) (hn : P.cellsOf t = (fs.toList.map fun f=>P.cellsOf f.type).sum) (h : OpFs P sp fs.toList Qs) : OpD P sp t (qList Qs):=by
  intro H enc w base spare held fuel cs x hx hs
  obtain ⟨xs,n,_,_,hlen,hxl,hfld⟩:=DataW.trod_struct hu hx
  have key : ∀ (l : List Field) (Qs : List (List D → Prop)) (k : Nat),OpFs P sp l Qs → sJ P k l = true → k + (l.map fun f=>P.cellsOf f.type).sum = cs.length →
      (∀ f ∈ l,∃ y,DataW.trod enc P w base spare held n f.type ((cs.drop f.offset).take (P.cellsOf f.type)) = some y) → ∃ ds,RdL (Env.none w) β0 (cs.drop k) ds ∧ qList Qs ds:=by
    intro l Qs k ho
    induction ho generalizing k with
    | nil =>
      intro _ h1 _
      refine ⟨[],?_,rfl⟩
      rw [List.drop_of_length_le (by simp at h1; omega)]; exact .nil _
    | @cons f fs Q Qs h t ih =>
      intro h1 h2 h3
      simp only [sJ,Bool.and_eq_true,beq_iff_eq] at h1
      simp only [List.map_cons,List.sum_cons] at h2
      obtain ⟨y,hy⟩:=h3 f (by simp)
      rw [h1.1] at hy
      obtain ⟨ds,h4,h5⟩:=h hy (fun hsp v hv=>hs hsp v (List.mem_of_mem_drop (List.mem_of_mem_take hv)))
      obtain ⟨es,h6,h7⟩:=ih (k + P.cellsOf f.type) h1.2 (by omega) (fun g hg=>h3 g (by simp [hg]))
      refine ⟨ds ++ es,?_,ds,es,rfl,h5,h7⟩
      have:=h4.append h6
      rwa [← List.drop_drop,List.take_append_drop] at this
  have:=key fs.toList Qs 0 h hf (by rw [Nat.zero_add,← hn,hlen]) (fun f hf=>by
    obtain ⟨i,hi⟩:=List.getElem?_of_mem hf
    have h1:=hfld i f (by simpa using hi)
    have h2 : i < xs.length:=by rw [hxl]; have:=(List.getElem?_eq_some_iff.1 hi).1; simpa using this
    exact ⟨xs[i],by rw [h1,List.getElem?_eq_getElem h2]⟩)
  rwa [List.drop_zero] at this
theorem OpD.to {Q R : List D → Prop} (h : OpD P sp t Q) (k : ∀ ds,Q ds → R ds) : OpD P sp t R:=by
  intro H enc w base spare held fuel cs x hx hs
  obtain ⟨ds,h1,h2⟩:=h hx hs
  exact ⟨ds,h1,k ds h2⟩
theorem wH {Q : List D → Prop} (h : OpD P true t Q) {H : Type} {enc : TypeId × Value → H} {w : World} {base b0 : Nat} {spare : Nat → Bool} {held : Bool} {v : Value} {d : DataW H} {ps : List MemPlace} {r : Reach}
    (hv : Value.okWide P w r b0 t v) (hd : DataW.Trod enc P w base spare held t v d ps) : ∃ ds,RdL (Env.none w) β0 v.cells.toList ds ∧ Q ds:=by
  obtain ⟨fuel,hf⟩:=hd
  exact h hf (fun _=>aAA hv)
theorem yU {E : Env} {cs : Array Value} {ds : List D} (h : RdL E β0 (Value.cells (.agg cs)).toList ds) : Rd E β0 (.agg cs) (.agg ds):=by
  have:=Rd.agg (E:=E) β0 cs.toList ds (by simpa [Value.cells] using h)
  simpa using this

section
variable {H : Type} {enc : TypeId × Value → H}
theorem qA (hl : laidOutB P = true) {W W' : World} (hb : Below W.heap.size W W') {sp : Nat → Bool} : ∀ {ts : List TypeId} {vs : List Value} {ds : List (DataW H)} {ps : List MemPlace},
    (∀ t ∈ ts,P.readableRec t = true ∧ t < P.types.size) → DataW.TrodAll enc P W 0 (fun _=>true) true ts vs ds ps → (∀ x ∈ ps,x.block < W.heap.size) → (∀ x ∈ ps,sp x.block = true) →
    DataW.TrodAll enc P W' 0 sp true ts vs ds ps
  | [], vs, ds, ps, _, h, _, _ => by
    obtain ⟨rfl,rfl,rfl⟩:=trodAll_nil h; exact rfl
  | t :: ts, vs, ds, ps, hr, h, hlt, hsp => by
    obtain ⟨v,vs',d,ds',p,q,rfl,rfl,rfl,h1,h2⟩:=trodAll_cons h
    refine ⟨p,q,?_,qA hl hb (fun t ht=>hr t (by simp [ht])) h2 (fun x hx=>hlt x (by simp [hx])) (fun x hx=>hsp x (by simp [hx])),rfl⟩
    have hx : ∀ x ∈ p,x ∈ p ++ q:=fun x hx=>by simp [hx]
    exact WideElems.Trod_stays hl (hr t (by simp)).1 (hr t (by simp)).2 h1 (fun x hxp=>hb.same (hlt x (hx x hxp))) (fun x hxp=>hsp x (hx x hxp))
theorem uB {f : Func} {s : ChangeSpec} {apart fresh handsOn again : Bool} {W W' : World} {args : Array Value} {v : Value} {ds gs : List (DataW H)} {before pa pv : List MemPlace}
    (hW : DataW.Whole enc P f.params.toList s.vars apart W args.toList ds gs before)
    (hres : ∀ (b : Nat) (sp : Nat → Bool) (hd : Bool),DataW.TrodAll enc P W' b sp hd f.resultTypes.toList (v.resultList f.resultTypes.size) (s.fn H (ds ++ gs)).results [])
    (hargs : ∀ sp : Nat → Bool,(∀ p ∈ before,sp p.block = true) → DataW.TrodAll enc P W' 0 sp true f.params.toList args.toList (s.fn H (ds ++ gs)).args pa)
    (hvars : ∀ sp : Nat → Bool,(∀ p ∈ before,sp p.block = true) → DataW.TrodVars enc P W' sp s.vars (s.fn H (ds ++ gs)).vars pv)
    (hps : before = pa ++ pv) (hb : Below W.heap.size W W')
    (hok : ∀ (j : Nat) (t : TypeId) (r : Value),f.resultTypes[j]? = some t → (v.resultList f.resultTypes.size)[j]? = some r → Value.okWide P W' .any 0 t r) :
    s.post enc P f apart fresh handsOn again W args v W':=by
  have hlt : ∀ p ∈ before,p.block < W.heap.size:=fun p hp=>hW.lt p hp
  have hold : ∀ p ∈ before,(fun b=>decide (b < W.heap.size)) p.block = true:=fun p hp=>by simpa using hlt p hp
  refine ⟨ds,gs,before,[],pa,pv,hW,hres _ _ _,hargs _ hold,hvars _ hold,World.keptBut_mono (fun p hp=>⟨hp,?_⟩) (hb.frame (· ∈ before)),fun _=>?_⟩
  · rw [hps, List.mem_append] at hp
    exact Or.inr hp
  · obtain ⟨_, _, _, _, _, hz, hn⟩ := hW
    refine ⟨hok,_,_,([] ++ pa) ++ pv,⟨[] ++ pa,pv,trodAll_append (hargs _ (fun _ _=>rfl)) (hres _ _ _),hvars _ (fun _ _=>rfl),rfl,?_,?_⟩,?_⟩
    · intro b off hp
      have hin : MemPlace.cell b off ∈ before:=by rw [hps]; simpa using hp
      rw [hb.frozen (hlt _ hin)]
      exact hz b off hin
    · intro ha
      have:=hn ha
      rw [hps] at this
      simpa using this
    · intro p hp _
      rw [hps]
      simpa using hp
theorem aAF {f : Func} {s : ChangeSpec} {apart fresh handsOn again : Bool} {W W' : World} {args : Array Value} {ds gs : List (DataW H)} {before : List MemPlace} {tb : TypeId}
    (hl : laidOutB P = true) (hr : ∀ t ∈ f.params.toList,P.readableRec t = true ∧ t < P.types.size) (hv : s.vars = []) (hres : f.resultTypes = #[tb]) (hbool : P.underlying tb = some .bool)
    (hfn : s.fn H (ds ++ gs) = { results:=[.lit (.bool true)],args:=ds })
    (hW : DataW.Whole enc P f.params.toList s.vars apart W args.toList ds gs before) (hb : Below W.heap.size W W') : s.post enc P f apart fresh handsOn again W args (.bool true) W':=by
  have hW':=hW
  obtain ⟨p,q,hA,hV,hbef,hfz,hnd⟩:=hW
  rw [hv] at hV
  obtain ⟨rfl,rfl⟩:=trodVars_none hV
  have hlt : ∀ x ∈ before,x.block < W.heap.size:=fun x hx=>hW'.lt x hx
  have hsub : ∀ x ∈ p,x ∈ before:=fun x hx=>by rw [hbef]; simp [hx]
  refine uB (pa:=p) (pv:=[]) hW' ?_ ?_ ?_ ?_ hb ?_
  · intro b sp hd
    rw [hfn,hres]
    exact trodAll_mk1 (shut_bool hbool true)
  · intro sp hsp
    rw [hfn]
    exact qA hl hb hr hA (fun x hx=>hlt x (hsub x hx)) (fun x hx=>hsp x (hsub x hx))
  · intro sp hsp
    rw [hfn,hv]; exact rfl
  · exact hbef
  · exact ok_one hres rfl (okWide_bool_mk hbool true)
end
end
end Go.IL
namespace Go.IL
theorem rF {P : Program} {w W : World} {r : Reach} {b : Nat} {t : TypeId} {v : Value} {ds : List D} (hv : Value.okWide P W r b t v) (hg : lC P t = true) (h : RdL (Env.none w) β0 v.cells.toList ds) : Rd (Env.none w) β0 v (.agg ds):=by
  unfold lC at hg
  unfold Value.okWide at hv
  split at hv
  · obtain ⟨cs,rfl,_⟩:=hv; exact yU h
  · obtain ⟨cs,rfl,_⟩:=hv; exact yU h
  · rename_i h1 h2
    split at hg
    · rename_i h3; exact absurd h3 (h1 _)
    · rename_i h3; exact absurd h3 (h2 _ _)
    · cases hg
end Go.IL
open Go.RowKit Go.WideShapes Go.ChangeShapes
namespace Go.IL
end Go.IL
