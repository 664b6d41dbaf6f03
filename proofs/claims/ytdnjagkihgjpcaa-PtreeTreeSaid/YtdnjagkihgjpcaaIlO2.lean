/-
  A part of the proof: rules and plain facts. No condition.
-/
import Derived.Test.YtdnjagkihgjpcaaIlP136
import Derived.Test.YtdnjagkihgjpcaaIlA19D
import Derived.Test.YtdnjagkihgjpcaaIlBd
import Derived.ProofKit
import Derived.OpenShut
set_option linter.all false
open Go Go.IL
namespace Go.Fn
def qQ (ns : List Nk) (p : Nat) : Nd:=⟨(ns.getD p default).id,(if (ns.getD p default).up = -1 then 0 else idP ns (ns.getD p default).up.toNat),(ns.getD p default).weight,(ns.getD p default).closed⟩
theorem pR {A : AS} {sp : List Nat} {ns : List Nk} {first : Int} {kids : Option Nat → List Nat} {N : List Nd} (h : RL A sp ns first kids N) {p : Nat} (hp : eL A p) : qQ ns p ∈ N ∧ (qQ ns p).ID = idP ns p ∧ ∃ n u,ns[p]? = some n ∧ n.up = upI u ∧ hdK A u ∧ qQ ns p = asN ns n u:=by
  obtain ⟨u,n,k1,k2,k3,k4,k5⟩:=h.up p hp
  have e : qQ ns p = asN ns n u:=by
    unfold qQ asN
    rw [List.getD_eq_getElem?_getD,k2]
    show (⟨n.id,(if n.up = -1 then 0 else idP ns n.up.toNat),n.weight,n.closed⟩ : Nd) = _
    rw [k3]
    cases u with
    | none=>rfl
    | some q =>
      rw [show upI (some q) = (q : Int) from rfl,if_neg (by omega),Int.toNat_natCast]; rfl
  rw [e]
  exact ⟨k5,(bZ k2).symm,n,u,k2,k3,k1,rfl⟩
theorem nodes_L {A : AS} {sp : List Nat} {ns : List Nk} {first : Int} {kids : Option Nat → List Nat} {N : List Nd} (h : RL A sp ns first kids N) {lv : List Nat} (hl : lv.length ≤ 1000) (hc : ∀ p ∈ lv,eL A p) (room keep : Int) (C : List AC) (F U : Int) (cl : List Int) (r : List Nat) : ∀ (q : List Nat) (f : Nat),lv = q ++ r → r.length < f → dT room keep C F U ns first cl (toI lv) f (q.map (qQ ns)) (q.length : Int) = (bno (cL (lv.map (qQ ns))) fun x31=>chk (x31.length = (lv.map (qQ ns)).length) <| some x31):=by
  induction r with
  | nil =>
    intro q f h1 hf
    obtain ⟨f,rfl⟩ : ∃ g,f = g + 1:=⟨f - 1,by simp at hf; omega⟩
    rw [List.append_nil] at h1
    subst h1
    rw [dT,bndD,show (toI lv).length = lv.length by unfold toI; simp,decide_eq_false (by omega),bU]
  | cons p r ih =>
    intro q f h1 hf
    obtain ⟨f,rfl⟩ : ∃ g,f = g + 1:=⟨f - 1,by simp at hf; omega⟩
    obtain ⟨e1,e2,e3,e4⟩:=gixI h1 hl
    have hq : q.length ≤ 1000:=by rw [h1] at hl; simp at hl; omega
    obtain ⟨_,_,n,u,k1,k2,k3,k4⟩:=pR h (hc p (by rw [h1]; simp))
    rw [dT,bndD,e1,cM,e2,bnoS,dG,k1,bnoS,chk,if_pos h.len,Int.toNat_natCast,k1,bnoS,k2,yO h k3,bnoS,mC (by simp; omega) (by simp; omega),bnoS,bndD,e4]
    have:=ih (q ++ [p]) f (by rw [h1]; simp) (by simpa using hf)
    rw [List.map_append,List.map_singleton,k4] at this
    exact this
end Go.Fn
open Go Go.IL
namespace Go.Fn
theorem kids_L3 {A : AS} {sp : List Nat} {ns : List Nk} {first : Int} {kids : Option Nat → List Nat} {N : List Nd} (h : RL A sp ns first kids N) (room keep : Int) (C : List AC) (F U : Int) (cl : List Int) : ∀ (r : List Nat) (acc : List Int) (a : Int) (f : Nat),gF ns a r → (∀ p ∈ r,eL A p) → acc.length + r.length ≤ 1000 → r.length < f → eB room keep C F U ns first cl f a acc = eC (acc ++ r.map (idP ns)):=by
  intro r
  induction r with
  | nil =>
    intro acc a f hc _ _ hf
    obtain ⟨f,rfl⟩ : ∃ g,f = g + 1:=⟨f - 1,by simp at hf; omega⟩
    have hc : a = -1:=hc
    rw [eB,bndD,hc,decide_eq_true rfl,Bool.not_true,bU,List.map_nil,List.append_nil]
  | cons p r ih =>
    intro acc a f hc hl ha hf
    obtain ⟨f,rfl⟩ : ∃ g,f = g + 1:=⟨f - 1,by simp at hf; omega⟩
    obtain ⟨h1,n,h2,h3⟩:=hc
    have hid : dE (p : Int) room keep C F U ns first cl = some (idP ns p):=yO h (u:=some p) (hl p (by simp)) room keep C F U cl
    simp at ha
    rw [eB,bndD,h1,decide_eq_false (by omega),Bool.not_false,cM,dG,h2,bnoS,Int.toNat_natCast,h2,bnoS,hid,bnoS,mC (by simp; omega) (by simp; omega),bnoS]
    rw [ih (acc ++ [idP ns p]) n.next f h3 (fun z hz=>hl z (by simp [hz])) (by simp; omega) (by simpa using hf),List.map_cons,List.append_assoc]; rfl
theorem kids_L4 {A : AS} {sp : List Nat} {ns : List Nk} {first : Int} {kids : Option Nat → List Nat} {N : List Nd} (h : RL A sp ns first kids N) (room keep : Int) (C : List AC) (F U : Int) (cl : List Int) : ∀ (r : List Nat) (acc : List Int) (a : Int) (f : Nat),gF ns a r → (∀ p ∈ r,eL A p) → acc.length + r.length ≤ 1000 → r.length < f → eA room keep C F U ns first cl f a acc = eC (acc ++ r.map (idP ns)):=by
  intro r
  induction r with
  | nil =>
    intro acc a f hc _ _ hf
    obtain ⟨f,rfl⟩ : ∃ g,f = g + 1:=⟨f - 1,by simp at hf; omega⟩
    have hc : a = -1:=hc
    rw [eA,bndD,hc,decide_eq_true rfl,Bool.not_true,bU,List.map_nil,List.append_nil]
  | cons p r ih =>
    intro acc a f hc hl ha hf
    obtain ⟨f,rfl⟩ : ∃ g,f = g + 1:=⟨f - 1,by simp at hf; omega⟩
    obtain ⟨h1,n,h2,h3⟩:=hc
    have hid : dE (p : Int) room keep C F U ns first cl = some (idP ns p):=yO h (u:=some p) (hl p (by simp)) room keep C F U cl
    simp at ha
    rw [eA,bndD,h1,decide_eq_false (by omega),Bool.not_false,cM,dG,h2,bnoS,Int.toNat_natCast,h2,bnoS,hid,bnoS,mC (by simp; omega) (by simp; omega),bnoS]
    rw [ih (acc ++ [idP ns p]) n.next f h3 (fun z hz=>hl z (by simp [hz])) (by simp; omega) (by simpa using hf),List.map_cons,List.append_assoc]; rfl
end Go.Fn
open Go Go.IL
namespace Go.Fn
theorem aAQ {A : AS} {ns : List Nk} {first : Int} {cl : List Int} {R K : Int} {N : List Nd} {E : List Int} (h : TS A ns first cl R K N E) (id : Int) (room keep : Int) :
    (¬ (hasN N id ∨ id = 0) ∧ dX id room keep A.Cells A.Free A.Used ns first cl = some []) ∨
    (hasN N id ∨ id = 0) ∧ ∃ l : List Int,dX id room keep A.Cells A.Free A.Used ns first cl = eC l ∧ l.Nodup ∧ l.length ≤ 64 ∧ (∀ m ∈ N,(m.ID ∈ l ↔ m.Parent = id)) ∧ ∀ i ∈ l,hasN N i:=by
  obtain ⟨sp,kids,hR,h0⟩:=h.rl
  have hpos : ∀ m ∈ N,1 ≤ m.ID:=fun m hm=>(h.fv.ra m hm).1.1
  have hnd : ∀ u,hdK A u → ((kids u).map (idP ns)).Nodup:=fun u hu =>
    List.pairwise_map.2 ((hR.lk.nd u hu).imp_of_mem fun {p q} hp hq hne e=>hne (hR.inj p q (hR.kid u p hu hp) (hR.kid u q hu hq) e))
  have hin : ∀ u,hdK A u → ∀ i ∈ (kids u).map (idP ns),hasN N i:=fun u hu i hi=>by
    obtain ⟨p,hp,rfl⟩:=List.mem_map.1 hi
    obtain ⟨v,n,k1,k2,k3,k4,k5⟩:=hR.up p (hR.kid u p hu hp)
    exact ⟨_,k5,(bZ k2).symm⟩
  unfold dX
  rcases oL h id room keep with ⟨f1,p,f2,f3,f4⟩ | ⟨f1,f4⟩
  · have hsz := hR.lk.size hR.len (u := some p) f2
    obtain ⟨v,n,k1,k2,k3,k4,k5⟩:=hR.up p f2
    have hch:=hR.lk.ch (some p) f2
    rw [jB k2] at hch
    refine .inr ⟨.inl f1,(kids (some p)).map (idP ns),?_,hnd (some p) f2,by rw [List.length_map]; exact hsz,fun m hm=>?_,hin (some p) f2⟩
    · rw [f4, bnoS, bndD, bndD, bndD, decide_eq_false (show ¬ (p : Int) = -1 by omega), Bool.false_and, bU, bndD, bU, dG, k2, bnoS, chk, if_pos hR.len, Int.toNat_natCast, k2, bnoS]
      rw [kids_L4 hR room keep A.Cells A.Free A.Used cl (kids (some p)) [] n.first fuel hch (fun z hz=>hR.kid (some p) z f2 hz) (by simp; omega) (gH (by omega))]; rfl
    · rw [oH hR hpos (u:=some p) f2 hm,← f3]; rfl
  · by_cases e : id = 0
    · have hsz := hR.lk.size hR.len (u := none) trivial
      refine .inr ⟨.inr e,(kids none).map (idP ns),?_,hnd none trivial,by rw [List.length_map]; exact hsz,fun m hm=>?_,hin none trivial⟩
      · rw [f4, bnoS, bndD, bndD, bndD, decide_eq_true e, Bool.not_true, Bool.and_false, bU, bndD, show decide ((-1 : Int) = -1) = true from rfl, cM, chk, if_pos hR.len]
        rw [kids_L3 hR room keep A.Cells A.Free A.Used cl (kids none) [] first fuel (hR.lk.ch none trivial) (fun z hz=>hR.kid none z trivial hz) (by simp; omega) (gH (by omega))]; rfl
      · rw [oH hR hpos (u:=none) trivial hm,e]; rfl
    · refine .inl ⟨fun hh => hh.elim f1 e, ?_⟩
      rw [f4,bnoS,bndD,bndD,bndD,decide_eq_false e,Bool.not_false,Bool.and_true,show decide ((-1 : Int) = -1) = true from rfl,cM]
end Go.Fn
open Go Go.IL
namespace Go.Fn
theorem nI {α : Type} {k : α → Int} : ∀ {w : List α},w.Pairwise (fun a b=>k a ≤ k b) → (w.map k).Nodup → w.Pairwise (fun a b=>k a < k b)
  | [],_,_=>.nil
  | x :: w, h, hn => by
    obtain ⟨h1,h2⟩:=List.pairwise_cons.1 h
    obtain ⟨n1,n2⟩:=List.nodup_cons.1 hn
    refine List.pairwise_cons.2 ⟨fun y hy=>?_,nI h2 n2⟩
    have:=h1 y hy
    have : k x ≠ k y:=fun e=>n1 (List.mem_map.2 ⟨y,hy,e.symm⟩)
    omega
theorem vsort_t {l : List Int} (hl : l.length ≤ 24) (hn : l.Nodup) : ∃ w,uA l = some w ∧ w.Perm l ∧ w.Pairwise (· < ·):=by
  have hp:=kI id l
  refine ⟨_,sortI_t (by omega),hp,?_⟩
  refine nI (k:=id) (kZ id l) ?_
  rw [List.map_id]
  exact (hp.nodup_iff).2 hn
theorem ksort_t {l : List Nd} (hl : l.length ≤ 24) (hn : (l.map (·.ID)).Nodup) (hg : ∀ m ∈ l,0 ≤ m.ID ∧ m.ID ≤ 1048576) : ∃ w,cL l = some w ∧ w.Perm l ∧ w.Pairwise (fun a b=>a.ID < b.ID):=by
  have hp:=kI (fun m : Nd=>m.ID) l
  refine ⟨_,sortK_t (by omega) (fun m hm=>?_) hn,hp,nI (kZ _ l) (((hp.map _).nodup_iff).2 hn)⟩
  have:=hg m hm
  rw [Bool.and_eq_true,decide_eq_true_iff,decide_eq_true_iff]
  exact this
end Go.Fn
open Go Go.IL
namespace Go.Fn
theorem Kids_ts {A : AS} {ns : List Nk} {first : Int} {cl : List Int} {R K : Int} {N : List Nd} {E : List Int} (h : TS A ns first cl R K N E) (id : Int) (room keep : Int) :
    ∃ w : List Int,dX id room keep A.Cells A.Free A.Used ns first cl = some w ∧ w.Pairwise (· < ·) ∧ (∀ i ∈ w,hasN N i) ∧ (¬ (hasN N id ∨ id = 0) → w = []) ∧ ((hasN N id ∨ id = 0) → ∀ m ∈ N,(m.ID ∈ w ↔ m.Parent = id)):=by
  rcases aAQ h id room keep with ⟨h1,h2⟩ | ⟨h1,l,h2,h3,h4,h5,h6⟩
  · exact ⟨[],h2,List.Pairwise.nil,fun i hi=>(by cases hi),fun _=>rfl,fun hh=>absurd hh h1⟩
  · have hl : l.length ≤ 24 := by
      have:=mH h3 (m:=N.map (·.ID)) fun i hi=>by
        obtain ⟨m,hm,e⟩:=h6 i hi
        exact List.mem_map.2 ⟨m,hm,e⟩
      rw [List.length_map] at this
      have hN : N.length ≤ 24:=h.fv.ln
      omega
    obtain ⟨w,hw,hp,hs⟩:=vsort_t hl h3
    refine ⟨w,?_,hs,fun i hi=>h6 i (hp.mem_iff.1 hi),fun hh=>absurd h1 hh,fun _ m hm=>?_⟩
    · rw [h2]
      unfold eC
      unfold gG
      rw [hw,bnoS,chk,if_pos hp.length_eq]
    · rw [hp.mem_iff]; exact h5 m hm
end Go.Fn
open Go Go.IL
namespace Go.Fn
theorem vB : ∀ {l m : List Nd}, l.Pairwise (fun a b => a.ID < b.ID) → m.Pairwise (fun a b => a.ID < b.ID) → (∀ x, x ∈ l ↔ x ∈ m) → l = m
  | [],[],_,_,_=>rfl
  | [],y :: m,_,_,h=>by have:=(h y).2 (by simp); cases this
  | x :: l,[],_,_,h=>by have:=(h x).1 (by simp); cases this
  | x :: l, y :: m, h1, h2, h => by
    obtain ⟨a1,a2⟩:=List.pairwise_cons.1 h1
    obtain ⟨b1,b2⟩:=List.pairwise_cons.1 h2
    have e : x = y:=by
      rcases List.mem_cons.1 ((h x).1 (by simp)) with e | hx
      · exact e
      · rcases List.mem_cons.1 ((h y).2 (by simp)) with e | hy
        · exact e.symm
        · have := a1 y hy
          have:=b1 x hx
          omega
    subst e
    rw [vB a2 b2 fun z=>?_]
    constructor
    · intro hz
      rcases List.mem_cons.1 ((h z).1 (List.mem_cons_of_mem _ hz)) with e | hz2
      · have := a1 z hz
        rw [e] at this; omega
      · exact hz2
    · intro hz
      rcases List.mem_cons.1 ((h z).2 (List.mem_cons_of_mem _ hz)) with e | hz2
      · have := b1 z hz
        rw [e] at this; omega
      · exact hz2
theorem aAO {A : AS} {ns : List Nk} {first : Int} {cl : List Int} {R K : Int} {N : List Nd} {E : List Int} (h : TS A ns first cl R K N E) (room keep : Int) : gC room keep A.Cells A.Free A.Used ns first cl = some N:=by
  obtain ⟨sp,kids,hR,h0⟩:=h.rl
  have hN : N.length ≤ 24:=h.fv.ln
  have hlen : (jQ A.Cells 0).length = N.length:=by
    have h1:=pD hR
    rw [hR.ga.used,← nV A.Cells 0] at h1
    omega
  have hc : ∀ p ∈ jQ A.Cells 0,eL A p:=fun p hp=>kF.2 hp
  unfold gC
  rw [yB hR.ga,bnoS]
  have:=nodes_L hR (lv:=jQ A.Cells 0) (by omega) hc room keep A.Cells A.Free A.Used cl (jQ A.Cells 0) [] fuel rfl (gH (by omega))
  rw [show ((0 : Int)) = (([] : List Nat).length : Int) from rfl]
  refine Eq.trans this ?_
  have hids : ((jQ A.Cells 0).map (qQ ns)).map (·.ID) = (jQ A.Cells 0).map (idP ns):=by
    rw [List.map_map]
    exact List.map_congr_left fun p hp=>(pR hR (hc p hp)).2.1
  obtain ⟨w,e,hp,hs⟩:=ksort_t (l:=(jQ A.Cells 0).map (qQ ns)) (by rw [List.length_map]; omega) (by
    rw [hids]
    exact List.pairwise_map.2 ((nJ A.Cells 0).imp_of_mem fun {p q} hp hq hne e=>hne (hR.inj p q (hc p hp) (hc q hq) e))) (fun m hm=>by
    obtain ⟨p,hp,rfl⟩:=List.mem_map.1 hm
    have:=(h.fv.ra _ (pR hR (hc p hp)).1).1
    omega)
  rw [e,bnoS,chk,if_pos hp.length_eq]
  congr 1
  refine vB hs hR.so fun x=>?_
  rw [hp.mem_iff]
  constructor
  · intro hx
    obtain ⟨p,hp,rfl⟩:=List.mem_map.1 hx
    exact (pR hR (hc p hp)).1
  · intro hx
    obtain ⟨p,n,u,k1,k2,k3,k4,rfl⟩:=hR.bw x hx
    obtain ⟨g1,g2,_⟩:=pR hR k1
    refine List.mem_map.2 ⟨p,kF.1 k1,mN hR.so g1 hx ?_⟩
    rw [g2,bZ k3]; rfl
theorem Do_ts {A : AS} {ns : List Nk} {first : Int} {cl : List Int} {R K : Int} {N : List Nd} {E : List Int} (h : TS A ns first cl R K N E) {a : cC} (h0 : 0 ≤ a.Kind) (h1 : a.Kind ≤ 255) :
    ∃ c A' ns' first' cl' N' E',iP a R K A.Cells A.Free A.Used ns first cl = some (c,R,K,A'.Cells,A'.Free,A'.Used,ns',first',cl') ∧ TS A' ns' first' cl' R K N' E':=by
  obtain ⟨r,hr⟩:=zP h0 h1
  obtain ⟨A1,ns1,f1,cl1,i1,i2⟩:=zF h a.ID a.Dep a.Weight a.Only
  obtain ⟨A2,ns2,f2,cl2,m1,m2⟩:=Move_ts h a.ID a.Dep a.Weight a.Only
  obtain ⟨A3,ns3,f3,cl3,c1,c2⟩:=aAR h a.ID
  obtain ⟨A4,ns4,f4,cl4,r1,r2⟩:=zD h a.ID
  unfold iP
  rw [hr,bnoS,bndD]
  unfold gR gQ
  by_cases e : r = 0
  · rw [decide_eq_true e, cM, cM, i1, bnoS]
    exact ⟨_,_,_,_,_,_,_,rfl,i2⟩
  · rw [decide_eq_false e, bU, bndD]
    by_cases e : r = 1
    · rw [decide_eq_true e, cM, i1, bnoS]
      exact ⟨_,_,_,_,_,_,_,rfl,i2⟩
    · rw [decide_eq_false e, bU, bndD]
      by_cases e : r = 2
      · rw [decide_eq_true e, cM, cM, m1, bnoS]
        exact ⟨_,_,_,_,_,_,_,rfl,m2⟩
      · rw [decide_eq_false e, bU, bndD]
        by_cases e : r = 3
        · rw [decide_eq_true e, cM, m1, bnoS]
          exact ⟨_,_,_,_,_,_,_,rfl,m2⟩
        · rw [decide_eq_false e, bU, bndD]
          by_cases e : r = 4
          · rw [decide_eq_true e, cM, c1, bnoS]
            exact ⟨_,_,_,_,_,_,_,rfl,c2⟩
          · rw [decide_eq_false e, bU, r1, bnoS]
            exact ⟨_,_,_,_,_,_,_,rfl,r2⟩
end Go.Fn
open Go Go.IL
namespace Go.Fn
end Go.Fn
open Go Go.IL
namespace Go.Fn
end Go.Fn
open Go Go.IL
namespace Go.Fn
end Go.Fn
open Go Go.IL
namespace Go.Fn
inductive Dsc (N : List Nd) (d : Int) : Int → Prop
  | child (n : Nd) (hn : n ∈ N) (hp : n.Parent = d) : Dsc N d n.ID
  | up (n : Nd) (hn : n ∈ N) (hp : n.Parent ≠ 0) (h : Dsc N d n.Parent) : Dsc N d n.ID
structure Tr (N : List Nd) (r : Int → Nat) : Prop where
  so : N.Pairwise (fun a b=>a.ID < b.ID)
  id : ∀ n ∈ N,1 ≤ n.ID
  pa : ∀ n ∈ N,n.Parent = 0 ∨ ∃ m ∈ N,m.ID = n.Parent
  rk : ∀ n ∈ N,n.Parent ≠ 0 → r n.Parent < r n.ID
theorem FV.tr {K : Int} {st : Fs} (h : FV K st) : ∃ r,Tr st.Nodes r:=by
  obtain ⟨r,hr⟩:=h.rk
  exact ⟨r,h.so,fun n hn=>(h.ra n hn).1.1,h.pa,hr⟩
section
variable {N : List Nd} {r : Int → Nat}
theorem path_tr (h : Tr N r) {n : Nd} (hn : n ∈ N) : fU N N.length n.ID = if n.Parent = 0 then [] else n.Parent :: fU N N.length n.Parent:=by
  obtain ⟨k,hk⟩ : ∃ k,N.length = k + 1:=⟨N.length - 1,by have:=List.length_pos_of_mem hn; omega⟩
  by_cases hz : n.Parent = 0
  · rw [if_pos hz, hk, fU, oP h.so hn]
    simp only [if_pos hz]
  · rw [if_neg hz]
    have e1 : fU N N.length n.ID = n.Parent :: fU N k n.Parent:=by
      rw [hk,fU,oP h.so hn]
      simp only [if_neg hz]
    obtain ⟨h1,h2⟩:=lB h.so h.rk h.pa N.length n.ID ⟨n,hn,rfl⟩
    have h3:=mH h1 h2
    rw [e1,List.length_cons,List.length_cons,List.length_map] at h3
    have h4:=pW (N:=N) k n.Parent (by omega)
    rw [e1,hk,h4]
end
end Go.Fn
open Go Go.IL
namespace Go.Fn
theorem aAW {l : List Int} (hl : l.length ≤ 1000) {n : Int} : ∀ (r q : List Int) (f : Nat), l = q ++ r → r.length < f → eZ l n f (q.length : Int) = some (decide (n ∈ r))
  | [], q, f, h, hf => by
    obtain ⟨f,rfl⟩ : ∃ g,f = g + 1:=⟨f - 1,by simp at hf; omega⟩
    rw [List.append_nil] at h
    rw [eZ,bndD,h,decide_eq_false (by omega),bU]; rfl
  | x :: r, q, f, h, hf => by
    obtain ⟨f,rfl⟩ : ∃ g,f = g + 1:=⟨f - 1,by simp at hf; omega⟩
    have hrec:=aAW hl (n:=n) r (q ++ [x]) f (by rw [h]; simp) (by simpa using hf)
    rw [eZ,bndD,qD h,cM,mB h,bnoS,bndD]
    by_cases e : x = n
    · rw [decide_eq_true e,cM,decide_eq_true (by rw [e]; exact List.mem_cons_self ..)]
    · rw [decide_eq_false e, bU, bndD, w_at h (by omega), hrec]
      congr 1
      by_cases e2 : n ∈ r
      · rw [decide_eq_true e2,decide_eq_true (List.mem_cons_of_mem _ e2)]
      · rw [decide_eq_false e2, decide_eq_false]
        intro hh
        rcases List.mem_cons.1 hh with e3 | h3
        · exact e e3.symm
        · exact e2 h3
theorem in19 {l : List Int} (hl : l.length ≤ 1000) (n : Int) : hZ l n = some (decide (n ∈ l)):=aAW hl l [] fuel rfl (gH (by omega))
theorem rI (id : Int) : ∀ (N : List Nd),kidS N id = (N.filter fun m=>decide (m.Parent = id)).length
  | []=>rfl
  | m :: N => by
    have e : kidS (m :: N) id = (if m.Parent = id then 1 else 0) + kidS N id:=rfl
    rw [e,rI id N]
    by_cases h : m.Parent = id
    · rw [if_pos h,List.filter_cons_of_pos (by simp [h]),List.length_cons]; omega
    · rw [if_neg h,List.filter_cons_of_neg (by simp [h])]; omega
theorem vU {A : AS} {ns : List Nk} {first : Int} {cl : List Int} {R K : Int} {N : List Nd} {E : List Int} (h : TS A ns first cl R K N E) {id : Int} (hid : hasN N id ∨ id = 0) (room keep : Int) :
    ∃ w : List Int,dX id room keep A.Cells A.Free A.Used ns first cl = some w ∧ w.length = kidS N id:=by
  obtain ⟨w,w1,w2,w3,w4,w5⟩:=Kids_ts h id room keep
  refine ⟨w,w1,?_⟩
  have hp : w.Perm ((N.filter fun m=>decide (m.Parent = id)).map (·.ID)):=by
    refine (List.perm_ext_iff_of_nodup (w2.imp fun h e=>by omega) (nZ (h.fv.so.sublist List.filter_sublist))).2 fun i=>?_
    constructor
    · intro hi
      obtain ⟨m,hm,rfl⟩:=w3 i hi
      exact List.mem_map.2 ⟨m,List.mem_filter.2 ⟨hm,by rw [decide_eq_true ((w5 hid m hm).1 hi)]⟩,rfl⟩
    · intro hi
      obtain ⟨m,hm,rfl⟩:=List.mem_map.1 hi
      obtain ⟨m1,m2⟩:=List.mem_filter.1 hm
      exact (w5 hid m m1).2 (of_decide_eq_true m2)
  rw [hp.length_eq,List.length_map,rI]
def sumK (N : List Nd) (l : List Int) : Nat:=(l.map fun i=>kidS N i).sum
theorem sW (m : Nd) (N : List Nd) : ∀ {l : List Int}, l.Nodup → m.Parent ∈ l → sumK (m :: N) l = sumK N l + 1
  | i :: l, hn, hm => by
    obtain ⟨n1,n2⟩:=List.nodup_cons.1 hn
    have e : kidS (m :: N) i = (if m.Parent = i then 1 else 0) + kidS N i:=rfl
    have e1 : sumK (m :: N) (i :: l) = kidS (m :: N) i + sumK (m :: N) l:=by unfold sumK; rw [List.map_cons,List.sum_cons]
    have e2 : sumK N (i :: l) = kidS N i + sumK N l:=by unfold sumK; rw [List.map_cons,List.sum_cons]
    rw [e1,e2,e]
    by_cases hp : m.Parent = i
    · have : sumK (m :: N) l = sumK N l := by
        unfold sumK
        congr 1
        refine List.map_congr_left fun j hj=>?_
        have e : kidS (m :: N) j = (if m.Parent = j then 1 else 0) + kidS N j:=rfl
        rw [e,if_neg (fun hh=>n1 (by rw [← hp,hh]; exact hj))]; omega
      rw [if_pos hp,this]; omega
    · rcases List.mem_cons.1 hm with e3 | h3
      · exact absurd e3 hp
      · rw [if_neg hp,sW m N n2 h3]; omega
theorem uU {l : List Int} (hn : l.Nodup) : ∀ (N : List Nd),(∀ m ∈ N,m.Parent ∈ l) → sumK N l = N.length
  | [], _ => by
    unfold sumK
    induction l with
    | nil=>rfl
    | cons i l ih =>
      rw [List.map_cons,List.sum_cons,ih (List.nodup_cons.1 hn).2 (fun m hm=>by cases hm)]; rfl
  | m :: N, h => by
    rw [sW m N hn (h m (by simp)),uU hn N fun k hk=>h k (by simp [hk])]; rfl
theorem uT (N : List Nd) (a b : List Int) : sumK N (a ++ b) = sumK N a + sumK N b:=by
  unfold sumK
  rw [List.map_append,List.sum_append]
theorem aAX {K : Int} {N : List Nd} {E : List Int} (h : FV K ⟨24,K,N,E⟩) : sumK N (0 :: N.map (·.ID)) = N.length:=by
  refine uU (List.nodup_cons.2 ⟨fun h0=>?_,nZ h.so⟩) N fun m hm=>?_
  · obtain ⟨m, hm, e⟩ := List.mem_map.1 h0
    have:=(h.ra m hm).1
    omega
  · rcases h.pa m hm with e | ⟨x, hx, e⟩
    · rw [e]; exact List.mem_cons_self ..
    · exact List.mem_cons_of_mem _ (List.mem_map.2 ⟨x,hx,e⟩)
theorem prev_no {α : Type} {N q r : List Nd} {n : Nd} (hN : N = q ++ n :: r) (hs : N.Pairwise (fun a b=>a.ID < b.ID)) (hl : N.length ≤ 1000) {F : Bool → Option α} : (bnd (decide (0 < (q.length : Int))) fun x1=>bnd ((q.length : Int) - 1) fun x2=>bno (gd (x1 == true) (gix N x2) default) fun _=>bno (gd (x1 == true) (N[(x2 : Int).toNat]?) default) fun x4=>bno (gd (x1 == true) (some n) default) fun _=>bno (gd (x1 == true) (some n) default) fun x6=>bnd (decide (x6.ID ≤ x4.ID)) fun x7=>bnd (x1 && x7) F) = F false:=by
  rcases List.eq_nil_or_concat q with rfl | ⟨q,m,rfl⟩
  · rw [bndD,bndD,decide_eq_false (by simp),ft,gdff,bnoS,gdff,bnoS,gdff,bnoS,bnoS,bndD,bndD,Bool.false_and]
  · rw [List.concat_eq_append] at hN ⊢
    have hq : q.length ≤ 1000:=by rw [hN] at hl; simp at hl; omega
    have hN2 : N = q ++ m :: (n :: r):=by rw [hN]; simp
    have hlt : m.ID < n.ID:=by
      rw [hN2] at hs
      obtain ⟨s1,s2,s3⟩:=List.pairwise_append.1 hs
      exact (List.pairwise_cons.1 s2).1 n (by simp)
    rw [bndD,bndD,decide_eq_true (by rw [List.length_append,List.length_singleton]; omega),show (((q ++ [m]).length : Int) - 1) = (q.length : Int) by simp,beq_self_eq_true,gdtt,mB hN2,bnoS,gdtt,uM hN2,bnoS,gdtt,bnoS,bnoS,bndD,decide_eq_false (by omega),bndD,Bool.and_false]
theorem wW {A : AS} {ns : List Nk} {first : Int} {cl : List Int} {R K : Int} {N : List Nd} {E : List Int} (h : TS A ns first cl R K N E) {i : Int} (hi : 0 ≤ i ∧ i ≤ 1000) (c : Int) (kk : Int → Int → Int → List aH → Int → Int → List aF → Int → List Int → Option Bool) : ∀ (r q : List Nd) (f : Nat), N = q ++ r → r.length < f →
    bW i kk (c,R,K,A.Cells,A.Free,A.Used,ns,first,cl) N E f (sumK N (0 :: q.map (·.ID)) : Int) ((q.filter (·.Closed)).length : Int) (q.length : Int) = kk (i + 1) R K A.Cells A.Free A.Used ns first cl
  | [], q, f, hN, hf => by
    obtain ⟨f,rfl⟩ : ∃ g,f = g + 1:=⟨f - 1,by simp at hf; omega⟩
    rw [List.append_nil] at hN
    subst hN
    have hc : (N.filter (·.Closed)).length = E.length:=rN h.fv
    rw [bW,bndD,decide_eq_false (by omega),bU,aAX h.fv,hc,decide_eq_true rfl,decide_eq_true rfl,bndD,bndD,bndD,Bool.not_true,Bool.or_false,bU,w64 (by omega) (by omega),bndD]
  | n :: r, q, f, hN, hf => by
    obtain ⟨f,rfl⟩ : ∃ g,f = g + 1:=⟨f - 1,by simp at hf; omega⟩
    have hln : N.length ≤ 24:=h.fv.ln
    have hEl : (E.length : Int) ≤ K:=h.fv.el
    have hK : K ≤ 24:=h.fv.kp.2.2
    have hq : q.length ≤ 24:=by rw [hN] at hln; simp at hln; omega
    have hn : n ∈ N:=by rw [hN]; simp
    have hE : (n.Closed == decide (n.ID ∈ E)) = true:=by
      have:=h.fv.en n hn
      cases hc : n.Closed with
      | true=>rw [decide_eq_true (this.1 hc)]; rfl
      | false=>rw [decide_eq_false (fun hh=>by rw [this.2 hh] at hc; cases hc)]; rfl
    obtain ⟨rk,htr⟩ : ∃ rk,Tr N rk:=h.fv.tr
    have hso : N.Pairwise (fun a b=>a.ID < b.ID):=h.fv.so
    have hpa : ∀ n ∈ N,n.Parent = 0 ∨ ∃ m ∈ N,m.ID = n.Parent:=h.fv.pa
    obtain ⟨w1,w2⟩:=(h.fv.ra n hn).2
    have hpth:=path_tr htr hn
    obtain ⟨p1,p2⟩:=lB hso htr.rk hpa N.length n.ID ⟨n,hn,rfl⟩
    have p3:=mH p1 p2
    rw [List.length_cons,List.length_map] at p3
    have p4 : n.ID ∉ fU N N.length n.ID:=(List.nodup_cons.1 p1).1
    have hhas : hasN N n.ID:=⟨n,hn,rfl⟩
    obtain ⟨w,k1,k2⟩:=vU h (id:=n.ID) (.inl hhas) R K
    have hrec:=wW h hi c kk r (q ++ [n]) f (by rw [hN]; simp) (by simpa using hf)
    have hsum : sumK N (0 :: (q ++ [n]).map (·.ID)) = sumK N (0 :: q.map (·.ID)) + w.length:=by
      rw [k2,List.map_append,← List.cons_append,uT]
      show _ + sumK N [n.ID] = _
      unfold sumK
      simp
    have htot:=aAX h.fv
    have hle : sumK N (0 :: q.map (·.ID)) + w.length ≤ 24:=by
      rw [← hsum]
      have e : (0 :: N.map (·.ID)) = (0 :: (q ++ [n]).map (·.ID)) ++ r.map (·.ID):=by rw [hN]; simp
      rw [e,uT] at htot
      omega
    have hws : IntKind.wrap .i64 ((sumK N (0 :: q.map (·.ID)) : Int) + (w.length : Int)) = (sumK N (0 :: q.map (·.ID)) : Int) + (w.length : Int):=w64 (by omega) (by omega)
    have hwq : IntKind.wrap .i64 ((q.length : Int) - 1) = (q.length : Int) - 1:=w64 (by omega) (by omega)
    have i1 : hZ E n.ID = some (decide (n.ID ∈ E)):=in19 (by omega) _
    have i2 : hZ (fU N N.length n.ID) n.ID = some false:=by rw [in19 (by omega),decide_eq_false p4]
    rw [bW,bndD,qD hN,cM,mB hN,bnoS,uM hN,bnoS,Path_ts h,if_pos hhas,bnoS,bnoS,bnoS,k1,bnoS,bndD,hws,hwq,prev_no hN h.fv.so (by omega)]
    simp only [beq_self_eq_true,gdtt,bnoS,bndD,Bool.or_false,decide_eq_false (show ¬ n.Weight < 1 by omega),decide_eq_false (show ¬ 256 < n.Weight by omega),decide_eq_false (show ¬ (N.length : Int) ≤ ((fU N N.length n.ID).length : Int) by omega),i1,i2,hE,Bool.not_true,bU]
    have hJ : ∀ v : Int,eF (bW i kk (c,R,K,A.Cells,A.Free,A.Used,ns,first,cl) N E f) N (q.length : Int) (fU N N.length n.ID) ((sumK N (0 :: q.map (·.ID)) : Int) + (w.length : Int)) v = bW i kk (c,R,K,A.Cells,A.Free,A.Used,ns,first,cl) N E f ((sumK N (0 :: q.map (·.ID)) : Int) + (w.length : Int)) v ((q ++ [n]).length : Int):=fun v=>by
      rw [eF,bndD,mB hN,bnoS,uM hN,bnoS,bndD]
      by_cases h0 : n.Parent = 0
      · rw [if_pos h0] at hpth
        rw [hpth,decide_eq_true h0,show decide ((([] : List Int).length : Int) = 0) = true from rfl,show decide (0 < (([] : List Int).length : Int)) = false from rfl]
        simp only [beq_self_eq_true,Bool.not_true,bndD,Bool.and_false,ft,gdff,bnoS,Bool.false_and,Bool.or_false,bU,w_at hN (show N.length ≤ 1000000 by omega)]
      · rw [if_neg h0] at hpth
        have g1 : gix (n.Parent :: fU N N.length n.Parent) 0 = some n.Parent:=rfl
        have g2 : (n.Parent :: fU N N.length n.Parent)[(0 : Int).toNat]? = some n.Parent:=rfl
        rw [hpth,decide_eq_false h0,decide_eq_false (show ¬ (((n.Parent :: fU N N.length n.Parent).length : Int) = 0) by rw [List.length_cons]; omega),decide_eq_true (show 0 < ((n.Parent :: fU N N.length n.Parent).length : Int) by rw [List.length_cons]; omega),g1,g2]
        simp only [beq_self_eq_true,Bool.not_true,bndD,Bool.and_self,gdtt,bnoS,decide_true,Bool.and_false,Bool.or_false,bU,w_at hN (show N.length ≤ 1000000 by omega)]
    rw [hsum] at hrec
    have hfl:=List.length_filter_le (fun m : Nd=>m.Closed) q
    cases hc : n.Closed with
    | true =>
      have e : ((q ++ [n]).filter (·.Closed)).length = (q.filter (·.Closed)).length + 1:=by rw [List.filter_append,List.length_append,List.filter_cons_of_pos (by exact hc)]; rfl
      rw [e] at hrec
      rw [cM,w64 (by omega) (by omega),hJ]
      exact_mod_cast hrec
    | false =>
      have e : ((q ++ [n]).filter (·.Closed)).length = (q.filter (·.Closed)).length:=by rw [List.filter_append,List.length_append,List.filter_cons_of_neg (by rw [hc]; decide)]; rfl
      rw [e] at hrec
      rw [bU,hJ]
      exact_mod_cast hrec
end Go.Fn
open Go Go.IL
namespace Go.Fn
def GoodD (l : List cC) : Prop:=∀ a ∈ l,0 ≤ a.Kind ∧ a.Kind ≤ 255
theorem wX {l : List cC} (hg : GoodD l) (hl : l.length ≤ 60) {k kr : Int} (hk : remI k 10 = some kr) (hkr : 0 ≤ kr ∧ kr ≤ 9) : ∀ (r q : List cC) (f : Nat) {A : AS} {ns : List Nk} {first : Int} {cl : List Int} {N : List Nd} {E : List Int},TS A ns first cl 9 kr N E → l = q ++ r → r.length < f →
    bY l k f (q.length : Int) 9 kr A.Cells A.Free A.Used ns first cl = some true
  | [], q, f, A, ns, first, cl, N, E, h, hN, hf => by
    obtain ⟨f,rfl⟩ : ∃ g,f = g + 1:=⟨f - 1,by simp at hf; omega⟩
    rw [List.append_nil] at hN
    rw [bY,bndD,hN,decide_eq_false (by omega),bU,zC]; rfl
  | a :: r, q, f, A, ns, first, cl, N, E, h, hN, hf => by
    obtain ⟨f,rfl⟩ : ∃ g,f = g + 1:=⟨f - 1,by simp at hf; omega⟩
    have ha : a ∈ l:=by rw [hN]; simp
    obtain ⟨c,A',ns',first',cl',N',E',g1,g2⟩:=Do_ts h (hg a ha).1 (hg a ha).2
    have hln : (N'.length : Int) ≤ 9:=g2.ln
    have hEl : (E'.length : Int) ≤ kr:=g2.fv.el
    have hq : q.length ≤ 60:=by rw [hN] at hl; simp at hl; omega
    obtain ⟨w,k1,k2⟩:=vU g2 (id:=0) (.inr rfl) 9 kr
    have hL4:=wW g2 (i:=(q.length : Int)) (by omega) c (bY l k f) N' [] fuel rfl (gH (by omega))
    have hs0 : (sumK N' (0 :: ([] : List Nd).map (·.ID)) : Int) = (w.length : Int):=by
      rw [k2]; unfold sumK; simp
    rw [hs0] at hL4
    have hrec:=wX hg hl hk hkr r (q ++ [a]) f g2 (by rw [hN]; simp) (by simpa using hf)
    have hkw : IntKind.wrap .i64 kr = kr:=w64 (by omega) (by omega)
    rw [bY,bndD,qD hN,cM,mB hN,bnoS,g1,bnoS,aAO g2,bnoS,zG g2,bnoS,bndD,decide_eq_false (by omega),beq_self_eq_true,gdtt,hk,bnoS,hkw,bndD,bndD,decide_eq_false (by omega),Bool.or_false,bndD,beq_self_eq_true,gdtt,Len_ts g2,bnoS,decide_eq_true rfl,Bool.not_true,bndD,Bool.or_false,bndD,bU,k1,bnoS]
    refine Eq.trans hL4 ?_
    have e : ((q.length : Int) + 1) = ((q ++ [a]).length : Int):=by simp
    rw [e]; exact hrec
theorem xM {l : List cC} {k : Int} (hg : GoodD l) (h0 : 0 ≤ k) (h1 : k ≤ 255) : fX l k = some true:=by
  unfold fX
  rw [bndD]
  by_cases h : 60 < l.length
  · rw [decide_eq_true (by omega),cM,zC]; rfl
  · have hk : remI k 10 = some (k % 10) := aAU h0 (by decide)
    have hkr : 0 ≤ k % 10 ∧ k % 10 ≤ 9:=by omega
    have hL:=wX hg (by omega) hk hkr l [] fuel (new_ts (R:=9) (K:=k % 10) (by decide) (by omega)) rfl (gH (by omega))
    rw [decide_eq_false (by omega),bU,hk,bnoS,w64 (by omega) (by omega),bndD,yL,yL,bnoS,decide_eq_true (by decide),show ((!true) == false) = true from rfl,gdtt,bnoS,decide_eq_true (by omega),bndD,show ((!true) || !true) = false from rfl,bU]
    exact hL
end Go.Fn
open Go.RowKit Go.WideShapes Go.ChangeShapes
namespace Go.IL

def pN (v : Value) : Prop:=∀ a n c,v = .slice (some a) n c → a.spot = none
theorem sX {P : Program} {w : World} {r : Reach} {b : Nat} {t : TypeId} {v : Value} (h : Cell.okWide P w r b t v) : pN v:=by
  intro a n c e
  subst e
  have h2 : Cell.ok P w r b t (.slice (some a) n c):=by
    unfold Cell.okWide at h
    split at h <;> first | exact h | (rename_i h3 _; cases h3) | (rename_i h3; cases h3) | skip
    all_goals first | exact h | simp_all
  unfold Cell.ok at h2
  split at h2 <;> simp_all [World.has]
theorem zK {P : Program} {w : World} {r : Reach} {b : Nat} {t : TypeId} {v : Value} (h : Value.okWide P w r b t v) : ∀ u ∈ v.cells.toList,pN u:=by
  have agg : ∀ cs : Array Value,Row.okWide P w r b t cs → ∀ u ∈ cs.toList,pN u:=by
    intro cs ⟨ts,_,_,h3⟩ u hu
    obtain ⟨i,hi⟩:=List.getElem?_of_mem hu
    obtain ⟨q,_,hq⟩:=h3 i u (by simpa using hi)
    exact sX hq
  unfold Value.okWide at h
  split at h
  · obtain ⟨cs,rfl,_,h⟩:=h; simpa [Value.cells] using agg cs h
  · obtain ⟨cs,rfl,_,h⟩:=h; simpa [Value.cells] using agg cs h
  · have h2 := sX h
    intro u hu
    cases v with
    | agg cs =>
      exfalso
      unfold Cell.okWide at h
      split at h <;> simp_all [Cell.ok]
    | _=>simp [Value.cells] at hu; subst hu; exact h2

def Env.none (w : World) : Env:=⟨w,fun _ _=>False⟩
def OpD (P : Program) (sp : Bool) (t : TypeId) (Q : List D → Prop) : Prop :=
  ∀ {H : Type} {enc : TypeId × Value → H} {w : World} {base : Nat} {spare : Nat → Bool} {held : Bool} {fuel : Nat} {cs : List Value} {x : DataW H × List MemPlace},
    DataW.trod enc P w base spare held fuel t cs = some x → (sp = true → ∀ v ∈ cs,pN v) → ∃ ds,RdL (Env.none w) β0 cs ds ∧ Q ds
def qInt (k : IntKind) (ds : List D) : Prop:=∃ n : Int,ds = [.int k n] ∧ (k.min ≤ n ∧ n ≤ k.max)
def qBool (ds : List D) : Prop:=∃ b : Bool,ds = [.bool b]
def qSlice {α : Type} (f : Enc α) (wf : α → Prop) (ds : List D) : Prop:=∃ l : List α,ds = [.slice false (l.map f.d)] ∧ l.length ≤ 9223372036854775807 ∧ ∀ x ∈ l,wf x
def qList : List (List D → Prop) → List D → Prop
  | [],ds=>ds = []
  | Q :: Qs,ds=>∃ a b,ds = a ++ b ∧ Q a ∧ qList Qs b

section
variable {P : Program} {sp : Bool} {t : TypeId}
theorem pZ {k : IntKind} (hu : P.underlying t = some (.int k)) : OpD P sp t (qInt k):=by
  intro H enc w base spare held fuel cs x h _
  obtain ⟨n,rfl,rfl,hw⟩:=DataW.trod_int hu h
  exact ⟨[.int k n],.cons (.int _ _ _) (.nil _),n,rfl,by simpa [Lit.wf] using hw⟩
theorem zV (hu : P.underlying t = some .bool) : OpD P sp t qBool:=by
  intro H enc w base spare held fuel cs x h _
  obtain ⟨b,rfl,rfl⟩:=DataW.trod_bool hu h
  exact ⟨[.bool b],.cons (.bool _ _) (.nil _),b,rfl⟩
theorem xR {α : Type} {f : Enc α} {e : TypeId} {wf : α → Prop} (hu : P.underlying t = some (.slice e)) (hc : P.cellsOf e = f.sz) (he : OpD P false e (fun ds => ∃ a, ds = (f.d a).cells ∧ wf a)) : OpD P sp t (qSlice f wf) := by
  intro H enc w base spare held fuel cs x h hs
  rcases DataW.trod_slice hu h with ⟨rfl,_⟩ | ⟨a,len,cap,elems,rest,n,_,rfl,rfl,hb,hl,hm,hlen,hel,_,_⟩
  · exact ⟨[.slice false []],.cons (.nslice _ _) (.nil _),[],rfl,by simp,by simp⟩
  · by_cases hl0 : len = 0
    · subst hl0; exact ⟨[.slice false []],.cons (.eslice _ a cap false (fun h=>by cases h)) (.nil _),[],rfl,by simp,by simp⟩
    have hsp0 : a.spot = none:=by
      have h1:=hel 0 (by omega)
      have h2 : elems[0]? = some (elems[0]'(by omega)):=List.getElem?_eq_getElem _
      rw [h2,Option.bind_eq_some_iff] at h1
      obtain ⟨vs,h3,_⟩:=h1
      have h7:=World.cells?_some h3
      have hp:=f.pos
      have h8:=h7.2.2 0 (by rw [hc]; exact hp)
      rw [Nat.zero_mul] at h8
      have e0 : ((a.add 0).add 0) = a:=rfl
      rw [e0] at h8
      cases hsp : a.spot with
      | none=>rfl
      | some q =>
        exfalso
        unfold World.cell? at h8
        rw [hsp] at h8
        split at h8
        · simp at h8; have:=h7.1; simp_all
        · have:=h7.1; simp_all
    have ha : a = ⟨a.block,a.off,none⟩:=by cases a; simp_all
    have each : ∀ i,i < len → ∃ (vs : List Value) (y : α),(∀ k v,vs[k]? = some v → w.cell? ⟨a.block,a.off + (i * f.sz + k),none⟩ = some v) ∧ RdL (Env.none w) β0 vs (f.d y).cells ∧ wf y:=by
      intro i hi
      have h1:=hel i hi
      have h2 : elems[i]? = some (elems[i]'(by omega)):=List.getElem?_eq_getElem _
      rw [h2,Option.bind_eq_some_iff] at h1
      obtain ⟨vs,h3,h4⟩:=h1
      obtain ⟨ds,h5,y,rfl,h6⟩:=he h4 (by simp)
      refine ⟨vs,y,fun k v hk=>?_,h5,h6⟩
      have h7:=World.cells?_some h3
      have hk':=(List.getElem?_eq_some_iff.1 hk).1
      have h8:=h7.2.2 k (by omega)
      rw [hk,ha,hc] at h8
      rw [← h8]
      congr 1
      by_cases h9 : i * f.sz = 0
      · by_cases h10 : k = 0
        · simp [Addr.add,h9,h10]
        · simp [Addr.add,h9,h10]
      · by_cases h10 : k = 0
        · simp [Addr.add,h9,h10]
        · simp [Addr.add,h9,h10,Nat.add_assoc]
    have all : ∀ m,m ≤ len → ∃ (vs : List Value) (l : List α),l.length = m ∧ (∀ k v,vs[k]? = some v → w.cell? ⟨a.block,a.off + k,none⟩ = some v) ∧ RdL (Env.none w) β0 vs (D.flat (l.map f.d)) ∧ ∀ y ∈ l,wf y:=by
      intro m
      induction m with
      | zero=>intro _; exact ⟨[],[],rfl,by simp,.nil _,by simp⟩
      | succ m ih =>
        intro hm'
        obtain ⟨vs,l,h1,h2,h3,h4⟩:=ih (by omega)
        obtain ⟨us,y,h5,h6,h7⟩:=each m (by omega)
        have hvl : vs.length = m * f.sz:=by rw [h3.length,f.flat_len,h1]
        refine ⟨vs ++ us,l ++ [y],by simp [h1],fun k v hk=>?_,?_,?_⟩
        · by_cases hk' : k < vs.length
          · exact h2 k v (by rwa [List.getElem?_append_left hk'] at hk)
          · rw [List.getElem?_append_right (by omega)] at hk
            have:=h5 _ _ hk
            rwa [hvl,show m * f.sz + (k - m * f.sz) = k by omega] at this
        · rw [List.map_append]
          have e2 : D.flat (l.map f.d ++ [y].map f.d) = D.flat (l.map f.d) ++ (f.d y).cells:=by simp [D.flat]
          rw [e2]; exact h3.append h6
        · intro z hz
          rcases List.mem_append.1 hz with h | h
          · exact h4 z h
          · simp at h; subst h; exact h7
    obtain ⟨vs,l,h1,h2,h3,h4⟩:=all len (Nat.le_refl _)
    refine ⟨[.slice false (l.map f.d)],.cons ?_ (.nil _),l,rfl,by unfold maxLen at hm; omega,h4⟩
    rw [ha]
    exact .slice _ _ _ len cap f.sz false vs _ (by rw [List.length_map,h1]) hl (by simp) (f.len l) f.pos (fun k v hk=>⟨h2 k v hk,fun h=>h⟩) h3

def pK (P : Program) : Nat → List Field → Bool
  | _,[]=>true
  | k,f :: fs=>f.offset == k && pK P (k + P.cellsOf f.type) fs
inductive OpFs (P : Program) (sp : Bool) : List Field → List (List D → Prop) → Prop
  | nil : OpFs P sp [] []
  | cons {f fs Q Qs} (h : OpD P sp f.type Q) (t : OpFs P sp fs Qs) : OpFs P sp (f :: fs) (Q :: Qs)
theorem wA {fs : Array Field} {Qs : List (List D → Prop)} (hu : P.underlying t = some (.struct fs)) (hf : pK P 0 fs.toList = true) (hn : P.cellsOf t = (fs.toList.map fun f=>P.cellsOf f.type).sum) (h : OpFs P sp fs.toList Qs) : OpD P sp t (qList Qs):=by
  intro H enc w base spare held fuel cs x hx hs
  obtain ⟨xs,n,_,_,hlen,hxl,hfld⟩:=DataW.trod_struct hu hx
  have key : ∀ (l : List Field) (Qs : List (List D → Prop)) (k : Nat),OpFs P sp l Qs → pK P k l = true → k + (l.map fun f=>P.cellsOf f.type).sum = cs.length →
      (∀ f ∈ l,∃ y,DataW.trod enc P w base spare held n f.type ((cs.drop f.offset).take (P.cellsOf f.type)) = some y) → ∃ ds,RdL (Env.none w) β0 (cs.drop k) ds ∧ qList Qs ds:=by
    intro l Qs k ho
    induction ho generalizing k with
    | nil =>
      intro _ h1 _
      refine ⟨[],?_,rfl⟩
      rw [List.drop_of_length_le (by simp at h1; omega)]; exact .nil _
    | @cons f fs Q Qs h t ih =>
      intro h1 h2 h3
      simp only [pK,Bool.and_eq_true,beq_iff_eq] at h1
      simp only [List.map_cons,List.sum_cons] at h2
      obtain ⟨y,hy⟩:=h3 f (by simp)
      rw [h1.1] at hy
      obtain ⟨ds,h4,h5⟩:=h hy (fun hsp v hv=>hs hsp v (List.mem_of_mem_drop (List.mem_of_mem_take hv)))
      obtain ⟨es,h6,h7⟩:=ih (k + P.cellsOf f.type) h1.2 (by omega) (fun g hg=>h3 g (by simp [hg]))
      refine ⟨ds ++ es,?_,ds,es,rfl,h5,h7⟩
      have:=h4.append h6
      rwa [← List.drop_drop,List.take_append_drop] at this
  have:=key fs.toList Qs 0 h hf (by rw [Nat.zero_add,← hn,hlen]) (fun f hf=>by
    obtain ⟨i,hi⟩:=List.getElem?_of_mem hf
    have h1:=hfld i f (by simpa using hi)
    have h2 : i < xs.length:=by rw [hxl]; have:=(List.getElem?_eq_some_iff.1 hi).1; simpa using this
    exact ⟨xs[i],by rw [h1,List.getElem?_eq_getElem h2]⟩)
  rwa [List.drop_zero] at this
theorem OpD.to {Q R : List D → Prop} (h : OpD P sp t Q) (k : ∀ ds,Q ds → R ds) : OpD P sp t R:=by
  intro H enc w base spare held fuel cs x hx hs
  obtain ⟨ds,h1,h2⟩:=h hx hs
  exact ⟨ds,h1,k ds h2⟩
theorem xQ {Q : List D → Prop} (h : OpD P true t Q) {H : Type} {enc : TypeId × Value → H} {w : World} {base b0 : Nat} {spare : Nat → Bool} {held : Bool} {v : Value} {d : DataW H} {ps : List MemPlace} {r : Reach}
    (hv : Value.okWide P w r b0 t v) (hd : DataW.Trod enc P w base spare held t v d ps) : ∃ ds,RdL (Env.none w) β0 v.cells.toList ds ∧ Q ds:=by
  obtain ⟨fuel,hf⟩:=hd
  exact h hf (fun _=>zK hv)
theorem xG {E : Env} {v : Value} {d : D} (h : RdL E β0 v.cells.toList [d]) (hn : ∀ cs,v ≠ .agg cs) : Rd E β0 v d:=by
  cases v with
  | agg cs=>exact absurd rfl (hn cs)
  | _=>simp [Value.cells] at h; cases h with | cons h _=>exact h
section
variable {H : Type} {enc : TypeId × Value → H}
theorem nM (hl : laidOutB P = true) {W W' : World} (hb : Below W.heap.size W W') {sp : Nat → Bool} : ∀ {ts : List TypeId} {vs : List Value} {ds : List (DataW H)} {ps : List MemPlace},
    (∀ t ∈ ts,P.readableRec t = true ∧ t < P.types.size) → DataW.TrodAll enc P W 0 (fun _=>true) true ts vs ds ps → (∀ x ∈ ps,x.block < W.heap.size) → (∀ x ∈ ps,sp x.block = true) →
    DataW.TrodAll enc P W' 0 sp true ts vs ds ps
  | [], vs, ds, ps, _, h, _, _ => by
    obtain ⟨rfl,rfl,rfl⟩:=trodAll_nil h; exact rfl
  | t :: ts, vs, ds, ps, hr, h, hlt, hsp => by
    obtain ⟨v,vs',d,ds',p,q,rfl,rfl,rfl,h1,h2⟩:=trodAll_cons h
    refine ⟨p,q,?_,nM hl hb (fun t ht=>hr t (by simp [ht])) h2 (fun x hx=>hlt x (by simp [hx])) (fun x hx=>hsp x (by simp [hx])),rfl⟩
    have hx : ∀ x ∈ p,x ∈ p ++ q:=fun x hx=>by simp [hx]
    exact WideElems.Trod_stays hl (hr t (by simp)).1 (hr t (by simp)).2 h1 (fun x hxp=>hb.same (hlt x (hx x hxp))) (fun x hxp=>hsp x (hx x hxp))
theorem sA {f : Func} {s : ChangeSpec} {apart fresh handsOn again : Bool} {W W' : World} {args : Array Value} {v : Value} {ds gs : List (DataW H)} {before pa pv : List MemPlace}
    (hW : DataW.Whole enc P f.params.toList s.vars apart W args.toList ds gs before)
    (hres : ∀ (b : Nat) (sp : Nat → Bool) (hd : Bool),DataW.TrodAll enc P W' b sp hd f.resultTypes.toList (v.resultList f.resultTypes.size) (s.fn H (ds ++ gs)).results [])
    (hargs : ∀ sp : Nat → Bool,(∀ p ∈ before,sp p.block = true) → DataW.TrodAll enc P W' 0 sp true f.params.toList args.toList (s.fn H (ds ++ gs)).args pa)
    (hvars : ∀ sp : Nat → Bool,(∀ p ∈ before,sp p.block = true) → DataW.TrodVars enc P W' sp s.vars (s.fn H (ds ++ gs)).vars pv)
    (hps : before = pa ++ pv) (hb : Below W.heap.size W W')
    (hok : ∀ (j : Nat) (t : TypeId) (r : Value),f.resultTypes[j]? = some t → (v.resultList f.resultTypes.size)[j]? = some r → Value.okWide P W' .any 0 t r) :
    s.post enc P f apart fresh handsOn again W args v W':=by
  have hlt : ∀ p ∈ before,p.block < W.heap.size:=fun p hp=>hW.lt p hp
  have hold : ∀ p ∈ before,(fun b=>decide (b < W.heap.size)) p.block = true:=fun p hp=>by simpa using hlt p hp
  refine ⟨ds,gs,before,[],pa,pv,hW,hres _ _ _,hargs _ hold,hvars _ hold,World.keptBut_mono (fun p hp=>⟨hp,?_⟩) (hb.frame (· ∈ before)),fun _=>?_⟩
  · rw [hps, List.mem_append] at hp
    exact Or.inr hp
  · obtain ⟨_, _, _, _, _, hz, hn⟩ := hW
    refine ⟨hok,_,_,([] ++ pa) ++ pv,⟨[] ++ pa,pv,trodAll_append (hargs _ (fun _ _=>rfl)) (hres _ _ _),hvars _ (fun _ _=>rfl),rfl,?_,?_⟩,?_⟩
    · intro b off hp
      have hin : MemPlace.cell b off ∈ before:=by rw [hps]; simpa using hp
      rw [hb.frozen (hlt _ hin)]
      exact hz b off hin
    · intro ha
      have:=hn ha
      rw [hps] at this
      simpa using this
    · intro p hp _
      rw [hps]
      simpa using hp
theorem zZ {f : Func} {s : ChangeSpec} {apart fresh handsOn again : Bool} {W W' : World} {args : Array Value} {ds gs : List (DataW H)} {before : List MemPlace} {tb : TypeId}
    (hl : laidOutB P = true) (hr : ∀ t ∈ f.params.toList,P.readableRec t = true ∧ t < P.types.size) (hv : s.vars = []) (hres : f.resultTypes = #[tb]) (hbool : P.underlying tb = some .bool)
    (hfn : s.fn H (ds ++ gs) = { results:=[.lit (.bool true)],args:=ds })
    (hW : DataW.Whole enc P f.params.toList s.vars apart W args.toList ds gs before) (hb : Below W.heap.size W W') : s.post enc P f apart fresh handsOn again W args (.bool true) W':=by
  have hW':=hW
  obtain ⟨p,q,hA,hV,hbef,hfz,hnd⟩:=hW
  rw [hv] at hV
  obtain ⟨rfl,rfl⟩:=trodVars_none hV
  have hlt : ∀ x ∈ before,x.block < W.heap.size:=fun x hx=>hW'.lt x hx
  have hsub : ∀ x ∈ p,x ∈ before:=fun x hx=>by rw [hbef]; simp [hx]
  refine sA (pa:=p) (pv:=[]) hW' ?_ ?_ ?_ ?_ hb ?_
  · intro b sp hd
    rw [hfn,hres]
    exact trodAll_mk1 (shut_bool hbool true)
  · intro sp hsp
    rw [hfn]
    exact nM hl hb hr hA (fun x hx=>hlt x (hsub x hx)) (fun x hx=>hsp x (hsub x hx))
  · intro sp hsp
    rw [hfn,hv]; exact rfl
  · exact hbef
  · exact ok_one hres rfl (okWide_bool_mk hbool true)
end
end
end Go.IL
namespace Go.IL
theorem rD {P : Program} {w W : World} {r : Reach} {b : Nat} {t : TypeId} {v : Value} {d : D} (hv : Value.okWide P W r b t v) (hg : hM P t = false) (h : RdL (Env.none w) β0 v.cells.toList [d]) : Rd (Env.none w) β0 v d:=by
  refine xG h fun cs e=>?_
  subst e
  unfold hM at hg
  unfold Value.okWide at hv
  split at hv
  · rename_i h1; rw [h1] at hg; cases hg
  · rename_i h1; rw [h1] at hg; cases hg
  · unfold Cell.okWide at hv
    split at hv <;> simp_all [Cell.ok]
end Go.IL
open Go.RowKit Go.WideShapes Go.ChangeShapes
namespace Go.IL
end Go.IL
