/-
  A part of the proof: rules and plain facts. No condition.
-/
import Derived.Test.YtdnjagkihgjpcaaIlP136
import Derived.Test.YtdnjagkihgjpcaaIlA19D
import Derived.Test.YtdnjagkihgjpcaaIlMb
import Derived.ProofKit
import Derived.OpenShut
set_option linter.all false
open Go Go.IL
namespace Go.Fn
def qW (ns : List Nk) (p : Nat) : Nd:=⟨(ns.getD p default).id,(if (ns.getD p default).up = -1 then 0 else idP ns (ns.getD p default).up.toNat),(ns.getD p default).weight,(ns.getD p default).closed⟩
theorem qB {A : AS} {sp : List Nat} {ns : List Nk} {first : Int} {kids : Option Nat → List Nat} {N : List Nd} (h : RL A sp ns first kids N) {p : Nat} (hp : eV A p) : qW ns p ∈ N ∧ (qW ns p).ID = idP ns p ∧ ∃ n u,ns[p]? = some n ∧ n.up = upI u ∧ hdK A u ∧ qW ns p = asN ns n u:=by
  obtain ⟨u,n,k1,k2,k3,k4,k5⟩:=h.up p hp
  have e : qW ns p = asN ns n u:=by
    unfold qW asN
    rw [List.getD_eq_getElem?_getD,k2]
    show (⟨n.id,(if n.up = -1 then 0 else idP ns n.up.toNat),n.weight,n.closed⟩ : Nd) = _
    rw [k3]
    cases u with
    | none=>rfl
    | some q =>
      rw [show upI (some q) = (q : Int) from rfl,if_neg (by omega),Int.toNat_natCast]; rfl
  rw [e]
  exact ⟨k5,(cB k2).symm,n,u,k2,k3,k1,rfl⟩
theorem nodes_L {A : AS} {sp : List Nat} {ns : List Nk} {first : Int} {kids : Option Nat → List Nat} {N : List Nd} (h : RL A sp ns first kids N) {lv : List Nat} (hl : lv.length ≤ 1000) (hc : ∀ p ∈ lv,eV A p) (room keep : Int) (C : List AC) (F U : Int) (cl : List Int) (r : List Nat) : ∀ (q : List Nat) (f : Nat),lv = q ++ r → r.length < f → eB room keep C F U ns first cl (toI lv) f (q.map (qW ns)) (q.length : Int) = (bno (cO (lv.map (qW ns))) fun x31=>chk (x31.length = (lv.map (qW ns)).length) <| some x31):=by
  induction r with
  | nil =>
    intro q f h1 hf
    obtain ⟨f,rfl⟩ : ∃ g,f = g + 1:=⟨f - 1,by simp at hf; omega⟩
    rw [List.append_nil] at h1
    subst h1
    rw [eB,bndD,show (toI lv).length = lv.length by unfold toI; simp,decide_eq_false (by omega),bU]
  | cons p r ih =>
    intro q f h1 hf
    obtain ⟨f,rfl⟩ : ∃ g,f = g + 1:=⟨f - 1,by simp at hf; omega⟩
    obtain ⟨e1,e2,e3,e4⟩:=gixI h1 hl
    have hq : q.length ≤ 1000:=by rw [h1] at hl; simp at hl; omega
    obtain ⟨_,_,n,u,k1,k2,k3,k4⟩:=qB h (hc p (by rw [h1]; simp))
    rw [eB,bndD,e1,cI,e2,bnoS,dL,k1,bnoS,chk,if_pos h.len,Int.toNat_natCast,k1,bnoS,k2,aAK h k3,bnoS,mP (by simp; omega) (by simp; omega),bnoS,bndD,e4]
    have:=ih (q ++ [p]) f (by rw [h1]; simp) (by simpa using hf)
    rw [List.map_append,List.map_singleton,k4] at this
    exact this
end Go.Fn
open Go Go.IL
namespace Go.Fn
theorem kids_L3 {A : AS} {sp : List Nat} {ns : List Nk} {first : Int} {kids : Option Nat → List Nat} {N : List Nd} (h : RL A sp ns first kids N) (room keep : Int) (C : List AC) (F U : Int) (cl : List Int) : ∀ (r : List Nat) (acc : List Int) (a : Int) (f : Nat),gT ns a r → (∀ p ∈ r,eV A p) → acc.length + r.length ≤ 1000 → r.length < f → eL room keep C F U ns first cl f a acc = eM (acc ++ r.map (idP ns)):=by
  intro r
  induction r with
  | nil =>
    intro acc a f hc _ _ hf
    obtain ⟨f,rfl⟩ : ∃ g,f = g + 1:=⟨f - 1,by simp at hf; omega⟩
    have hc : a = -1:=hc
    rw [eL,bndD,hc,decide_eq_true rfl,Bool.not_true,bU,List.map_nil,List.append_nil]
  | cons p r ih =>
    intro acc a f hc hl ha hf
    obtain ⟨f,rfl⟩ : ∃ g,f = g + 1:=⟨f - 1,by simp at hf; omega⟩
    obtain ⟨h1,n,h2,h3⟩:=hc
    have hid : dX (p : Int) room keep C F U ns first cl = some (idP ns p):=aAK h (u:=some p) (hl p (by simp)) room keep C F U cl
    simp at ha
    rw [eL,bndD,h1,decide_eq_false (by omega),Bool.not_false,cI,dL,h2,bnoS,Int.toNat_natCast,h2,bnoS,hid,bnoS,mP (by simp; omega) (by simp; omega),bnoS]
    rw [ih (acc ++ [idP ns p]) n.next f h3 (fun z hz=>hl z (by simp [hz])) (by simp; omega) (by simpa using hf),List.map_cons,List.append_assoc]; rfl
theorem kids_L4 {A : AS} {sp : List Nat} {ns : List Nk} {first : Int} {kids : Option Nat → List Nat} {N : List Nd} (h : RL A sp ns first kids N) (room keep : Int) (C : List AC) (F U : Int) (cl : List Int) : ∀ (r : List Nat) (acc : List Int) (a : Int) (f : Nat),gT ns a r → (∀ p ∈ r,eV A p) → acc.length + r.length ≤ 1000 → r.length < f → eK room keep C F U ns first cl f a acc = eM (acc ++ r.map (idP ns)):=by
  intro r
  induction r with
  | nil =>
    intro acc a f hc _ _ hf
    obtain ⟨f,rfl⟩ : ∃ g,f = g + 1:=⟨f - 1,by simp at hf; omega⟩
    have hc : a = -1:=hc
    rw [eK,bndD,hc,decide_eq_true rfl,Bool.not_true,bU,List.map_nil,List.append_nil]
  | cons p r ih =>
    intro acc a f hc hl ha hf
    obtain ⟨f,rfl⟩ : ∃ g,f = g + 1:=⟨f - 1,by simp at hf; omega⟩
    obtain ⟨h1,n,h2,h3⟩:=hc
    have hid : dX (p : Int) room keep C F U ns first cl = some (idP ns p):=aAK h (u:=some p) (hl p (by simp)) room keep C F U cl
    simp at ha
    rw [eK,bndD,h1,decide_eq_false (by omega),Bool.not_false,cI,dL,h2,bnoS,Int.toNat_natCast,h2,bnoS,hid,bnoS,mP (by simp; omega) (by simp; omega),bnoS]
    rw [ih (acc ++ [idP ns p]) n.next f h3 (fun z hz=>hl z (by simp [hz])) (by simp; omega) (by simpa using hf),List.map_cons,List.append_assoc]; rfl
end Go.Fn
open Go Go.IL
namespace Go.Fn
theorem aAT {A : AS} {ns : List Nk} {first : Int} {cl : List Int} {R K : Int} {N : List Nd} {E : List Int} (h : TS A ns first cl R K N E) (id : Int) (room keep : Int) :
    (¬ (hasN N id ∨ id = 0) ∧ dJ id room keep A.Cells A.Free A.Used ns first cl = some []) ∨
    (hasN N id ∨ id = 0) ∧ ∃ l : List Int,dJ id room keep A.Cells A.Free A.Used ns first cl = eM l ∧ l.Nodup ∧ l.length ≤ 64 ∧ (∀ m ∈ N,(m.ID ∈ l ↔ m.Parent = id)) ∧ ∀ i ∈ l,hasN N i:=by
  obtain ⟨sp,kids,hR,h0⟩:=h.rl
  have hpos : ∀ m ∈ N,1 ≤ m.ID:=fun m hm=>(h.fv.ra m hm).1.1
  have hnd : ∀ u,hdK A u → ((kids u).map (idP ns)).Nodup:=fun u hu =>
    List.pairwise_map.2 ((hR.lk.nd u hu).imp_of_mem fun {p q} hp hq hne e=>hne (hR.inj p q (hR.kid u p hu hp) (hR.kid u q hu hq) e))
  have hin : ∀ u,hdK A u → ∀ i ∈ (kids u).map (idP ns),hasN N i:=fun u hu i hi=>by
    obtain ⟨p,hp,rfl⟩:=List.mem_map.1 hi
    obtain ⟨v,n,k1,k2,k3,k4,k5⟩:=hR.up p (hR.kid u p hu hp)
    exact ⟨_,k5,(cB k2).symm⟩
  unfold dJ
  rcases oR h id room keep with ⟨f1,p,f2,f3,f4⟩ | ⟨f1,f4⟩
  · have hsz := hR.lk.size hR.len (u := some p) f2
    obtain ⟨v,n,k1,k2,k3,k4,k5⟩:=hR.up p f2
    have hch:=hR.lk.ch (some p) f2
    rw [jI k2] at hch
    refine .inr ⟨.inl f1,(kids (some p)).map (idP ns),?_,hnd (some p) f2,by rw [List.length_map]; exact hsz,fun m hm=>?_,hin (some p) f2⟩
    · rw [f4, bnoS, bndD, bndD, bndD, decide_eq_false (show ¬ (p : Int) = -1 by omega), Bool.false_and, bU, bndD, bU, dL, k2, bnoS, chk, if_pos hR.len, Int.toNat_natCast, k2, bnoS]
      rw [kids_L4 hR room keep A.Cells A.Free A.Used cl (kids (some p)) [] n.first fuel hch (fun z hz=>hR.kid (some p) z f2 hz) (by simp; omega) (gV (by omega))]; rfl
    · rw [oN hR hpos (u:=some p) f2 hm,← f3]; rfl
  · by_cases e : id = 0
    · have hsz := hR.lk.size hR.len (u := none) trivial
      refine .inr ⟨.inr e,(kids none).map (idP ns),?_,hnd none trivial,by rw [List.length_map]; exact hsz,fun m hm=>?_,hin none trivial⟩
      · rw [f4, bnoS, bndD, bndD, bndD, decide_eq_true e, Bool.not_true, Bool.and_false, bU, bndD, show decide ((-1 : Int) = -1) = true from rfl, cI, chk, if_pos hR.len]
        rw [kids_L3 hR room keep A.Cells A.Free A.Used cl (kids none) [] first fuel (hR.lk.ch none trivial) (fun z hz=>hR.kid none z trivial hz) (by simp; omega) (gV (by omega))]; rfl
      · rw [oN hR hpos (u:=none) trivial hm,e]; rfl
    · refine .inl ⟨fun hh => hh.elim f1 e, ?_⟩
      rw [f4,bnoS,bndD,bndD,bndD,decide_eq_false e,Bool.not_false,Bool.and_true,show decide ((-1 : Int) = -1) = true from rfl,cI]
end Go.Fn
open Go Go.IL
namespace Go.Fn
theorem nM {α : Type} {k : α → Int} : ∀ {w : List α},w.Pairwise (fun a b=>k a ≤ k b) → (w.map k).Nodup → w.Pairwise (fun a b=>k a < k b)
  | [],_,_=>.nil
  | x :: w, h, hn => by
    obtain ⟨h1,h2⟩:=List.pairwise_cons.1 h
    obtain ⟨n1,n2⟩:=List.nodup_cons.1 hn
    refine List.pairwise_cons.2 ⟨fun y hy=>?_,nM h2 n2⟩
    have:=h1 y hy
    have : k x ≠ k y:=fun e=>n1 (List.mem_map.2 ⟨y,hy,e.symm⟩)
    omega
theorem vsort_t {l : List Int} (hl : l.length ≤ 24) (hn : l.Nodup) : ∃ w,uH l = some w ∧ w.Perm l ∧ w.Pairwise (· < ·):=by
  have hp:=kQ id l
  refine ⟨_,sortI_t (by omega),hp,?_⟩
  refine nM (k:=id) (lL id l) ?_
  rw [List.map_id]
  exact (hp.nodup_iff).2 hn
theorem ksort_t {l : List Nd} (hl : l.length ≤ 24) (hn : (l.map (·.ID)).Nodup) (hg : ∀ m ∈ l,0 ≤ m.ID ∧ m.ID ≤ 1048576) : ∃ w,cO l = some w ∧ w.Perm l ∧ w.Pairwise (fun a b=>a.ID < b.ID):=by
  have hp:=kQ (fun m : Nd=>m.ID) l
  refine ⟨_,sortK_t (by omega) (fun m hm=>?_) hn,hp,nM (lL _ l) (((hp.map _).nodup_iff).2 hn)⟩
  have:=hg m hm
  rw [Bool.and_eq_true,decide_eq_true_iff,decide_eq_true_iff]
  exact this
end Go.Fn
open Go Go.IL
namespace Go.Fn
theorem uY {A : AS} {ns : List Nk} {first : Int} {cl : List Int} {R K : Int} {N : List Nd} {E : List Int} (h : TS A ns first cl R K N E) (id : Int) (room keep : Int) :
    ∃ w : List Int,dJ id room keep A.Cells A.Free A.Used ns first cl = some w ∧ w.Pairwise (· < ·) ∧ (∀ i ∈ w,hasN N i) ∧ (¬ (hasN N id ∨ id = 0) → w = []) ∧ ((hasN N id ∨ id = 0) → ∀ m ∈ N,(m.ID ∈ w ↔ m.Parent = id)):=by
  rcases aAT h id room keep with ⟨h1,h2⟩ | ⟨h1,l,h2,h3,h4,h5,h6⟩
  · exact ⟨[],h2,List.Pairwise.nil,fun i hi=>(by cases hi),fun _=>rfl,fun hh=>absurd hh h1⟩
  · have hl : l.length ≤ 24 := by
      have:=kV h3 (m:=N.map (·.ID)) fun i hi=>by
        obtain ⟨m,hm,e⟩:=h6 i hi
        exact List.mem_map.2 ⟨m,hm,e⟩
      rw [List.length_map] at this
      have hN : N.length ≤ 24:=h.fv.ln
      omega
    obtain ⟨w,hw,hp,hs⟩:=vsort_t hl h3
    refine ⟨w,?_,hs,fun i hi=>h6 i (hp.mem_iff.1 hi),fun hh=>absurd h1 hh,fun _ m hm=>?_⟩
    · rw [h2]
      unfold eM
      unfold gU
      rw [hw,bnoS,chk,if_pos hp.length_eq]
    · rw [hp.mem_iff]; exact h5 m hm
end Go.Fn
open Go Go.IL
namespace Go.Fn
theorem vI : ∀ {l m : List Nd}, l.Pairwise (fun a b => a.ID < b.ID) → m.Pairwise (fun a b => a.ID < b.ID) → (∀ x, x ∈ l ↔ x ∈ m) → l = m
  | [],[],_,_,_=>rfl
  | [],y :: m,_,_,h=>by have:=(h y).2 (by simp); cases this
  | x :: l,[],_,_,h=>by have:=(h x).1 (by simp); cases this
  | x :: l, y :: m, h1, h2, h => by
    obtain ⟨a1,a2⟩:=List.pairwise_cons.1 h1
    obtain ⟨b1,b2⟩:=List.pairwise_cons.1 h2
    have e : x = y:=by
      rcases List.mem_cons.1 ((h x).1 (by simp)) with e | hx
      · exact e
      · rcases List.mem_cons.1 ((h y).2 (by simp)) with e | hy
        · exact e.symm
        · have := a1 y hy
          have:=b1 x hx
          omega
    subst e
    rw [vI a2 b2 fun z=>?_]
    constructor
    · intro hz
      rcases List.mem_cons.1 ((h z).1 (List.mem_cons_of_mem _ hz)) with e | hz2
      · have := a1 z hz
        rw [e] at this; omega
      · exact hz2
    · intro hz
      rcases List.mem_cons.1 ((h z).2 (List.mem_cons_of_mem _ hz)) with e | hz2
      · have := b1 z hz
        rw [e] at this; omega
      · exact hz2
theorem aAS {A : AS} {ns : List Nk} {first : Int} {cl : List Int} {R K : Int} {N : List Nd} {E : List Int} (h : TS A ns first cl R K N E) (room keep : Int) : gM room keep A.Cells A.Free A.Used ns first cl = some N:=by
  obtain ⟨sp,kids,hR,h0⟩:=h.rl
  have hN : N.length ≤ 24:=h.fv.ln
  have hlen : (jX A.Cells 0).length = N.length:=by
    have h1:=pM hR
    rw [hR.ga.used,← oA A.Cells 0] at h1
    omega
  have hc : ∀ p ∈ jX A.Cells 0,eV A p:=fun p hp=>kM.2 hp
  unfold gM
  rw [yH hR.ga,bnoS]
  have:=nodes_L hR (lv:=jX A.Cells 0) (by omega) hc room keep A.Cells A.Free A.Used cl (jX A.Cells 0) [] fuel rfl (gV (by omega))
  rw [show ((0 : Int)) = (([] : List Nat).length : Int) from rfl]
  refine Eq.trans this ?_
  have hids : ((jX A.Cells 0).map (qW ns)).map (·.ID) = (jX A.Cells 0).map (idP ns):=by
    rw [List.map_map]
    exact List.map_congr_left fun p hp=>(qB hR (hc p hp)).2.1
  obtain ⟨w,e,hp,hs⟩:=ksort_t (l:=(jX A.Cells 0).map (qW ns)) (by rw [List.length_map]; omega) (by
    rw [hids]
    exact List.pairwise_map.2 ((nN A.Cells 0).imp_of_mem fun {p q} hp hq hne e=>hne (hR.inj p q (hc p hp) (hc q hq) e))) (fun m hm=>by
    obtain ⟨p,hp,rfl⟩:=List.mem_map.1 hm
    have:=(h.fv.ra _ (qB hR (hc p hp)).1).1
    omega)
  rw [e,bnoS,chk,if_pos hp.length_eq]
  congr 1
  refine vI hs hR.so fun x=>?_
  rw [hp.mem_iff]
  constructor
  · intro hx
    obtain ⟨p,hp,rfl⟩:=List.mem_map.1 hx
    exact (qB hR (hc p hp)).1
  · intro hx
    obtain ⟨p,n,u,k1,k2,k3,k4,rfl⟩:=hR.bw x hx
    obtain ⟨g1,g2,_⟩:=qB hR k1
    refine List.mem_map.2 ⟨p,kM.1 k1,mT hR.so g1 hx ?_⟩
    rw [g2,cB k3]; rfl
theorem Do_ts {A : AS} {ns : List Nk} {first : Int} {cl : List Int} {R K : Int} {N : List Nd} {E : List Int} (h : TS A ns first cl R K N E) {a : cE} (h0 : 0 ≤ a.Kind) (h1 : a.Kind ≤ 255) :
    ∃ c A' ns' first' cl' N' E',iZ a R K A.Cells A.Free A.Used ns first cl = some (c,R,K,A'.Cells,A'.Free,A'.Used,ns',first',cl') ∧ TS A' ns' first' cl' R K N' E':=by
  obtain ⟨r,hr⟩:=zS h0 h1
  obtain ⟨A1,ns1,f1,cl1,i1,i2⟩:=zJ h a.ID a.Dep a.Weight a.Only
  obtain ⟨A2,ns2,f2,cl2,m1,m2⟩:=zI h a.ID a.Dep a.Weight a.Only
  obtain ⟨A3,ns3,f3,cl3,c1,c2⟩:=aAU h a.ID
  obtain ⟨A4,ns4,f4,cl4,r1,r2⟩:=zH h a.ID
  unfold iZ
  rw [hr,bnoS,bndD]
  unfold hZ hM
  by_cases e : r = 0
  · rw [decide_eq_true e, cI, cI, i1, bnoS]
    exact ⟨_,_,_,_,_,_,_,rfl,i2⟩
  · rw [decide_eq_false e, bU, bndD]
    by_cases e : r = 1
    · rw [decide_eq_true e, cI, i1, bnoS]
      exact ⟨_,_,_,_,_,_,_,rfl,i2⟩
    · rw [decide_eq_false e, bU, bndD]
      by_cases e : r = 2
      · rw [decide_eq_true e, cI, cI, m1, bnoS]
        exact ⟨_,_,_,_,_,_,_,rfl,m2⟩
      · rw [decide_eq_false e, bU, bndD]
        by_cases e : r = 3
        · rw [decide_eq_true e, cI, m1, bnoS]
          exact ⟨_,_,_,_,_,_,_,rfl,m2⟩
        · rw [decide_eq_false e, bU, bndD]
          by_cases e : r = 4
          · rw [decide_eq_true e, cI, c1, bnoS]
            exact ⟨_,_,_,_,_,_,_,rfl,c2⟩
          · rw [decide_eq_false e, bU, r1, bnoS]
            exact ⟨_,_,_,_,_,_,_,rfl,r2⟩
end Go.Fn
open Go Go.IL
namespace Go.Fn
end Go.Fn
open Go Go.IL
namespace Go.Fn
end Go.Fn
open Go Go.IL
namespace Go.Fn
end Go.Fn
open Go Go.IL
namespace Go.Fn
inductive Dsc (N : List Nd) (d : Int) : Int → Prop
  | child (n : Nd) (hn : n ∈ N) (hp : n.Parent = d) : Dsc N d n.ID
  | up (n : Nd) (hn : n ∈ N) (hp : n.Parent ≠ 0) (h : Dsc N d n.Parent) : Dsc N d n.ID
structure Tr (N : List Nd) (r : Int → Nat) : Prop where
  so : N.Pairwise (fun a b=>a.ID < b.ID)
  id : ∀ n ∈ N,1 ≤ n.ID
  pa : ∀ n ∈ N,n.Parent = 0 ∨ ∃ m ∈ N,m.ID = n.Parent
  rk : ∀ n ∈ N,n.Parent ≠ 0 → r n.Parent < r n.ID
theorem FV.tr {K : Int} {st : Fs} (h : FV K st) : ∃ r,Tr st.Nodes r:=by
  obtain ⟨r,hr⟩:=h.rk
  exact ⟨r,h.so,fun n hn=>(h.ra n hn).1.1,h.pa,hr⟩
section
variable {N : List Nd} {r : Int → Nat}
theorem path_tr (h : Tr N r) {n : Nd} (hn : n ∈ N) : fP N N.length n.ID = if n.Parent = 0 then [] else n.Parent :: fP N N.length n.Parent:=by
  obtain ⟨k,hk⟩ : ∃ k,N.length = k + 1:=⟨N.length - 1,by have:=List.length_pos_of_mem hn; omega⟩
  by_cases hz : n.Parent = 0
  · rw [if_pos hz, hk, fP, oW h.so hn]
    simp only [if_pos hz]
  · rw [if_neg hz]
    have e1 : fP N N.length n.ID = n.Parent :: fP N k n.Parent:=by
      rw [hk,fP,oW h.so hn]
      simp only [if_neg hz]
    obtain ⟨h1,h2⟩:=kP h.so h.rk h.pa N.length n.ID ⟨n,hn,rfl⟩
    have h3:=kV h1 h2
    rw [e1,List.length_cons,List.length_cons,List.length_map] at h3
    have h4:=qG (N:=N) k n.Parent (by omega)
    rw [e1,hk,h4]
end
end Go.Fn
open Go Go.IL
namespace Go.Fn
theorem aAY {l : List Int} (hl : l.length ≤ 1000) {n : Int} : ∀ (r q : List Int) (f : Nat), l = q ++ r → r.length < f → fI l n f (q.length : Int) = some (decide (n ∈ r))
  | [], q, f, h, hf => by
    obtain ⟨f,rfl⟩ : ∃ g,f = g + 1:=⟨f - 1,by simp at hf; omega⟩
    rw [List.append_nil] at h
    rw [fI,bndD,h,decide_eq_false (by omega),bU]; rfl
  | x :: r, q, f, h, hf => by
    obtain ⟨f,rfl⟩ : ∃ g,f = g + 1:=⟨f - 1,by simp at hf; omega⟩
    have hrec:=aAY hl (n:=n) r (q ++ [x]) f (by rw [h]; simp) (by simpa using hf)
    rw [fI,bndD,pH h,cI,mO h,bnoS,bndD]
    by_cases e : x = n
    · rw [decide_eq_true e,cI,decide_eq_true (by rw [e]; exact List.mem_cons_self ..)]
    · rw [decide_eq_false e, bU, bndD, w_at h (by omega), hrec]
      congr 1
      by_cases e2 : n ∈ r
      · rw [decide_eq_true e2,decide_eq_true (List.mem_cons_of_mem _ e2)]
      · rw [decide_eq_false e2, decide_eq_false]
        intro hh
        rcases List.mem_cons.1 hh with e3 | h3
        · exact e e3.symm
        · exact e2 h3
theorem in19 {l : List Int} (hl : l.length ≤ 1000) (n : Int) : dM l n = some (decide (n ∈ l)):=aAY hl l [] fuel rfl (gV (by omega))
end Go.Fn
open Go Go.IL
namespace Go.Fn
def GoodD (l : List cE) : Prop:=∀ a ∈ l,0 ≤ a.Kind ∧ a.Kind ≤ 255
end Go.Fn
open Go Go.IL
namespace Go.Fn
def askI (N : List Nd) (l : List Int) (i : Int) : Bool:=decide (i ∈ l) && N.any fun m=>decide (m.ID = i) && !m.Closed
def readyI (N : List Nd) (l : List Int) (i : Int) : Bool:=askI N l i && !((fP N N.length i).any (askI N l))
structure Marks19 (A : AS) (ns : List Nk) (q : List Int) (B : List Bool) : Prop where
  len : B.length = 64
  mr : ∀ p : Nat,B[p]? = some true ↔ eV A p ∧ idP ns p ∈ q ∧ (ns.getD p default).closed = false
structure RdAcc (A : AS) (ns : List Nk) (N : List Nd) (l : List Int) (k : Nat) (acc : List Int) : Prop where
  nd : acc.Nodup
  ln : acc.length ≤ k
  me : ∀ i,i ∈ acc ↔ ∃ p,p < k ∧ eV A p ∧ idP ns p = i ∧ readyI N l i = true
end Go.Fn
open Go Go.IL
namespace Go.Fn
end Go.Fn
open Go Go.IL
namespace Go.Fn
structure OnlyS (N G : List Nd) (a b : Int) : Prop where
  one : ∀ m ∈ G,m.Parent = b ↔ m.ID = a
  it : hasN G a
  all : ∀ m ∈ N,m.ID ≠ a → m.Parent = b → ∃ z ∈ G,z.ID = m.ID ∧ z.Parent = a
  bb : b = 0 ∨ hasN G b
theorem rK {K : Int} {N : List Nd} {E : List Int} (h : FV K ⟨24, K, N, E⟩) {a b w : Int} (hab : a ≠ b) (hkn : b = 0 ∨ hasN N b) (hx : hasN N a) : OnlyS N (kE N a ⟨b, w, true⟩) a b := by
  have hw : pF N ⟨b,w,true⟩ = ⟨b,w,true⟩:=by
    unfold pF
    rw [if_neg]
    rintro ⟨h0,h1⟩
    rcases hkn with e | ⟨m,hm,e⟩
    · exact h0 e
    · exact h1 m hm e
  obtain ⟨x,hxm,hxa⟩:=hx
  obtain ⟨rk,hrk⟩ : ∃ r : Int → Nat,∀ n ∈ N,n.Parent ≠ 0 → r n.Parent < r n.ID:=h.rk
  have hra : ∀ n ∈ N,1 ≤ n.ID:=fun n hn=>(h.ra n hn).1.1
  have hG : kE N a ⟨b,w,true⟩ = (upN N a b).map (lD a b w true):=by
    unfold kE
    rw [hw]
  rw [hG]
  have hup : ∃ p,∀ m,m ∈ upN N a b → ∃ n ∈ N,m = n ∨ m = mvN b p n:=by
    refine ⟨(mQ N a).getD 0,fun m hm=>?_⟩
    unfold upN at hm
    split at hm
    · obtain ⟨n, hn, rfl⟩ := List.mem_map.1 hm
      exact ⟨n,hn,.inr rfl⟩
    · exact ⟨m,hm,.inl rfl⟩
  have hkeep : ∀ n ∈ N,n.ID ≠ b → n ∈ upN N a b:=fun n hn hne=>by
    unfold upN
    split
    · refine List.mem_map.2 ⟨n, hn, ?_⟩
      unfold mvN
      rw [if_neg hne]
    · exact hn
  refine ⟨fun m hm=>?_,?_,fun m hm h1 h2=>?_,?_⟩
  · obtain ⟨n, hn, rfl⟩ := List.mem_map.1 hm
    unfold lD
    by_cases e : n.ID = a
    · rw [if_pos e]; exact ⟨fun _=>e,fun _=>rfl⟩
    · rw [if_neg e]
      by_cases e2 : n.Parent = b
      · rw [if_pos ⟨rfl, e2⟩]
        exact ⟨fun hh=>absurd hh hab,fun hh=>absurd hh e⟩
      · rw [if_neg (fun hh => e2 hh.2)]
        exact ⟨fun hh=>absurd hh e2,fun hh=>absurd hh e⟩
  · exact ⟨_,List.mem_map.2 ⟨x,hkeep x hxm (by rw [hxa]; exact hab),rfl⟩,(nC _ _ _ _ _).trans hxa⟩
  · have hmb : m.ID ≠ b := fun e => by
      by_cases h0 : b = 0
      · have:=hra m hm; omega
      · have := hrk m hm (by rw [h2]; exact h0)
        rw [h2,e] at this; omega
    refine ⟨_,List.mem_map.2 ⟨m,hkeep m hm hmb,rfl⟩,nC _ _ _ _ _,?_⟩
    unfold lD
    rw [if_neg h1,if_pos ⟨rfl,h2⟩]
  · rcases hkn with e | ⟨m, hm, e⟩
    · exact .inl e
    · right
      unfold upN
      split
      · exact ⟨_,List.mem_map.2 ⟨_,List.mem_map.2 ⟨m,hm,rfl⟩,rfl⟩,(nC _ _ _ _ _).trans ((jB _ _ _).trans e)⟩
      · exact ⟨_,List.mem_map.2 ⟨m,hm,rfl⟩,(nC _ _ _ _ _).trans e⟩
theorem xU {A : AS} {ns : List Nk} {first : Int} {cl : List Int} {K : Int} {N : List Nd} {E : List Int} (h : TS A ns first cl 24 K N E) {a b : Int} (ha : 1 ≤ a ∧ a ≤ 9) (hb : 0 ≤ b ∧ b ≤ 9) (hab : a ≠ b) (hkn : b = 0 ∨ hasN N b) (hroom : hasN N a ∨ N.length < 24) :
    ∃ A' ns' first' cl' G E',fN a b 7 true 24 K A.Cells A.Free A.Used ns first cl = some (0,24,K,A'.Cells,A'.Free,A'.Used,ns',first',cl') ∧ TS A' ns' first' cl' 24 K G E' ∧ OnlyS N G a b ∧ G.length = if hasN N a then N.length else N.length + 1:=by
  obtain ⟨A',ns',first',cl',m1,m2⟩:=zI h a b 7 true
  have hwc : pG a ⟨b,7,true⟩ = 0:=by
    unfold pG
    rw [if_pos (show fitW a ⟨b,7,true⟩ from ⟨⟨by omega,by omega⟩,⟨by show 0 ≤ b; omega,by show b ≤ 1048576; omega⟩,(by decide : (1 : Int) ≤ 7),(by decide : (7 : Int) ≤ 256)⟩),if_neg hab]
  by_cases hx : hasN N a
  · have e : uB 24 N E a ⟨b, 7, true⟩ = (0, kE N a ⟨b, 7, true⟩, E) := by unfold uB; rw [if_pos hwc, if_pos hx]
    rw [e] at m1 m2
    exact ⟨A',ns',first',cl',_,_,m1,m2,rK h.fv hab hkn hx,by rw [if_pos hx]; exact (pT h.fv (x:=a) hx (w:=⟨b,7,true⟩) (fun e=>hab e.symm) (by decide : (1 : Int) ≤ 7 ∧ (7 : Int) ≤ 256)).2⟩
  · have hlt : N.length < 24 := hroom.resolve_left hx
    have hno : ∀ m ∈ N,m.ID ≠ a:=fun m hm e=>hx ⟨m,hm,e⟩
    have e : uB 24 N E a ⟨b,7,true⟩ = (0,kE (newS N a) a ⟨b,7,true⟩,E):=by
      unfold uB insS
      rw [if_pos hwc,if_neg hx,if_pos (by omega)]
    rw [e] at m1 m2
    have hfn:=aAZ h.fv (id:=a) ⟨by omega,by omega⟩ hno hlt
    have hin : ∀ m ∈ N,m ∈ newS N a:=fun m hm=>(qL h.fv.so hno m).2 (.inr hm)
    have hxa : hasN (newS N a) a:=⟨_,(qL h.fv.so hno _).2 (.inl rfl),rfl⟩
    have ho:=rK hfn (w:=7) hab (hkn.imp_right fun ⟨m,hm,e⟩=>⟨m,hin m hm,e⟩) hxa
    refine ⟨A',ns',first',cl',_,_,m1,m2,⟨ho.one,ho.it,fun m hm=>ho.all m (hin m hm),ho.bb⟩,?_⟩
    rw [if_neg hx,(pT hfn (x:=a) hxa (w:=⟨b,7,true⟩) (fun e=>hab e.symm) (by decide : (1 : Int) ≤ 7 ∧ (7 : Int) ≤ 256)).2]
    exact sH (N:=N) h.fv.so hno
theorem xV {a b n : Int} {ks was : List Int} {there : Bool} {X : Int × Int × Int × List aI × Int × Int × List aG × Int × List Int} {nb na : List Int} (hk : ks.length ≤ 1000) (hna : na.length ≤ 1000) (hin : ∀ x ∈ ks,x = a ∨ x ∈ na) : ∀ (r q : List Int) (f : Nat),ks = q ++ r → r.length < f → ∃ g,cG a b n ks was there X nb na f (q.length : Int) = cG a b n ks was there X nb na (g + 1) (ks.length : Int)
  | _,_,0,_,hf=>absurd hf (by omega)
  | [], q, f + 1, h, _ => by
    rw [List.append_nil] at h
    exact ⟨f,by rw [h]⟩
  | x :: r, q, f + 1, h, hf => by
    obtain ⟨g,hg⟩:=xV (a:=a) (b:=b) (n:=n) (was:=was) (there:=there) (X:=X) (nb:=nb) hk hna hin r (q ++ [x]) f (by rw [h]; simp) (by simpa using hf)
    refine ⟨g,?_⟩
    rw [cG,bndD,pH h,cI,mO h,bnoS,yW h,bnoS,bndD]
    by_cases e : x = a
    · rw [decide_eq_true e, Bool.not_true, ft, gdff, bnoS, bnoS, gdff, bnoS, bndD, Bool.false_and, bU, w_at h (by omega), bndD]
      exact hg
    · have hm : x ∈ na := (hin x (by rw [h]; simp)).resolve_left e
      rw [decide_eq_false e,Bool.not_false,beq_self_eq_true,gdtt,bnoS,bnoS,gdtt,in19 hna,decide_eq_true hm,bnoS,bndD,Bool.not_true,Bool.and_false,bU,w_at h (by omega),bndD]
      exact hg
theorem xW {v332 v333 : Int} {v334 : List aI} {v335 v336 : Int} {v337 : List aG} {v338 : Int} {v339 : List Int} {a b n : Int} {ks was : List Int} {N : List Nd} (hl : N.length ≤ 1000) : ∀ (r q : List Nd) (f : Nat) (kn th : Bool),N = q ++ r → r.length < f → ∃ g,cT v332 v333 v334 v335 v336 v337 v338 v339 a b n ks was N f kn th (q.length : Int) = cT v332 v333 v334 v335 v336 v337 v338 v339 a b n ks was N (g + 1) (kn || r.any fun m=>decide (m.ID = b)) (th || r.any fun m=>decide (m.ID = a)) (N.length : Int)
  | _,_,0,_,_,_,hf=>absurd hf (by omega)
  | [], q, f + 1, kn, th, h, _ => by
    rw [List.append_nil] at h
    exact ⟨f,by rw [h,List.any_nil,List.any_nil,Bool.or_false,Bool.or_false]⟩
  | x :: r, q, f + 1, kn, th, h, hf => by
    obtain ⟨g,hg⟩:=xW (v332:=v332) (v333:=v333) (v334:=v334) (v335:=v335) (v336:=v336) (v337:=v337) (v338:=v338) (v339:=v339) (a:=a) (b:=b) (n:=n) (ks:=ks) (was:=was) hl r (q ++ [x]) f (kn || decide (x.ID = b)) (th || decide (x.ID = a)) (by rw [h]; simp) (by simpa using hf)
    refine ⟨g,?_⟩
    rw [Bool.or_assoc,Bool.or_assoc] at hg
    rw [List.any_cons,List.any_cons,← hg,cT,bndD,pH h,cI,mO h,yW h,w_at h (by omega)]
    have e1 : ∀ (v : Bool) (c : Int) (F : Bool → Option Bool),(bno (gd (v == false) (some x) default) fun _=>bno (gd (v == false) (some x) default) fun y=>bnd (decide (y.ID = c)) fun z=>bnd (v || z) F) = F (v || decide (x.ID = c)):=fun v c F=>by
      cases v
      · rw [beq_self_eq_true,gdtt,bnoS,bnoS,bndD,bndD]
      · rw [show (true == false) = false from rfl,gdff,bnoS,bnoS,bndD,bndD,Bool.true_or,Bool.true_or]
    rw [e1,e1,bndD]
end Go.Fn
open Go Go.IL
namespace Go.Fn
theorem zZ {l : List Int} {a : Int} (hn : l.Pairwise (· < ·)) (h1 : a ∈ l) (h2 : ∀ i ∈ l,i = a) : l = [a]:=by
  cases l with
  | nil=>cases h1
  | cons x l =>
    have e:=h2 x (by simp)
    subst e
    cases l with
    | nil=>rfl
    | cons y l =>
      have e:=h2 y (by simp)
      have:=(List.pairwise_cons.1 hn).1 y (by simp)
      omega
theorem uM {A : AS} {ns : List Nk} {first : Int} {cl : List Int} {K : Int} {G : List Nd} {E : List Int} (h : TS A ns first cl 24 K G E) {N : List Nd} {a b : Int} (hb0 : 0 ≤ b) (ho : OnlyS N G a b) {n : Int} (hn0 : 0 ≤ n ∧ n ≤ 24) {ks was na : List Int} {there : Bool} (hwas : was.length < 24) (hlen : (G.length : Int) = if there = true then n else n + 1) (c : Int) (g : Nat) :
    cG a b n ks was there (c,24,K,A.Cells,A.Free,A.Used,ns,first,cl) [a] na (g + 1) (ks.length : Int) = some true:=by
  have hln : G.length ≤ 24:=h.fv.ln
  obtain ⟨rk,htr⟩ : ∃ rk,Tr G rk:=h.fv.tr
  obtain ⟨m,hm,hma⟩:=ho.it
  have hmb : m.Parent = b:=(ho.one m hm).2 hma
  have hpa : fP G G.length a = if b = 0 then [] else b :: fP G G.length b:=by
    have:=path_tr htr hm
    rw [hma,hmb] at this
    exact this
  obtain ⟨p1,p2⟩:=kP htr.so htr.rk htr.pa G.length a ⟨m,hm,hma⟩
  have p3:=kV p1 p2
  rw [List.length_cons,List.length_map] at p3
  have p4 : a ∉ fP G G.length a:=(List.nodup_cons.1 p1).1
  have hin : dM (fP G G.length a) a = some false:=by rw [in19 (by omega),decide_eq_false p4]
  have hP : ∀ room keep : Int,cM a room keep A.Cells A.Free A.Used ns first cl = some (fP G G.length a):=fun room keep=>by rw [uX h,if_pos ho.it]
  have g1 : gix [a] 0 = some a:=rfl
  have g2 : [a][(0 : Int).toNat]? = some a:=rfl
  have hw1 : IntKind.wrap .i64 (n + 1) = n + 1:=w64 (by omega) (by omega)
  have hd : decide ((([a] : List Int).length : Int) = 1) = true:=rfl
  have hw24 : decide ((was.length : Int) < 24) = true:=decide_eq_true (by omega)
  rw [cG,bndD,decide_eq_false (by omega),bU,hd,g1,g2]
  simp only [bndD,Bool.not_true,beq_self_eq_true,gdtt,bnoS,decide_true,Bool.or_false,Bool.false_or,hw1]
  have hmid : ∀ Z : Option Bool,(bno (gd (true && there == true) (dI 24 K A.Cells A.Free A.Used ns first cl) default) fun x466=>bno (gd ((there && !decide (x466 = n)) == false && (!there) == true) (dI 24 K A.Cells A.Free A.Used ns first cl) default) fun x470=>bif (there && (!decide (x466 = n)) || (!there) && !decide (x470 = n + 1)) then some false else Z) = Z:=fun Z=>by
    rw [aAb h]
    cases there with
    | true =>
      rw [if_pos rfl] at hlen
      rw [hlen]
      simp only [beq_self_eq_true,Bool.and_self,gdtt,bnoS,decide_true,Bool.not_true,Bool.and_false,ft,gdff,Bool.false_and,Bool.or_false,bU]
    | false =>
      rw [if_neg (by decide)] at hlen
      rw [hlen]
      simp only [ft,Bool.and_false,gdff,bnoS,Bool.false_and,Bool.not_false,beq_self_eq_true,Bool.and_self,gdtt,decide_true,Bool.not_true,Bool.or_false,bU]
  refine Eq.trans (hmid _) ?_
  by_cases h0 : b = 0
  · rw [decide_eq_true h0]
    rw [hP,hw24,sW,show decide (0 < (([] : List Int).length : Int)) = false from rfl]
    simp only [hin,show (true == false) = false from rfl,bU,Bool.false_and,Bool.and_false,gdff,bnoS,Bool.true_or,beq_self_eq_true,cI,gdtt,Bool.not_false,Bool.and_self]
    rfl
  · rw [if_neg h0] at hpa
    have k1 : decide (0 < ((fP G G.length a).length : Int)) = true:=decide_eq_true (by rw [hpa,List.length_cons]; omega)
    have k2 : gix (fP G G.length a) 0 = some b:=by rw [hpa]; rfl
    have k3 : (fP G G.length a)[(0 : Int).toNat]? = some b:=by rw [hpa]; rfl
    rw [decide_eq_false h0,hP]
    simp only [beq_self_eq_true,cI,bnoS,k1,k2,k3,Bool.and_self,gdtt,decide_true,Bool.or_true,hin,Bool.not_false,hw24,sW]
    rfl
theorem zG (N : List Nd) (id : Int) : (N.any fun m=>decide (m.ID = id)) = decide (hasN N id):=by
  by_cases h : hasN N id
  · rw [decide_eq_true h]
    obtain ⟨m,hm,e⟩:=h
    exact List.any_eq_true.2 ⟨m,hm,decide_eq_true e⟩
  · rw [decide_eq_false h]
    exact List.any_eq_false.2 fun m hm hh=>h ⟨m,hm,of_decide_eq_true hh⟩
theorem only_J6 {A : AS} {ns : List Nk} {first : Int} {cl : List Int} {K : Int} {N : List Nd} {E : List Int} (h : TS A ns first cl 24 K N E) {a b : Int} (ha : 1 ≤ a ∧ a ≤ 9) (hb : 0 ≤ b ∧ b ≤ 9) {ks : List Int} (hks : ks.length ≤ 1000) (hki : ∀ x ∈ ks, ∃ m ∈ N, m.ID = x ∧ m.Parent = b) {kn : Bool} (hkn : kn = true → b = 0 ∨ hasN N b) :
    cU 24 K A.Cells A.Free A.Used ns first cl a b (N.length : Int) ks kn = some true:=by
  have hln : N.length ≤ 24:=h.fv.ln
  unfold cU
  rw [uX h,bnoS,aAS h,bnoS]
  have hwas : (if hasN N a then fP N N.length a else []).length < 24:=by
    by_cases hx : hasN N a
    · rw [if_pos hx]
      obtain ⟨rk,htr⟩ : ∃ rk,Tr N rk:=h.fv.tr
      obtain ⟨p1,p2⟩:=kP htr.so htr.rk htr.pa N.length a hx
      have p3:=kV p1 p2
      rw [List.length_cons,List.length_map] at p3
      omega
    · rw [if_neg hx]; decide
  generalize hwe : (if hasN N a then fP N N.length a else []) = was at hwas ⊢
  obtain ⟨g,hg⟩:=xW (v332:=24) (v333:=K) (v334:=A.Cells) (v335:=A.Free) (v336:=A.Used) (v337:=ns) (v338:=first) (v339:=cl) (a:=a) (b:=b) (n:=(N.length : Int)) (ks:=ks) (was:=was) (N:=N) (by omega) N [] fuel kn false rfl (gV (by omega))
  refine Eq.trans hg ?_
  rw [zG,zG,Bool.false_or,cT,bndD,decide_eq_false (by omega),bU,bndD,bndD,bndD,bndD,bndD]
  by_cases hstop : (decide (a = b) || !(kn || decide (hasN N b)) || (!(decide (hasN N a)) && decide ((N.length : Int) = 24))) = true
  · rw [hstop,cI,sW]; rfl
  · have hstop := Bool.not_eq_true _ |>.mp hstop
    rw [hstop,bU]
    rw [Bool.or_eq_false_iff,Bool.or_eq_false_iff] at hstop
    obtain ⟨⟨s1,s2⟩,s3⟩:=hstop
    have hab : a ≠ b:=of_decide_eq_false s1
    have hknow : b = 0 ∨ hasN N b:=by
      rw [Bool.not_eq_false',Bool.or_eq_true,decide_eq_true_iff] at s2
      rcases s2 with e | e
      · exact hkn e
      · exact .inr e
    have hroom : hasN N a ∨ N.length < 24:=by
      by_cases hx : hasN N a
      · exact .inl hx
      · rw [decide_eq_false hx, Bool.not_false, Bool.true_and] at s3
        have:=of_decide_eq_false s3
        right; omega
    obtain ⟨A',ns',first',cl',G,E',m1,m2,ho,hl⟩:=xU h ha hb hab hknow hroom
    have hGl : G.length ≤ 24:=m2.fv.ln
    obtain ⟨nb,b1,b2,b3,b4,b5⟩:=uY m2 b 24 K
    obtain ⟨na,a1,a2,a3,a4,a5⟩:=uY m2 a 24 K
    obtain ⟨z,hz,hza⟩:=ho.it
    have hnb : nb = [a]:=by
      refine zZ b2 ?_ fun i hi=>?_
      · have := (b5 (ho.bb.symm) z hz).2 ((ho.one z hz).2 hza)
        rw [hza] at this; exact this
      · obtain ⟨m, hm, e⟩ := b3 i hi
        rw [← e] at hi ⊢
        exact (ho.one m hm).1 ((b5 (ho.bb.symm) m hm).1 hi)
    have hnal : na.length ≤ 24:=by
      have:=kV (a2.imp fun h e=>by omega) (m:=G.map (·.ID)) fun i hi=>by
        obtain ⟨m,hm,e⟩:=a3 i hi
        exact List.mem_map.2 ⟨m,hm,e⟩
      rw [List.length_map] at this
      omega
    rw [m1,bnoS,decide_eq_true rfl,Bool.not_true,bndD,bU,b1,bnoS,a1,bnoS,hnb]
    obtain ⟨g2,hg2⟩:=xV (a:=a) (b:=b) (n:=(N.length : Int)) (ks:=ks) (was:=was) (there:=decide (hasN N a)) (X:=(0,24,K,A'.Cells,A'.Free,A'.Used,ns',first',cl')) (nb:=[a]) (na:=na) hks (by omega) (fun x hx=>by
      obtain ⟨m,hm,e1,e2⟩:=hki x hx
      by_cases e : x = a
      · exact .inl e
      · right
        obtain ⟨y,hy,y1,y2⟩:=ho.all m hm (by rw [e1]; exact e) e2
        have:=(a5 (.inl ho.it) y hy).2 y2
        rw [y1,e1] at this; exact this) ks [] fuel rfl (gV (by omega))
    refine Eq.trans hg2 (uM m2 hb.1 ho ⟨by omega,by omega⟩ hwas ?_ 0 g2)
    by_cases hx : hasN N a
    · rw [if_pos hx] at hl
      rw [if_pos (decide_eq_true hx),hl]
    · rw [if_neg hx] at hl
      rw [if_neg (fun hh=>hx (of_decide_eq_true hh)),hl]; omega
theorem xX {l : List cE} (hg : GoodD l) (hl : l.length ≤ 60) {i d : Int} (hi : 0 ≤ i) (hd : 0 ≤ d) {K : Int} : ∀ (r q : List cE) (f : Nat) {A : AS} {ns : List Nk} {first : Int} {cl : List Int} {N : List Nd} {E : List Int}, TS A ns first cl 24 K N E → l = q ++ r → r.length < f →
    dF l i d f (q.length : Int) 24 K A.Cells A.Free A.Used ns first cl = some true
  | _,_,0,_,_,_,_,_,_,_,_,hf=>absurd hf (by omega)
  | [], q, f + 1, A, ns, first, cl, N, E, h, hN, hf => by
    rw [List.append_nil] at hN
    have hln : N.length ≤ 24:=h.fv.ln
    have h9 : remI i 9 = some (i % 9):=xI hi (by decide)
    have h10 : remI d 10 = some (d % 10):=xI hd (by decide)
    have e1 : IntKind.wrap .i64 (i % 9) = i % 9:=w64 (by omega) (by omega)
    have e2 : IntKind.wrap .i64 (1 + i % 9) = 1 + i % 9:=w64 (by omega) (by omega)
    have e3 : IntKind.wrap .i64 (d % 10) = d % 10:=w64 (by omega) (by omega)
    obtain ⟨ks,k1,k2,k3,k4,k5⟩:=uY h (d % 10) 24 K
    have hksl : ks.length ≤ 24:=by
      have:=kV (k2.imp fun h e=>by omega) (m:=N.map (·.ID)) fun i hi=>by
        obtain ⟨m,hm,e⟩:=k3 i hi
        exact List.mem_map.2 ⟨m,hm,e⟩
      rw [List.length_map] at this
      omega
    have hki : ∀ x ∈ ks,∃ m ∈ N,m.ID = x ∧ m.Parent = d % 10:=fun x hx=>by
      obtain ⟨m,hm,e⟩:=k3 x hx
      have hh : hasN N (d % 10) ∨ d % 10 = 0:=Classical.byContradiction fun hh=>by rw [k4 hh] at hx; cases hx
      rw [← e] at hx
      exact ⟨m,hm,e,(k5 hh m hm).1 hx⟩
    have hJ : ∀ kn : Bool,(kn = true → d % 10 = 0 ∨ hasN N (d % 10)) → cU 24 K A.Cells A.Free A.Used ns first cl (1 + i % 9) (d % 10) (N.length : Int) ks kn = some true:=fun kn hk=>only_J6 h (by omega) (by omega) (by omega) hki hk
    rw [dF,bndD,hN,decide_eq_false (by omega),bU,h9,bnoS,e1,bndD,e2,bndD,h10,bnoS,e3,bndD,aAb h,bnoS,k1,bnoS,bndD]
    by_cases h0 : d % 10 = 0
    · rw [decide_eq_true h0, show (true == false) = false from rfl, bU, gdff, bnoS, bndD, Bool.true_or, show (true == false) = false from rfl, bU, bndD, bndD, Bool.true_or]
      exact hJ true fun _=>.inl h0
    · rw [decide_eq_false h0, beq_self_eq_true, cI, uX h, bnoS, gdtt]
      have hpl : (if hasN N (d % 10) then fP N N.length (d % 10) else []).length ≤ 24:=by
        split
        · have:=vG N N.length (d % 10); omega
        · exact Nat.zero_le _
      rw [in19 (by omega),bnoS,bndD,Bool.false_or]
      cases hm : decide (1 + i % 9 ∈ if hasN N (d % 10) then fP N N.length (d % 10) else []) with
      | true =>
        rw [show (true == false) = false from rfl,bU,bndD,bndD,Bool.true_or]
        refine hJ true fun _=>.inr ?_
        have:=of_decide_eq_true hm
        split at this
        · assumption
        · cases this
      | false =>
        rw [beq_self_eq_true,cI,bnoS,bndD,bndD,Bool.false_or]
        refine hJ _ fun hh=>?_
        have hh:=of_decide_eq_true hh
        refine Classical.byContradiction fun hn=>?_
        rw [k4 (fun e=>hn e.symm)] at hh
        exact absurd hh (by decide)
  | a :: r, q, f + 1, A, ns, first, cl, N, E, h, hN, hf => by
    have ha : a ∈ l:=by rw [hN]; simp
    obtain ⟨c,A',ns',first',cl',N',E',g1,g2⟩:=Do_ts h (hg a ha).1 (hg a ha).2
    have hrec:=xX hg hl hi hd r (q ++ [a]) f g2 (by rw [hN]; simp) (by simpa using hf)
    rw [dF,bndD,pH hN,cI,mO hN,bnoS,g1,bnoS,w_at hN (by omega),bndD]
    exact hrec
theorem xP {l : List cE} {i d : Int} (hg : GoodD l) (hi : 0 ≤ i) (hd : 0 ≤ d) : gI l i d = some true:=by
  unfold gI
  rw [bndD]
  by_cases h : 40 < l.length
  · rw [decide_eq_true (by omega),cI,sW]; rfl
  · have hL := xX hg (by omega) hi hd l [] fuel (new_ts (R := 24) (K := 0) (by decide) (by decide)) rfl (gV (by omega))
    rw [decide_eq_false (by omega),bU,yP,yP,bnoS,decide_eq_true (by decide),show ((!true) == false) = true from rfl,gdtt,bnoS,decide_eq_true (by decide),bndD,show ((!true) || !true) = false from rfl,bU]
    exact hL
end Go.Fn
open Go.RowKit Go.WideShapes Go.ChangeShapes
namespace Go.IL

def pX (v : Value) : Prop:=∀ a n c,v = .slice (some a) n c → a.spot = none
theorem tD {P : Program} {w : World} {r : Reach} {b : Nat} {t : TypeId} {v : Value} (h : Cell.okWide P w r b t v) : pX v:=by
  intro a n c e
  subst e
  have h2 : Cell.ok P w r b t (.slice (some a) n c):=by
    unfold Cell.okWide at h
    split at h <;> first | exact h | (rename_i h3 _; cases h3) | (rename_i h3; cases h3) | skip
    all_goals first | exact h | simp_all
  unfold Cell.ok at h2
  split at h2 <;> simp_all [World.has]
theorem zN {P : Program} {w : World} {r : Reach} {b : Nat} {t : TypeId} {v : Value} (h : Value.okWide P w r b t v) : ∀ u ∈ v.cells.toList,pX u:=by
  have agg : ∀ cs : Array Value,Row.okWide P w r b t cs → ∀ u ∈ cs.toList,pX u:=by
    intro cs ⟨ts,_,_,h3⟩ u hu
    obtain ⟨i,hi⟩:=List.getElem?_of_mem hu
    obtain ⟨q,_,hq⟩:=h3 i u (by simpa using hi)
    exact tD hq
  unfold Value.okWide at h
  split at h
  · obtain ⟨cs,rfl,_,h⟩:=h; simpa [Value.cells] using agg cs h
  · obtain ⟨cs,rfl,_,h⟩:=h; simpa [Value.cells] using agg cs h
  · have h2 := tD h
    intro u hu
    cases v with
    | agg cs =>
      exfalso
      unfold Cell.okWide at h
      split at h <;> simp_all [Cell.ok]
    | _=>simp [Value.cells] at hu; subst hu; exact h2

def Env.none (w : World) : Env:=⟨w,fun _ _=>False⟩
def OpD (P : Program) (sp : Bool) (t : TypeId) (Q : List D → Prop) : Prop :=
  ∀ {H : Type} {enc : TypeId × Value → H} {w : World} {base : Nat} {spare : Nat → Bool} {held : Bool} {fuel : Nat} {cs : List Value} {x : DataW H × List MemPlace},
    DataW.trod enc P w base spare held fuel t cs = some x → (sp = true → ∀ v ∈ cs,pX v) → ∃ ds,RdL (Env.none w) β0 cs ds ∧ Q ds
def qInt (k : IntKind) (ds : List D) : Prop:=∃ n : Int,ds = [.int k n] ∧ (k.min ≤ n ∧ n ≤ k.max)
def qBool (ds : List D) : Prop:=∃ b : Bool,ds = [.bool b]
def qSlice {α : Type} (f : Enc α) (wf : α → Prop) (ds : List D) : Prop:=∃ l : List α,ds = [.slice false (l.map f.d)] ∧ l.length ≤ 9223372036854775807 ∧ ∀ x ∈ l,wf x
def qList : List (List D → Prop) → List D → Prop
  | [],ds=>ds = []
  | Q :: Qs,ds=>∃ a b,ds = a ++ b ∧ Q a ∧ qList Qs b

section
variable {P : Program} {sp : Bool} {t : TypeId}
theorem oI {k : IntKind} (hu : P.underlying t = some (.int k)) : OpD P sp t (qInt k):=by
  intro H enc w base spare held fuel cs x h _
  obtain ⟨n,rfl,rfl,hw⟩:=DataW.trod_int hu h
  exact ⟨[.int k n],.cons (.int _ _ _) (.nil _),n,rfl,by simpa [Lit.wf] using hw⟩
theorem zY (hu : P.underlying t = some .bool) : OpD P sp t qBool:=by
  intro H enc w base spare held fuel cs x h _
  obtain ⟨b,rfl,rfl⟩:=DataW.trod_bool hu h
  exact ⟨[.bool b],.cons (.bool _ _) (.nil _),b,rfl⟩
theorem xT {α : Type} {f : Enc α} {e : TypeId} {wf : α → Prop} (hu : P.underlying t = some (.slice e)) (hc : P.cellsOf e = f.sz) (he : OpD P false e (fun ds => ∃ a, ds = (f.d a).cells ∧ wf a)) : OpD P sp t (qSlice f wf) := by
  intro H enc w base spare held fuel cs x h hs
  rcases DataW.trod_slice hu h with ⟨rfl,_⟩ | ⟨a,len,cap,elems,rest,n,_,rfl,rfl,hb,hl,hm,hlen,hel,_,_⟩
  · exact ⟨[.slice false []],.cons (.nslice _ _) (.nil _),[],rfl,by simp,by simp⟩
  · by_cases hl0 : len = 0
    · subst hl0; exact ⟨[.slice false []],.cons (.eslice _ a cap false (fun h=>by cases h)) (.nil _),[],rfl,by simp,by simp⟩
    have hsp0 : a.spot = none:=by
      have h1:=hel 0 (by omega)
      have h2 : elems[0]? = some (elems[0]'(by omega)):=List.getElem?_eq_getElem _
      rw [h2,Option.bind_eq_some_iff] at h1
      obtain ⟨vs,h3,_⟩:=h1
      have h7:=World.cells?_some h3
      have hp:=f.pos
      have h8:=h7.2.2 0 (by rw [hc]; exact hp)
      rw [Nat.zero_mul] at h8
      have e0 : ((a.add 0).add 0) = a:=rfl
      rw [e0] at h8
      cases hsp : a.spot with
      | none=>rfl
      | some q =>
        exfalso
        unfold World.cell? at h8
        rw [hsp] at h8
        split at h8
        · simp at h8; have:=h7.1; simp_all
        · have:=h7.1; simp_all
    have ha : a = ⟨a.block,a.off,none⟩:=by cases a; simp_all
    have each : ∀ i,i < len → ∃ (vs : List Value) (y : α),(∀ k v,vs[k]? = some v → w.cell? ⟨a.block,a.off + (i * f.sz + k),none⟩ = some v) ∧ RdL (Env.none w) β0 vs (f.d y).cells ∧ wf y:=by
      intro i hi
      have h1:=hel i hi
      have h2 : elems[i]? = some (elems[i]'(by omega)):=List.getElem?_eq_getElem _
      rw [h2,Option.bind_eq_some_iff] at h1
      obtain ⟨vs,h3,h4⟩:=h1
      obtain ⟨ds,h5,y,rfl,h6⟩:=he h4 (by simp)
      refine ⟨vs,y,fun k v hk=>?_,h5,h6⟩
      have h7:=World.cells?_some h3
      have hk':=(List.getElem?_eq_some_iff.1 hk).1
      have h8:=h7.2.2 k (by omega)
      rw [hk,ha,hc] at h8
      rw [← h8]
      congr 1
      by_cases h9 : i * f.sz = 0
      · by_cases h10 : k = 0
        · simp [Addr.add,h9,h10]
        · simp [Addr.add,h9,h10]
      · by_cases h10 : k = 0
        · simp [Addr.add,h9,h10]
        · simp [Addr.add,h9,h10,Nat.add_assoc]
    have all : ∀ m,m ≤ len → ∃ (vs : List Value) (l : List α),l.length = m ∧ (∀ k v,vs[k]? = some v → w.cell? ⟨a.block,a.off + k,none⟩ = some v) ∧ RdL (Env.none w) β0 vs (D.flat (l.map f.d)) ∧ ∀ y ∈ l,wf y:=by
      intro m
      induction m with
      | zero=>intro _; exact ⟨[],[],rfl,by simp,.nil _,by simp⟩
      | succ m ih =>
        intro hm'
        obtain ⟨vs,l,h1,h2,h3,h4⟩:=ih (by omega)
        obtain ⟨us,y,h5,h6,h7⟩:=each m (by omega)
        have hvl : vs.length = m * f.sz:=by rw [h3.length,f.flat_len,h1]
        refine ⟨vs ++ us,l ++ [y],by simp [h1],fun k v hk=>?_,?_,?_⟩
        · by_cases hk' : k < vs.length
          · exact h2 k v (by rwa [List.getElem?_append_left hk'] at hk)
          · rw [List.getElem?_append_right (by omega)] at hk
            have:=h5 _ _ hk
            rwa [hvl,show m * f.sz + (k - m * f.sz) = k by omega] at this
        · rw [List.map_append]
          have e2 : D.flat (l.map f.d ++ [y].map f.d) = D.flat (l.map f.d) ++ (f.d y).cells:=by simp [D.flat]
          rw [e2]; exact h3.append h6
        · intro z hz
          rcases List.mem_append.1 hz with h | h
          · exact h4 z h
          · simp at h; subst h; exact h7
    obtain ⟨vs,l,h1,h2,h3,h4⟩:=all len (Nat.le_refl _)
    refine ⟨[.slice false (l.map f.d)],.cons ?_ (.nil _),l,rfl,by unfold maxLen at hm; omega,h4⟩
    rw [ha]
    exact .slice _ _ _ len cap f.sz false vs _ (by rw [List.length_map,h1]) hl (by simp) (f.len l) f.pos (fun k v hk=>⟨h2 k v hk,fun h=>h⟩) h3

def pU (P : Program) : Nat → List Field → Bool
  | _,[]=>true
  | k,f :: fs=>f.offset == k && pU P (k + P.cellsOf f.type) fs
inductive OpFs (P : Program) (sp : Bool) : List Field → List (List D → Prop) → Prop
  | nil : OpFs P sp [] []
  | cons {f fs Q Qs} (h : OpD P sp f.type Q) (t : OpFs P sp fs Qs) : OpFs P sp (f :: fs) (Q :: Qs)
theorem wC {fs : Array Field} {Qs : List (List D → Prop)} (hu : P.underlying t = some (.struct fs)) (hf : pU P 0 fs.toList = true) (hn : P.cellsOf t = (fs.toList.map fun f=>P.cellsOf f.type).sum) (h : OpFs P sp fs.toList Qs) : OpD P sp t (qList Qs):=by
  intro H enc w base spare held fuel cs x hx hs
  obtain ⟨xs,n,_,_,hlen,hxl,hfld⟩:=DataW.trod_struct hu hx
  have key : ∀ (l : List Field) (Qs : List (List D → Prop)) (k : Nat),OpFs P sp l Qs → pU P k l = true → k + (l.map fun f=>P.cellsOf f.type).sum = cs.length →
      (∀ f ∈ l,∃ y,DataW.trod enc P w base spare held n f.type ((cs.drop f.offset).take (P.cellsOf f.type)) = some y) → ∃ ds,RdL (Env.none w) β0 (cs.drop k) ds ∧ qList Qs ds:=by
    intro l Qs k ho
    induction ho generalizing k with
    | nil =>
      intro _ h1 _
      refine ⟨[],?_,rfl⟩
      rw [List.drop_of_length_le (by simp at h1; omega)]; exact .nil _
    | @cons f fs Q Qs h t ih =>
      intro h1 h2 h3
      simp only [pU,Bool.and_eq_true,beq_iff_eq] at h1
      simp only [List.map_cons,List.sum_cons] at h2
      obtain ⟨y,hy⟩:=h3 f (by simp)
      rw [h1.1] at hy
      obtain ⟨ds,h4,h5⟩:=h hy (fun hsp v hv=>hs hsp v (List.mem_of_mem_drop (List.mem_of_mem_take hv)))
      obtain ⟨es,h6,h7⟩:=ih (k + P.cellsOf f.type) h1.2 (by omega) (fun g hg=>h3 g (by simp [hg]))
      refine ⟨ds ++ es,?_,ds,es,rfl,h5,h7⟩
      have:=h4.append h6
      rwa [← List.drop_drop,List.take_append_drop] at this
  have:=key fs.toList Qs 0 h hf (by rw [Nat.zero_add,← hn,hlen]) (fun f hf=>by
    obtain ⟨i,hi⟩:=List.getElem?_of_mem hf
    have h1:=hfld i f (by simpa using hi)
    have h2 : i < xs.length:=by rw [hxl]; have:=(List.getElem?_eq_some_iff.1 hi).1; simpa using this
    exact ⟨xs[i],by rw [h1,List.getElem?_eq_getElem h2]⟩)
  rwa [List.drop_zero] at this
theorem OpD.to {Q R : List D → Prop} (h : OpD P sp t Q) (k : ∀ ds,Q ds → R ds) : OpD P sp t R:=by
  intro H enc w base spare held fuel cs x hx hs
  obtain ⟨ds,h1,h2⟩:=h hx hs
  exact ⟨ds,h1,k ds h2⟩
theorem uL {Q : List D → Prop} (h : OpD P true t Q) {H : Type} {enc : TypeId × Value → H} {w : World} {base b0 : Nat} {spare : Nat → Bool} {held : Bool} {v : Value} {d : DataW H} {ps : List MemPlace} {r : Reach}
    (hv : Value.okWide P w r b0 t v) (hd : DataW.Trod enc P w base spare held t v d ps) : ∃ ds,RdL (Env.none w) β0 v.cells.toList ds ∧ Q ds:=by
  obtain ⟨fuel,hf⟩:=hd
  exact h hf (fun _=>zN hv)
theorem xJ {E : Env} {v : Value} {d : D} (h : RdL E β0 v.cells.toList [d]) (hn : ∀ cs,v ≠ .agg cs) : Rd E β0 v d:=by
  cases v with
  | agg cs=>exact absurd rfl (hn cs)
  | _=>simp [Value.cells] at h; cases h with | cons h _=>exact h
section
variable {H : Type} {enc : TypeId × Value → H}
theorem nR (hl : laidOutB P = true) {W W' : World} (hb : Below W.heap.size W W') {sp : Nat → Bool} : ∀ {ts : List TypeId} {vs : List Value} {ds : List (DataW H)} {ps : List MemPlace},
    (∀ t ∈ ts,P.readableRec t = true ∧ t < P.types.size) → DataW.TrodAll enc P W 0 (fun _=>true) true ts vs ds ps → (∀ x ∈ ps,x.block < W.heap.size) → (∀ x ∈ ps,sp x.block = true) →
    DataW.TrodAll enc P W' 0 sp true ts vs ds ps
  | [], vs, ds, ps, _, h, _, _ => by
    obtain ⟨rfl,rfl,rfl⟩:=trodAll_nil h; exact rfl
  | t :: ts, vs, ds, ps, hr, h, hlt, hsp => by
    obtain ⟨v,vs',d,ds',p,q,rfl,rfl,rfl,h1,h2⟩:=trodAll_cons h
    refine ⟨p,q,?_,nR hl hb (fun t ht=>hr t (by simp [ht])) h2 (fun x hx=>hlt x (by simp [hx])) (fun x hx=>hsp x (by simp [hx])),rfl⟩
    have hx : ∀ x ∈ p,x ∈ p ++ q:=fun x hx=>by simp [hx]
    exact WideElems.Trod_stays hl (hr t (by simp)).1 (hr t (by simp)).2 h1 (fun x hxp=>hb.same (hlt x (hx x hxp))) (fun x hxp=>hsp x (hx x hxp))
theorem sF {f : Func} {s : ChangeSpec} {apart fresh handsOn again : Bool} {W W' : World} {args : Array Value} {v : Value} {ds gs : List (DataW H)} {before pa pv : List MemPlace}
    (hW : DataW.Whole enc P f.params.toList s.vars apart W args.toList ds gs before)
    (hres : ∀ (b : Nat) (sp : Nat → Bool) (hd : Bool),DataW.TrodAll enc P W' b sp hd f.resultTypes.toList (v.resultList f.resultTypes.size) (s.fn H (ds ++ gs)).results [])
    (hargs : ∀ sp : Nat → Bool,(∀ p ∈ before,sp p.block = true) → DataW.TrodAll enc P W' 0 sp true f.params.toList args.toList (s.fn H (ds ++ gs)).args pa)
    (hvars : ∀ sp : Nat → Bool,(∀ p ∈ before,sp p.block = true) → DataW.TrodVars enc P W' sp s.vars (s.fn H (ds ++ gs)).vars pv)
    (hps : before = pa ++ pv) (hb : Below W.heap.size W W')
    (hok : ∀ (j : Nat) (t : TypeId) (r : Value),f.resultTypes[j]? = some t → (v.resultList f.resultTypes.size)[j]? = some r → Value.okWide P W' .any 0 t r) :
    s.post enc P f apart fresh handsOn again W args v W':=by
  have hlt : ∀ p ∈ before,p.block < W.heap.size:=fun p hp=>hW.lt p hp
  have hold : ∀ p ∈ before,(fun b=>decide (b < W.heap.size)) p.block = true:=fun p hp=>by simpa using hlt p hp
  refine ⟨ds,gs,before,[],pa,pv,hW,hres _ _ _,hargs _ hold,hvars _ hold,World.keptBut_mono (fun p hp=>⟨hp,?_⟩) (hb.frame (· ∈ before)),fun _=>?_⟩
  · rw [hps, List.mem_append] at hp
    exact Or.inr hp
  · obtain ⟨_, _, _, _, _, hz, hn⟩ := hW
    refine ⟨hok,_,_,([] ++ pa) ++ pv,⟨[] ++ pa,pv,trodAll_append (hargs _ (fun _ _=>rfl)) (hres _ _ _),hvars _ (fun _ _=>rfl),rfl,?_,?_⟩,?_⟩
    · intro b off hp
      have hin : MemPlace.cell b off ∈ before:=by rw [hps]; simpa using hp
      rw [hb.frozen (hlt _ hin)]
      exact hz b off hin
    · intro ha
      have:=hn ha
      rw [hps] at this
      simpa using this
    · intro p hp _
      rw [hps]
      simpa using hp
theorem aAD {f : Func} {s : ChangeSpec} {apart fresh handsOn again : Bool} {W W' : World} {args : Array Value} {ds gs : List (DataW H)} {before : List MemPlace} {tb : TypeId}
    (hl : laidOutB P = true) (hr : ∀ t ∈ f.params.toList,P.readableRec t = true ∧ t < P.types.size) (hv : s.vars = []) (hres : f.resultTypes = #[tb]) (hbool : P.underlying tb = some .bool)
    (hfn : s.fn H (ds ++ gs) = { results:=[.lit (.bool true)],args:=ds })
    (hW : DataW.Whole enc P f.params.toList s.vars apart W args.toList ds gs before) (hb : Below W.heap.size W W') : s.post enc P f apart fresh handsOn again W args (.bool true) W':=by
  have hW':=hW
  obtain ⟨p,q,hA,hV,hbef,hfz,hnd⟩:=hW
  rw [hv] at hV
  obtain ⟨rfl,rfl⟩:=trodVars_none hV
  have hlt : ∀ x ∈ before,x.block < W.heap.size:=fun x hx=>hW'.lt x hx
  have hsub : ∀ x ∈ p,x ∈ before:=fun x hx=>by rw [hbef]; simp [hx]
  refine sF (pa:=p) (pv:=[]) hW' ?_ ?_ ?_ ?_ hb ?_
  · intro b sp hd
    rw [hfn,hres]
    exact trodAll_mk1 (shut_bool hbool true)
  · intro sp hsp
    rw [hfn]
    exact nR hl hb hr hA (fun x hx=>hlt x (hsub x hx)) (fun x hx=>hsp x (hsub x hx))
  · intro sp hsp
    rw [hfn,hv]; exact rfl
  · exact hbef
  · exact ok_one hres rfl (okWide_bool_mk hbool true)
end
end
end Go.IL
namespace Go.IL
theorem oH {P : Program} {w W : World} {r : Reach} {b : Nat} {t : TypeId} {v : Value} {d : D} (hv : Value.okWide P W r b t v) (hg : iM P t = false) (h : RdL (Env.none w) β0 v.cells.toList [d]) : Rd (Env.none w) β0 v d:=by
  refine xJ h fun cs e=>?_
  subst e
  unfold iM at hg
  unfold Value.okWide at hv
  split at hv
  · rename_i h1; rw [h1] at hg; cases hg
  · rename_i h1; rw [h1] at hg; cases hg
  · unfold Cell.okWide at hv
    split at hv <;> simp_all [Cell.ok]
end Go.IL
open Go.RowKit Go.WideShapes Go.ChangeShapes
namespace Go.IL
end Go.IL
