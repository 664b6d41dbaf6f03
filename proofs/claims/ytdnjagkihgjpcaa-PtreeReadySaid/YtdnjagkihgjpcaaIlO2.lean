/-
  A part of the proof: rules and plain facts. No condition.
-/
import Derived.Test.YtdnjagkihgjpcaaIlP139
import Derived.Test.YtdnjagkihgjpcaaIlA19D
import Derived.Test.YtdnjagkihgjpcaaIlBd
import Derived.ProofKit
import Derived.OpenShut
set_option linter.all false
open Go Go.IL
namespace Go.Fn
theorem nH {α : Type} {k : α → Int} : ∀ {w : List α},w.Pairwise (fun a b=>k a ≤ k b) → (w.map k).Nodup → w.Pairwise (fun a b=>k a < k b)
  | [],_,_=>.nil
  | x :: w, h, hn => by
    obtain ⟨h1,h2⟩:=List.pairwise_cons.1 h
    obtain ⟨n1,n2⟩:=List.nodup_cons.1 hn
    refine List.pairwise_cons.2 ⟨fun y hy=>?_,nH h2 n2⟩
    have:=h1 y hy
    have : k x ≠ k y:=fun e=>n1 (List.mem_map.2 ⟨y,hy,e.symm⟩)
    omega
theorem vsort_t {l : List Int} (hl : l.length ≤ 24) (hn : l.Nodup) : ∃ w,uB l = some w ∧ w.Perm l ∧ w.Pairwise (· < ·):=by
  have hp:=kF id l
  refine ⟨_,sortI_t (by omega),hp,?_⟩
  refine nH (k:=id) (kZ id l) ?_
  rw [List.map_id]
  exact (hp.nodup_iff).2 hn
theorem ksort_t {l : List Nd} (hl : l.length ≤ 24) (hn : (l.map (·.ID)).Nodup) (hg : ∀ m ∈ l,0 ≤ m.ID ∧ m.ID ≤ 1048576) : ∃ w,cK l = some w ∧ w.Perm l ∧ w.Pairwise (fun a b=>a.ID < b.ID):=by
  have hp:=kF (fun m : Nd=>m.ID) l
  refine ⟨_,sortK_t (by omega) (fun m hm=>?_) hn,hp,nH (kZ _ l) (((hp.map _).nodup_iff).2 hn)⟩
  have:=hg m hm
  rw [Bool.and_eq_true,decide_eq_true_iff,decide_eq_true_iff]
  exact this
end Go.Fn
open Go Go.IL
namespace Go.Fn
end Go.Fn
open Go Go.IL
namespace Go.Fn
theorem vE : ∀ {l m : List Nd}, l.Pairwise (fun a b => a.ID < b.ID) → m.Pairwise (fun a b => a.ID < b.ID) → (∀ x, x ∈ l ↔ x ∈ m) → l = m
  | [],[],_,_,_=>rfl
  | [],y :: m,_,_,h=>by have:=(h y).2 (by simp); cases this
  | x :: l,[],_,_,h=>by have:=(h x).1 (by simp); cases this
  | x :: l, y :: m, h1, h2, h => by
    obtain ⟨a1,a2⟩:=List.pairwise_cons.1 h1
    obtain ⟨b1,b2⟩:=List.pairwise_cons.1 h2
    have e : x = y:=by
      rcases List.mem_cons.1 ((h x).1 (by simp)) with e | hx
      · exact e
      · rcases List.mem_cons.1 ((h y).2 (by simp)) with e | hy
        · exact e.symm
        · have := a1 y hy
          have:=b1 x hx
          omega
    subst e
    rw [vE a2 b2 fun z=>?_]
    constructor
    · intro hz
      rcases List.mem_cons.1 ((h z).1 (List.mem_cons_of_mem _ hz)) with e | hz2
      · have := a1 z hz
        rw [e] at this; omega
      · exact hz2
    · intro hz
      rcases List.mem_cons.1 ((h z).2 (List.mem_cons_of_mem _ hz)) with e | hz2
      · have := b1 z hz
        rw [e] at this; omega
      · exact hz2
theorem aAL {A : AS} {ns : List Nk} {first : Int} {cl : List Int} {R K : Int} {N : List Nd} {E : List Int} (h : TS A ns first cl R K N E) (room keep : Int) : fX room keep A.Cells A.Free A.Used ns first cl = some N:=by
  obtain ⟨sp,kids,hR,h0⟩:=h.rl
  have hN : N.length ≤ 24:=h.fv.ln
  have hlen : (jK A.Cells 0).length = N.length:=by
    have h1:=rN hR
    rw [hR.ga.used,← nV A.Cells 0] at h1
    omega
  have hc : ∀ p ∈ jK A.Cells 0,dZ A p:=fun p hp=>kB.2 hp
  unfold fX
  rw [yB hR.ga,bnoS]
  have:=nodes_L hR (lv:=jK A.Cells 0) (by omega) hc room keep A.Cells A.Free A.Used cl (jK A.Cells 0) [] fuel rfl (fU (by omega))
  rw [show ((0 : Int)) = (([] : List Nat).length : Int) from rfl]
  refine Eq.trans this ?_
  have hids : ((jK A.Cells 0).map (qN ns)).map (·.ID) = (jK A.Cells 0).map (idP ns):=by
    rw [List.map_map]
    exact List.map_congr_left fun p hp=>(pO hR (hc p hp)).2.1
  obtain ⟨w,e,hp,hs⟩:=ksort_t (l:=(jK A.Cells 0).map (qN ns)) (by rw [List.length_map]; omega) (by
    rw [hids]
    exact List.pairwise_map.2 ((nI A.Cells 0).imp_of_mem fun {p q} hp hq hne e=>hne (hR.inj p q (hc p hp) (hc q hq) e))) (fun m hm=>by
    obtain ⟨p,hp,rfl⟩:=List.mem_map.1 hm
    have:=(h.fv.ra _ (pO hR (hc p hp)).1).1
    omega)
  rw [e,bnoS,chk,if_pos hp.length_eq]
  congr 1
  refine vE hs hR.so fun x=>?_
  rw [hp.mem_iff]
  constructor
  · intro hx
    obtain ⟨p,hp,rfl⟩:=List.mem_map.1 hx
    exact (pO hR (hc p hp)).1
  · intro hx
    obtain ⟨p,n,u,k1,k2,k3,k4,rfl⟩:=hR.bw x hx
    obtain ⟨g1,g2,_⟩:=pO hR k1
    refine List.mem_map.2 ⟨p,kB.1 k1,mA hR.so g1 hx ?_⟩
    rw [g2,bX k3]; rfl
theorem Do_ts {A : AS} {ns : List Nk} {first : Int} {cl : List Int} {R K : Int} {N : List Nd} {E : List Int} (h : TS A ns first cl R K N E) {a : cB} (h0 : 0 ≤ a.Kind) (h1 : a.Kind ≤ 255) :
    ∃ c A' ns' first' cl' N' E',iM a R K A.Cells A.Free A.Used ns first cl = some (c,R,K,A'.Cells,A'.Free,A'.Used,ns',first',cl') ∧ TS A' ns' first' cl' R K N' E':=by
  obtain ⟨r,hr⟩:=zK h0 h1
  obtain ⟨A1,ns1,f1,cl1,i1,i2⟩:=zA h a.ID a.Dep a.Weight a.Only
  obtain ⟨A2,ns2,f2,cl2,m1,m2⟩:=Move_ts h a.ID a.Dep a.Weight a.Only
  obtain ⟨A3,ns3,f3,cl3,c1,c2⟩:=aAN h a.ID
  obtain ⟨A4,ns4,f4,cl4,r1,r2⟩:=yY h a.ID
  unfold iM
  rw [hr,bnoS,bndD]
  unfold gL gK
  by_cases e : r = 0
  · rw [decide_eq_true e, cH, cH, i1, bnoS]
    exact ⟨_,_,_,_,_,_,_,rfl,i2⟩
  · rw [decide_eq_false e, bU, bndD]
    by_cases e : r = 1
    · rw [decide_eq_true e, cH, i1, bnoS]
      exact ⟨_,_,_,_,_,_,_,rfl,i2⟩
    · rw [decide_eq_false e, bU, bndD]
      by_cases e : r = 2
      · rw [decide_eq_true e, cH, cH, m1, bnoS]
        exact ⟨_,_,_,_,_,_,_,rfl,m2⟩
      · rw [decide_eq_false e, bU, bndD]
        by_cases e : r = 3
        · rw [decide_eq_true e, cH, m1, bnoS]
          exact ⟨_,_,_,_,_,_,_,rfl,m2⟩
        · rw [decide_eq_false e, bU, bndD]
          by_cases e : r = 4
          · rw [decide_eq_true e, cH, c1, bnoS]
            exact ⟨_,_,_,_,_,_,_,rfl,c2⟩
          · rw [decide_eq_false e, bU, r1, bnoS]
            exact ⟨_,_,_,_,_,_,_,rfl,r2⟩
end Go.Fn
open Go Go.IL
namespace Go.Fn
end Go.Fn
open Go Go.IL
namespace Go.Fn
end Go.Fn
open Go Go.IL
namespace Go.Fn
end Go.Fn
open Go Go.IL
namespace Go.Fn
inductive Dsc (N : List Nd) (d : Int) : Int → Prop
  | child (n : Nd) (hn : n ∈ N) (hp : n.Parent = d) : Dsc N d n.ID
  | up (n : Nd) (hn : n ∈ N) (hp : n.Parent ≠ 0) (h : Dsc N d n.Parent) : Dsc N d n.ID
structure Tr (N : List Nd) (r : Int → Nat) : Prop where
  so : N.Pairwise (fun a b=>a.ID < b.ID)
  id : ∀ n ∈ N,1 ≤ n.ID
  pa : ∀ n ∈ N,n.Parent = 0 ∨ ∃ m ∈ N,m.ID = n.Parent
  rk : ∀ n ∈ N,n.Parent ≠ 0 → r n.Parent < r n.ID
theorem FV.tr {K : Int} {st : Fs} (h : FV K st) : ∃ r,Tr st.Nodes r:=by
  obtain ⟨r,hr⟩:=h.rk
  exact ⟨r,h.so,fun n hn=>(h.ra n hn).1.1,h.pa,hr⟩
section
variable {N : List Nd} {r : Int → Nat}
theorem path_tr (h : Tr N r) {n : Nd} (hn : n ∈ N) : fW N N.length n.ID = if n.Parent = 0 then [] else n.Parent :: fW N N.length n.Parent:=by
  obtain ⟨k,hk⟩ : ∃ k,N.length = k + 1:=⟨N.length - 1,by have:=List.length_pos_of_mem hn; omega⟩
  by_cases hz : n.Parent = 0
  · rw [if_pos hz, hk, fW, oQ h.so hn]
    simp only [if_pos hz]
  · rw [if_neg hz]
    have e1 : fW N N.length n.ID = n.Parent :: fW N k n.Parent:=by
      rw [hk,fW,oQ h.so hn]
      simp only [if_neg hz]
    obtain ⟨h1,h2⟩:=lB h.so h.rk h.pa N.length n.ID ⟨n,hn,rfl⟩
    have h3:=mI h1 h2
    rw [e1,List.length_cons,List.length_cons,List.length_map] at h3
    have h4:=pU (N:=N) k n.Parent (by omega)
    rw [e1,hk,h4]
end
end Go.Fn
open Go Go.IL
namespace Go.Fn
theorem aAU {l : List Int} (hl : l.length ≤ 1000) {n : Int} : ∀ (r q : List Int) (f : Nat), l = q ++ r → r.length < f → eT l n f (q.length : Int) = some (decide (n ∈ r))
  | [], q, f, h, hf => by
    obtain ⟨f,rfl⟩ : ∃ g,f = g + 1:=⟨f - 1,by simp at hf; omega⟩
    rw [List.append_nil] at h
    rw [eT,bndD,h,decide_eq_false (by omega),bU]; rfl
  | x :: r, q, f, h, hf => by
    obtain ⟨f,rfl⟩ : ∃ g,f = g + 1:=⟨f - 1,by simp at hf; omega⟩
    have hrec:=aAU hl (n:=n) r (q ++ [x]) f (by rw [h]; simp) (by simpa using hf)
    rw [eT,bndD,oH h,cH,lV h,bnoS,bndD]
    by_cases e : x = n
    · rw [decide_eq_true e,cH,decide_eq_true (by rw [e]; exact List.mem_cons_self ..)]
    · rw [decide_eq_false e, bU, bndD, w_at h (by omega), hrec]
      congr 1
      by_cases e2 : n ∈ r
      · rw [decide_eq_true e2,decide_eq_true (List.mem_cons_of_mem _ e2)]
      · rw [decide_eq_false e2, decide_eq_false]
        intro hh
        rcases List.mem_cons.1 hh with e3 | h3
        · exact e e3.symm
        · exact e2 h3
theorem in19 {l : List Int} (hl : l.length ≤ 1000) (n : Int) : fQ l n = some (decide (n ∈ l)):=aAU hl l [] fuel rfl (fU (by omega))
end Go.Fn
open Go Go.IL
namespace Go.Fn
def GoodD (l : List cB) : Prop:=∀ a ∈ l,0 ≤ a.Kind ∧ a.Kind ≤ 255
end Go.Fn
open Go Go.IL
namespace Go.Fn
def askI (N : List Nd) (l : List Int) (i : Int) : Bool:=decide (i ∈ l) && N.any fun m=>decide (m.ID = i) && !m.Closed
def jF (N : List Nd) (l : List Int) (i : Int) : Bool:=askI N l i && !((fW N N.length i).any (askI N l))
structure nK (A : AS) (ns : List Nk) (q : List Int) (B : List Bool) : Prop where
  len : B.length = 64
  mr : ∀ p : Nat,B[p]? = some true ↔ dZ A p ∧ idP ns p ∈ q ∧ (ns.getD p default).closed = false
theorem tU {A : AS} {sp : List Nat} {ns : List Nk} {first : Int} {kids : Option Nat → List Nat} {N : List Nd} (h : RL A sp ns first kids N) {l : List Int} {p : Nat} (hp : dZ A p) : askI N l (idP ns p) = true ↔ idP ns p ∈ l ∧ (ns.getD p default).closed = false:=by
  obtain ⟨u,n,h1,h2,h3,h4,h5⟩:=h.up p hp
  have hid:=bX h2
  have hc : (ns.getD p default).closed = n.closed:=by rw [List.getD_eq_getElem?_getD,h2]; rfl
  unfold askI
  rw [Bool.and_eq_true,decide_eq_true_iff,List.any_eq_true,hc]
  constructor
  · rintro ⟨g1, m, g2, g3⟩
    rw [Bool.and_eq_true,decide_eq_true_iff,Bool.not_eq_true'] at g3
    have:=mA h.so g2 h5 (g3.1.trans hid)
    subst this
    exact ⟨g1,g3.2⟩
  · rintro ⟨g1, g2⟩
    refine ⟨g1,_,h5,?_⟩
    rw [Bool.and_eq_true,decide_eq_true_iff,Bool.not_eq_true']
    exact ⟨hid.symm,g2⟩
theorem vF {A : AS} {sp : List Nat} {ns : List Nk} {first : Int} {kids : Option Nat → List Nat} {N : List Nd} (h : RL A sp ns first kids N) {l : List Int} {B : List Bool} (hB : nK A ns l B) {p : Nat} (hp : dZ A p) : B[p]? = some (askI N l (idP ns p)):=by
  obtain ⟨u,n,h1,h2,h3,h4,h5⟩:=h.up p hp
  have hlt : p < B.length:=by
    rw [hB.len,← h.len]
    exact (List.getElem?_eq_some_iff.1 h2).1
  have h9:=tU h (l:=l) hp
  cases ha : askI N l (idP ns p) with
  | true=>exact (hB.mr p).2 ⟨hp,h9.1 ha⟩
  | false =>
    have e:=List.getElem?_eq_getElem hlt
    cases hb : B[p] with
    | false=>rw [e,hb]
    | true =>
      rw [hb] at e
      have:=h9.2 ((hB.mr p).1 e).2
      rw [ha] at this; cases this
theorem uX {A : AS} {sp : List Nat} {ns : List Nk} {first : Int} {kids : Option Nat → List Nat} {N : List Nd} (h : RL A sp ns first kids N) {l : List Int} {B : List Bool} (hB : nK A ns l B) (room keep : Int) (C : List AC) (F U : Int) (cl : List Int) {v98 : List Int} (hv : v98.length ≤ 1000) {at_ : Nat} (hat : dZ A at_) (kk : List Int → Int → Option (List Int)) : ∀ (us : List Nat) (p : Nat) (f : Nat), Up ns p us → (∀ q ∈ us, dZ A q) → us.length < f →
    cX room keep C F U ns first cl B v98 (at_ : Int) kk f true (p : Int) = if (us.map (idP ns)).any (askI N l) = true then kk v98 ((at_ : Int) + 1) else kk (v98 ++ [idP ns at_]) ((at_ : Int) + 1)
  | us,p,0,_,_,hf=>absurd hf (by omega)
  | us, p, f + 1, hu, ha, hf => by
    have hat64 : at_ < 64:=by
      obtain ⟨u,n,h1,h2,h3,h4,h5⟩:=h.up at_ hat
      rw [← h.len]
      exact (List.getElem?_eq_some_iff.1 h2).1
    have hid : dX (at_ : Int) room keep C F U ns first cl = some (idP ns at_):=id_ok h (u:=some at_) hat room keep C F U cl
    have hw : IntKind.wrap .i64 ((at_ : Int) + 1) = (at_ : Int) + 1:=w64 (by omega) (by omega)
    cases us with
    | nil =>
      obtain ⟨n,h1,h2⟩:=hu
      rw [cX,beq_self_eq_true,gdtt,dD,h1,bnoS,chk,if_pos (fun _=>h.len),gdtt,Int.toNat_natCast,h1,bnoS,bndD,h2,decide_eq_true rfl,Bool.not_true,bndD,Bool.and_false,bU,cH,hid,bnoS,mS (by simp; omega) (by simp; omega),bnoS,hw,bndD,if_neg (by simp)]
    | cons q us =>
      obtain ⟨⟨n,h1,h2⟩,h3⟩:=hu
      have hq:=ha q (by simp)
      have hm:=vF h hB hq
      rw [cX,beq_self_eq_true,gdtt,dD,h1,bnoS,chk,if_pos (fun _=>h.len),gdtt,Int.toNat_natCast,h1,bnoS,bndD,h2,decide_eq_false (by omega),Bool.not_false,bndD,Bool.and_self,cH,bnoS,chk,if_pos h.len,bnoS,h2,dD,hm,bnoS,chk,if_pos hB.len,Int.toNat_natCast,hm,bnoS,List.map_cons,List.any_cons]
      cases hc : askI N l (idP ns q) with
      | false =>
        rw [Bool.not_false,Bool.false_or]
        exact uX h hB room keep C F U cl hv hat kk us q f h3 (fun z hz=>ha z (by simp [hz])) (by simpa using hf)
      | true =>
        rw [Bool.not_true,Bool.true_or,if_pos rfl]
        obtain ⟨g,rfl⟩ : ∃ g,f = g + 1:=⟨f - 1,by simp at hf; omega⟩
        rw [cX,ft,gdff,bnoS,chk,if_pos (fun hh=>by cases hh),gdff,bnoS,bndD,bndD,Bool.false_and,bU,bU,hw,bndD]
structure yZ (A : AS) (ns : List Nk) (N : List Nd) (l : List Int) (k : Nat) (acc : List Int) : Prop where
  nd : acc.Nodup
  ln : acc.length ≤ k
  me : ∀ i,i ∈ acc ↔ ∃ p,p < k ∧ dZ A p ∧ idP ns p = i ∧ jF N l i = true
theorem uY {A : AS} {ns : List Nk} {first : Int} {cl : List Int} {R K : Int} {N : List Nd} {E : List Int} (h : TS A ns first cl R K N E) {l : List Int} {B : List Bool} (hB : nK A ns l B) (room keep : Int) : ∀ (m k f : Nat) (acc : List Int), k + m = 64 → m < f → yZ A ns N l k acc →
    ∃ acc',yZ A ns N l 64 acc' ∧ cY room keep A.Cells A.Free A.Used ns first cl B f acc (k : Int) = (bno (eW acc') fun x192=>chk (x192.length = acc'.length) <| some x192)
  | _,_,0,_,_,hf,_=>absurd hf (by omega)
  | 0, k, f + 1, acc, hk, hf, ha => by
    have hk : k = 64:=by omega
    subst hk
    exact ⟨acc,ha,by rw [cY,bndD,decide_eq_false (by omega),bU]⟩
  | m + 1, k, f + 1, acc, hk, hf, ha => by
    obtain ⟨sp,kids,hR,h0⟩:=h.rl
    have hlt : k < B.length:=by rw [hB.len]; omega
    have hw : IntKind.wrap .i64 ((k : Int) + 1) = ((k + 1 : Nat) : Int):=by rw [w64 (by omega) (by omega)]; omega
    have hln:=ha.ln
    rw [cY,bndD,decide_eq_true (by omega),cH,dD,List.getElem?_eq_getElem hlt,bnoS]
    have hskip : ∀ (hno : ¬ (dZ A k ∧ jF N l (idP ns k) = true)),yZ A ns N l (k + 1) acc:=fun hno=>⟨ha.nd,by omega,fun i=>by
      rw [ha.me]
      constructor
      · rintro ⟨p, p1, p2⟩
        exact ⟨p,by omega,p2⟩
      · rintro ⟨p, p1, p2, p3, p4⟩
        by_cases e : p = k
        · subst e
          exact absurd ⟨p2,by rw [p3]; exact p4⟩ hno
        · exact ⟨p,by omega,p2,p3,p4⟩⟩
    have hadd : ∀ (hk : dZ A k) (hr : jF N l (idP ns k) = true),yZ A ns N l (k + 1) (acc ++ [idP ns k]):=fun hk hr=>⟨by
      refine List.nodup_append.2 ⟨ha.nd,by simp,fun a h1 b h2 e=>?_⟩
      rw [List.mem_singleton] at h2
      subst h2
      subst e
      obtain ⟨p,p1,p2,p3,p4⟩:=(ha.me _).1 h1
      have:=hR.inj p k p2 hk p3
      omega,by simp; omega,fun i=>by
      rw [List.mem_append,ha.me,List.mem_singleton]
      constructor
      · rintro (⟨p, p1, p2⟩ | rfl)
        · exact ⟨p,by omega,p2⟩
        · exact ⟨k,by omega,hk,rfl,hr⟩
      · rintro ⟨p, p1, p2, p3, p4⟩
        by_cases e : p = k
        · subst e
          exact .inr p3.symm
        · exact .inl ⟨p,by omega,p2,p3,p4⟩⟩
    have hrecn:=fun (acc : List Int) (hac : yZ A ns N l (k + 1) acc)=>uY h hB room keep m (k + 1) f acc (by omega) (by omega) hac
    cases hb : B[k] with
    | false =>
      have hno : ¬ (dZ A k ∧ jF N l (idP ns k) = true):=fun ⟨g1,g2⟩=>by
        have:=vF hR hB g1
        rw [List.getElem?_eq_getElem hlt,hb] at this
        unfold jF at g2
        rw [← Option.some.inj this] at g2
        cases g2
      obtain ⟨acc',r1,r2⟩:=hrecn acc (hskip hno)
      refine ⟨acc',r1,?_⟩
      obtain ⟨g,hg⟩ : ∃ g,fuel = g + 1:=⟨fuel - 1,by have:=fU (n:=1) (by decide); omega⟩
      rw [hg,cX,ft,gdff,bnoS,chk,if_pos (fun hh=>by cases hh),gdff,bnoS,bndD,bndD,Bool.false_and,bU,bU,hw,bndD]
      exact r2
    | true =>
      have hmk:=(hB.mr k).1 (by rw [List.getElem?_eq_getElem hlt,hb])
      obtain ⟨rk,hrk⟩:=h.fv.rk
      obtain ⟨us,u1,u2,u3,u4⟩:=rP hR (fun m hm=>(h.fv.ra m hm).1.1) hrk h.fv.pa hmk.1
      have hN : N.length ≤ 24:=h.fv.ln
      have hask : askI N l (idP ns k) = true:=(tU hR hmk.1).2 hmk.2
      have hw2 : ((k : Int) + 1) = ((k + 1 : Nat) : Int):=by omega
      rw [uX hR hB room keep A.Cells A.Free A.Used cl (by omega) hmk.1 _ us k fuel u1 u2 (fU (by omega)),← u4,hw2]
      by_cases hany : (fW N N.length (idP ns k)).any (askI N l) = true
      · rw [if_pos hany]
        exact hrecn acc (hskip fun ⟨_,g2⟩=>by
          unfold jF at g2
          rw [hany,Bool.not_true,Bool.and_false] at g2
          cases g2)
      · rw [if_neg hany]
        exact hrecn _ (hadd hmk.1 (by
          unfold jF
          rw [hask,Bool.not_eq_true _ |>.mp hany]; rfl))
theorem uZ {A : AS} {ns : List Nk} {first : Int} {cl : List Int} {R K : Int} {N : List Nd} {E : List Int} (h : TS A ns first cl R K N E) {l : List Int} (hl : l.length ≤ 1000) (room keep : Int) : ∀ (r q : List Int) (f : Nat) (B : List Bool), l = q ++ r → r.length < f → nK A ns q B →
    ∃ B',nK A ns l B' ∧ dI l room keep A.Cells A.Free A.Used ns first cl f (q.length : Int) B = cY room keep A.Cells A.Free A.Used ns first cl B' fuel [] 0
  | _,_,0,_,_,hf,_=>absurd hf (by omega)
  | [], q, f + 1, B, h1, hf, hB => by
    rw [List.append_nil] at h1
    exact ⟨B,by rw [h1]; exact hB,by rw [dI,bndD,h1,decide_eq_false (by omega),bU,chk,if_pos hB.len]⟩
  | i :: r, q, f + 1, B, h1, hf, hB => by
    obtain ⟨sp,kids,hR,h0⟩:=h.rl
    have hrec:=fun (B : List Bool) (hB : nK A ns (q ++ [i]) B)=>uZ h hl room keep r (q ++ [i]) f B (by rw [h1]; simp) (by simpa using hf) hB
    have hwq:=w_at h1 (show l.length ≤ 1000000 by omega)
    rw [dI,bndD,oH h1,cH,lV h1,bnoS]
    rcases oL h i room keep with ⟨f1,p,f2,f3,f4⟩ | ⟨f1,f4⟩
    · obtain ⟨u, n, k1, k2, k3, k4, k5⟩ := hR.up p f2
      have hlt : p < B.length:=by
        rw [hB.len,← hR.len]
        exact (List.getElem?_eq_some_iff.1 k2).1
      have hcl : (ns.getD p default).closed = n.closed:=by rw [List.getD_eq_getElem?_getD,k2]; rfl
      rw [f4,bnoS,bndD,decide_eq_false (by omega),Bool.not_false,beq_self_eq_true,gdtt,dD,k2,bnoS,chk,if_pos (fun _=>hR.len),gdtt,Int.toNat_natCast,k2,bnoS,bndD,Bool.true_and]
      cases hc : n.closed with
      | true =>
        rw [Bool.not_true,bU,hwq,bndD]
        refine hrec B ⟨hB.len,fun z=>?_⟩
        rw [hB.mr z,List.mem_append,List.mem_singleton]
        constructor
        · exact fun ⟨g1,g2,g3⟩=>⟨g1,.inl g2,g3⟩
        · rintro ⟨g1, g2 | g2, g3⟩
          · exact ⟨g1,g2,g3⟩
          · have := hR.inj z p g1 f2 (g2.trans f3.symm)
            rw [this,hcl,hc] at g3; cases g3
      | false =>
        rw [Bool.not_false,cH,dD,List.getElem?_eq_getElem hlt,bnoS,chk,if_pos hB.len,bnoS,bndD,hwq,bndD]
        refine hrec _ ⟨by rw [List.length_set]; exact hB.len,fun z=>?_⟩
        rw [List.getElem?_set,List.mem_append,List.mem_singleton]
        by_cases e : p = z
        · subst e
          rw [if_pos rfl,if_pos hlt]
          exact ⟨fun _=>⟨f2,.inr f3,by rw [hcl,hc]⟩,fun _=>rfl⟩
        · rw [if_neg e, hB.mr z]
          constructor
          · exact fun ⟨g1,g2,g3⟩=>⟨g1,.inl g2,g3⟩
          · rintro ⟨g1, g2 | g2, g3⟩
            · exact ⟨g1,g2,g3⟩
            · exact absurd (hR.inj z p g1 f2 (g2.trans f3.symm)).symm e
    · rw [f4, bnoS, bndD, decide_eq_true rfl, Bool.not_true, ft, gdff, bnoS, chk, if_pos (fun hh => by cases hh), gdff, bnoS, bndD, Bool.false_and, bU, hwq, bndD]
      refine hrec B ⟨hB.len,fun z=>?_⟩
      rw [hB.mr z,List.mem_append,List.mem_singleton]
      constructor
      · exact fun ⟨g1,g2,g3⟩=>⟨g1,.inl g2,g3⟩
      · rintro ⟨g1, g2 | g2, g3⟩
        · exact ⟨g1,g2,g3⟩
        · obtain ⟨u, n, k1, k2, k3, k4, k5⟩ := hR.up z g1
          exact absurd ⟨_,k5,(bX k2).symm.trans g2⟩ f1
theorem aAK {A : AS} {ns : List Nk} {first : Int} {cl : List Int} {R K : Int} {N : List Nd} {E : List Int} (h : TS A ns first cl R K N E) {l : List Int} (hl : l.length ≤ 1000) (room keep : Int) :
    ∃ w,eZ l room keep A.Cells A.Free A.Used ns first cl = some w ∧ w.Pairwise (· < ·) ∧ w.length ≤ 24 ∧ (∀ i,i ∈ w ↔ hasN N i ∧ jF N l i = true):=by
  obtain ⟨sp,kids,hR,h0⟩:=h.rl
  have hN : N.length ≤ 24:=h.fv.ln
  have hm0 : nK A ns [] (List.replicate 64 false):=⟨by rw [List.length_replicate],fun p=>by
    constructor
    · intro hh
      have:=List.mem_of_getElem? hh
      rw [List.mem_replicate] at this
      cases this.2
    · rintro ⟨_, g, _⟩
      cases g⟩
  obtain ⟨B,b1,b2⟩:=uZ h hl room keep l [] fuel (List.replicate 64 false) rfl (fU (by omega)) hm0
  obtain ⟨acc,a1,a2⟩:=uY h b1 room keep 64 0 fuel [] rfl (fU (by decide)) ⟨List.nodup_nil,Nat.le_refl _,fun i=>⟨fun hh=>(List.not_mem_nil hh).elim,fun ⟨p,p1,_⟩=>absurd p1 (by omega)⟩⟩
  have hin : ∀ i,i ∈ acc ↔ hasN N i ∧ jF N l i = true:=fun i=>by
    rw [a1.me]
    constructor
    · rintro ⟨p, p1, p2, p3, p4⟩
      obtain ⟨u,n,k1,k2,k3,k4,k5⟩:=hR.up p p2
      exact ⟨⟨_,k5,(bX k2).symm.trans p3⟩,p4⟩
    · rintro ⟨⟨m, hm, e⟩, g⟩
      obtain ⟨p,n,u,k1,k2,k3,k4,rfl⟩:=hR.bw m hm
      refine ⟨p,?_,k1,(bX k3).trans e,g⟩
      rw [← hR.len]
      exact (List.getElem?_eq_some_iff.1 k3).1
  have hlen : acc.length ≤ 24:=by
    have:=mI a1.nd (m:=N.map (·.ID)) fun i hi=>by
      obtain ⟨⟨m,hm,e⟩,_⟩:=(hin i).1 hi
      exact List.mem_map.2 ⟨m,hm,e⟩
    rw [List.length_map] at this
    omega
  obtain ⟨w,w1,w2,w3⟩:=vsort_t hlen a1.nd
  refine ⟨w,?_,w3,by rw [w2.length_eq]; exact hlen,fun i=>by rw [w2.mem_iff]; exact hin i⟩
  unfold eZ
  rw [bndD]
  refine Eq.trans b2 (Eq.trans a2 ?_)
  unfold eW
  rw [w1,bnoS,chk,if_pos w2.length_eq]
end Go.Fn
open Go Go.IL
namespace Go.Fn
def Sfx (N : List Nd) : List Int → Prop
  | []=>True
  | z :: ys=>fW N N.length z = ys ∧ Sfx N ys
theorem uU {N : List Nd} {r : Int → Nat} (h : Tr N r) : ∀ (k : Nat) (n : Nd), n ∈ N → r n.ID ≤ k → Sfx N (n.ID :: fW N N.length n.ID)
  | k, n, hn, hk => by
    refine ⟨rfl,?_⟩
    rw [path_tr h hn]
    by_cases h0 : n.Parent = 0
    · rw [if_pos h0]; trivial
    · rw [if_neg h0]
      rcases h.pa n hn with e | ⟨m,hm,e⟩
      · exact absurd e h0
      · have hlt := h.rk n hn h0
        obtain ⟨k,rfl⟩ : ∃ i,k = i + 1:=⟨k - 1,by omega⟩
        have:=uU h k m hm (by rw [e]; omega)
        rw [e] at this
        exact this
theorem pQ {N : List Nd} {l : List Int} : ∀ (P : List Int),Sfx N P → P.countP (jF N l) = if P.any (askI N l) = true then 1 else 0
  | [],_=>rfl
  | z :: ys, ⟨h1, h2⟩ => by
    have ih:=pQ (l:=l) ys h2
    have hr : jF N l z = (askI N l z && !(ys.any (askI N l))):=by unfold jF; rw [h1]
    rw [List.countP_cons,ih,hr,List.any_cons]
    cases askI N l z <;> cases ys.any (askI N l) <;> rfl
theorem aAQ {N : List Nd} {some_ w : List Int} {n : Nd} {r : List Nd} {q : List Nd} (hN : N = q ++ n :: r) (hl : N.length ≤ 1000) (hw : w.length ≤ 24) (hs : some_.length ≤ 40) (kk : Int → Option Bool) {P : List Int} (hP : P.length ≤ 24)
    (hin : ∀ z,z ∈ P → (z ∈ w ↔ jF N some_ z = true)) (hn : n.ID ∈ w ↔ (askI N some_ n.ID && !(P.any (askI N some_))) = true) (hc : P.countP (jF N some_) = if P.any (askI N some_) = true then 1 else 0) (hask : askI N some_ n.ID = (decide (n.ID ∈ some_) && !n.Closed)) :
    ∀ (b a : List Int) (f : Nat),P = a ++ b → b.length < f → cL some_ w N (q.length : Int) kk P f (a.countP (jF N some_) : Int) (a.length : Int) = kk ((q.length : Int) + 1)
  | _,_,0,_,hf=>absurd hf (by omega)
  | [], a, f + 1, h, hf => by
    rw [List.append_nil] at h
    subst h
    have hq : q.length ≤ 1000:=by rw [hN] at hl; simp at hl; omega
    have i1 : fQ some_ n.ID = some (decide (n.ID ∈ some_)):=in19 (by omega) _
    have i2 : fQ w n.ID = some (askI N some_ n.ID && !(P.any (askI N some_))):=by
      rw [in19 (by omega)]
      congr 1
      cases hb : (askI N some_ n.ID && !(P.any (askI N some_))) with
      | true=>exact decide_eq_true (hn.2 hb)
      | false=>exact decide_eq_false fun hh=>by rw [hn.1 hh] at hb; cases hb
    rw [cL,bndD,decide_eq_false (by omega),bU,lV hN,bnoS,uN hN,bnoS,i1,bnoS]
    have hx : (bno (gd (decide (n.ID ∈ some_) == true) (some n) default) fun x350=>bno (gd (decide (n.ID ∈ some_) == true) (some n) default) fun x351=>bnd (decide (n.ID ∈ some_) && (!x351.Closed)) fun x352=>bno (some n) fun x353=>bno (some n) fun x354=>bno (fQ w x354.ID) fun x355 =>
      bnd (decide (0 < (P.countP (jF N some_) : Int))) fun x356=>bnd ((!x352) || x356) fun x357=>bnd (x355 && x357) fun x358=>bnd (x352 && (!x355)) fun x359=>bnd (decide ((P.countP (jF N some_) : Int) = 0)) fun x360=>bnd (x359 && x360) fun x361=>bnd (x358 || x361) fun x362=>bnd (decide (1 < (P.countP (jF N some_) : Int))) fun x363=>bnd (x362 || x363) fun x364 =>
      bif x364 then (some false) else (bnd (IntKind.wrap .i64 ((q.length : Int) + 1)) fun x366=>kk x366)) = kk ((q.length : Int) + 1):=by
      have e1 : ∀ F : Bool → Option Bool,(bno (gd (decide (n.ID ∈ some_) == true) (some n) default) fun x350=>bno (gd (decide (n.ID ∈ some_) == true) (some n) default) fun x351=>bnd (decide (n.ID ∈ some_) && (!x351.Closed)) F) = F (askI N some_ n.ID):=fun F=>by
        rw [hask]
        cases decide (n.ID ∈ some_)
        · rw [ft,gdff,bnoS,bnoS,bndD,Bool.false_and,Bool.false_and]
        · rw [beq_self_eq_true,gdtt,bnoS,bnoS,bndD]
      rw [e1,bnoS,bnoS,i2,bnoS,w64 (by omega) (by omega),hc]
      simp only [bndD]
      cases askI N some_ n.ID <;> cases P.any (askI N some_) <;> rfl
    exact hx
  | z :: b, a, f + 1, h, hf => by
    have hq : a.length ≤ 24:=by rw [h] at hP; simp at hP; omega
    have hrec:=aAQ hN hl hw hs kk hP hin hn hc hask b (a ++ [z]) f (by rw [h]; simp) (by simpa using hf)
    have hz : z ∈ P:=by rw [h]; simp
    have hcp:=List.countP_le_length (p:=jF N some_) (l:=a)
    rw [cL,bndD,oH h,cH,lV h,bnoS,uN h,bnoS,in19 (by omega),bnoS]
    rw [List.countP_append,List.countP_cons,List.countP_nil] at hrec
    by_cases hr : jF N some_ z = true
    · rw [decide_eq_true ((hin z hz).2 hr), cH, w64 (by omega) (by omega), bndD, w_at h (by omega), bndD]
      rw [if_pos hr] at hrec
      exact_mod_cast hrec
    · rw [decide_eq_false (fun hh => hr ((hin z hz).1 hh)), bU, w_at h (by omega), bndD]
      rw [if_neg hr] at hrec
      exact hrec
theorem aAR {A : AS} {ns : List Nk} {first : Int} {cl : List Int} {R K : Int} {N : List Nd} {E : List Int} (h : TS A ns first cl R K N E) {some_ w : List Int} (hs : some_.length ≤ 40) (hw : w.length ≤ 24) (hin : ∀ i, i ∈ w ↔ hasN N i ∧ jF N some_ i = true) : ∀ (r q : List Nd) (f : Nat), N = q ++ r → r.length < f →
    bY some_ R K A.Cells A.Free A.Used ns first cl w N f (q.length : Int) = some true
  | _,_,0,_,hf=>absurd hf (by omega)
  | [], q, f + 1, hN, hf => by
    rw [List.append_nil] at hN
    rw [bY,bndD,hN,decide_eq_false (by omega),bU,uR]; rfl
  | n :: r, q, f + 1, hN, hf => by
    have hln : N.length ≤ 24:=h.fv.ln
    have hn : n ∈ N:=by rw [hN]; simp
    have hhas : hasN N n.ID:=⟨n,hn,rfl⟩
    obtain ⟨rk,htr⟩ : ∃ rk,Tr N rk:=h.fv.tr
    obtain ⟨p1,p2⟩:=lB htr.so htr.rk htr.pa N.length n.ID hhas
    have p3:=mI p1 p2
    rw [List.length_cons,List.length_map] at p3
    have hsf:=(uU htr _ n hn (Nat.le_refl _)).2
    have hrec:=aAR h hs hw hin r (q ++ [n]) f (by rw [hN]; simp) (by simpa using hf)
    have hask : askI N some_ n.ID = (decide (n.ID ∈ some_) && !n.Closed):=by
      unfold askI
      congr 1
      cases hc : !n.Closed with
      | true=>exact List.any_eq_true.2 ⟨n,hn,by rw [hc,decide_eq_true rfl]; rfl⟩
      | false =>
        refine List.any_eq_false.2 fun m hm hh=>?_
        rw [Bool.and_eq_true,decide_eq_true_iff] at hh
        have:=mA htr.so hm hn hh.1
        subst this
        rw [hc] at hh; cases hh.2
    have hL:=aAQ hN (by omega) hw hs (bY some_ R K A.Cells A.Free A.Used ns first cl w N f) (P:=fW N N.length n.ID) (by omega) (fun z hz=>by
      rw [hin z]
      exact ⟨fun hh=>hh.2,fun hh=>⟨by
        obtain ⟨m,hm,e⟩:=List.mem_map.1 (p2 z (List.mem_cons_of_mem _ hz))
        exact ⟨m,hm,e⟩,hh⟩⟩) (by
      rw [hin]
      exact ⟨fun hh=>hh.2,fun hh=>⟨hhas,hh⟩⟩) (pQ _ hsf) hask (fW N N.length n.ID) [] fuel rfl (fU (by omega))
    rw [bY,bndD,oH hN,cH,lV hN,bnoS,uN hN,bnoS,Path_ts h,if_pos hhas,bnoS]
    refine Eq.trans hL ?_
    have e : ((q.length : Int) + 1) = ((q ++ [n]).length : Int):=by simp
    rw [e]; exact hrec
theorem aAS {l : List cB} (hg : GoodD l) (hl : l.length ≤ 60) {some_ : List Int} (hs : some_.length ≤ 40) {R K : Int} : ∀ (r q : List cB) (f : Nat) {A : AS} {ns : List Nk} {first : Int} {cl : List Int} {N : List Nd} {E : List Int},TS A ns first cl R K N E → l = q ++ r → r.length < f →
    cU l some_ f (q.length : Int) R K A.Cells A.Free A.Used ns first cl = some true
  | _,_,0,_,_,_,_,_,_,_,_,hf=>absurd hf (by omega)
  | [], q, f + 1, A, ns, first, cl, N, E, h, hN, hf => by
    rw [List.append_nil] at hN
    obtain ⟨w,w1,w2,w3,w4⟩:=aAK h (l:=some_) (by omega) R K
    have hln : N.length ≤ 24:=h.fv.ln
    rw [cU,bndD,hN,decide_eq_false (by omega),bU,w1,bnoS,aAL h,bnoS]
    exact aAR h hs w3 w4 N [] fuel rfl (fU (by omega))
  | a :: r, q, f + 1, A, ns, first, cl, N, E, h, hN, hf => by
    have ha : a ∈ l:=by rw [hN]; simp
    obtain ⟨c,A',ns',first',cl',N',E',g1,g2⟩:=Do_ts h (hg a ha).1 (hg a ha).2
    have hrec:=aAS hg hl hs r (q ++ [a]) f g2 (by rw [hN]; simp) (by simpa using hf)
    rw [cU,bndD,oH hN,cH,lV hN,bnoS,g1,bnoS,w_at hN (by omega),bndD]
    exact hrec
theorem wB {l : List cB} {some_ : List Int} (hg : GoodD l) : fF l some_ = some true:=by
  unfold fF
  rw [bndD,bndD,bndD]
  by_cases h : 60 < l.length
  · rw [decide_eq_true (show 60 < (l.length : Int) by omega),Bool.true_or,cH,uR]; rfl
  · rw [decide_eq_false (show ¬ 60 < (l.length : Int) by omega), Bool.false_or]
    by_cases h2 : 40 < some_.length
    · rw [decide_eq_true (by omega),cH,uR]; rfl
    · have hL := aAS hg (by omega) (some_ := some_) (by omega) l [] fuel (new_ts (R := 24) (K := 5) (by decide) (by decide)) rfl (fU (by omega))
      rw [decide_eq_false (by omega),bU,yJ,yJ,bnoS,decide_eq_true (by decide),show ((!true) == false) = true from rfl,gdtt,bnoS,decide_eq_true (by decide),bndD,show ((!true) || !true) = false from rfl,bU]
      exact hL
end Go.Fn
open Go.RowKit Go.WideShapes Go.ChangeShapes
namespace Go.IL

def pK (v : Value) : Prop:=∀ a n c,v = .slice (some a) n c → a.spot = none
theorem sU {P : Program} {w : World} {r : Reach} {b : Nat} {t : TypeId} {v : Value} (h : Cell.okWide P w r b t v) : pK v:=by
  intro a n c e
  subst e
  have h2 : Cell.ok P w r b t (.slice (some a) n c):=by
    unfold Cell.okWide at h
    split at h <;> first | exact h | (rename_i h3 _; cases h3) | (rename_i h3; cases h3) | skip
    all_goals first | exact h | simp_all
  unfold Cell.ok at h2
  split at h2 <;> simp_all [World.has]
theorem zF {P : Program} {w : World} {r : Reach} {b : Nat} {t : TypeId} {v : Value} (h : Value.okWide P w r b t v) : ∀ u ∈ v.cells.toList,pK u:=by
  have agg : ∀ cs : Array Value,Row.okWide P w r b t cs → ∀ u ∈ cs.toList,pK u:=by
    intro cs ⟨ts,_,_,h3⟩ u hu
    obtain ⟨i,hi⟩:=List.getElem?_of_mem hu
    obtain ⟨q,_,hq⟩:=h3 i u (by simpa using hi)
    exact sU hq
  unfold Value.okWide at h
  split at h
  · obtain ⟨cs,rfl,_,h⟩:=h; simpa [Value.cells] using agg cs h
  · obtain ⟨cs,rfl,_,h⟩:=h; simpa [Value.cells] using agg cs h
  · have h2 := sU h
    intro u hu
    cases v with
    | agg cs =>
      exfalso
      unfold Cell.okWide at h
      split at h <;> simp_all [Cell.ok]
    | _=>simp [Value.cells] at hu; subst hu; exact h2

def Env.none (w : World) : Env:=⟨w,fun _ _=>False⟩
def OpD (P : Program) (sp : Bool) (t : TypeId) (Q : List D → Prop) : Prop :=
  ∀ {H : Type} {enc : TypeId × Value → H} {w : World} {base : Nat} {spare : Nat → Bool} {held : Bool} {fuel : Nat} {cs : List Value} {x : DataW H × List MemPlace},
    DataW.trod enc P w base spare held fuel t cs = some x → (sp = true → ∀ v ∈ cs,pK v) → ∃ ds,RdL (Env.none w) β0 cs ds ∧ Q ds
def qInt (k : IntKind) (ds : List D) : Prop:=∃ n : Int,ds = [.int k n] ∧ (k.min ≤ n ∧ n ≤ k.max)
def qBool (ds : List D) : Prop:=∃ b : Bool,ds = [.bool b]
def qSlice {α : Type} (f : Enc α) (wf : α → Prop) (ds : List D) : Prop:=∃ l : List α,ds = [.slice false (l.map f.d)] ∧ l.length ≤ 9223372036854775807 ∧ ∀ x ∈ l,wf x
def qList : List (List D → Prop) → List D → Prop
  | [],ds=>ds = []
  | Q :: Qs,ds=>∃ a b,ds = a ++ b ∧ Q a ∧ qList Qs b

section
variable {P : Program} {sp : Bool} {t : TypeId}
theorem pX {k : IntKind} (hu : P.underlying t = some (.int k)) : OpD P sp t (qInt k):=by
  intro H enc w base spare held fuel cs x h _
  obtain ⟨n,rfl,rfl,hw⟩:=DataW.trod_int hu h
  exact ⟨[.int k n],.cons (.int _ _ _) (.nil _),n,rfl,by simpa [Lit.wf] using hw⟩
theorem zQ (hu : P.underlying t = some .bool) : OpD P sp t qBool:=by
  intro H enc w base spare held fuel cs x h _
  obtain ⟨b,rfl,rfl⟩:=DataW.trod_bool hu h
  exact ⟨[.bool b],.cons (.bool _ _) (.nil _),b,rfl⟩
theorem tC {α : Type} {f : Enc α} {e : TypeId} {wf : α → Prop} (hu : P.underlying t = some (.slice e)) (hc : P.cellsOf e = f.sz) (he : OpD P false e (fun ds => ∃ a, ds = (f.d a).cells ∧ wf a)) : OpD P sp t (qSlice f wf) := by
  intro H enc w base spare held fuel cs x h hs
  rcases DataW.trod_slice hu h with ⟨rfl,_⟩ | ⟨a,len,cap,elems,rest,n,_,rfl,rfl,hb,hl,hm,hlen,hel,_,_⟩
  · exact ⟨[.slice false []],.cons (.nslice _ _) (.nil _),[],rfl,by simp,by simp⟩
  · by_cases hl0 : len = 0
    · subst hl0; exact ⟨[.slice false []],.cons (.eslice _ a cap false (fun h=>by cases h)) (.nil _),[],rfl,by simp,by simp⟩
    have hsp0 : a.spot = none:=by
      have h1:=hel 0 (by omega)
      have h2 : elems[0]? = some (elems[0]'(by omega)):=List.getElem?_eq_getElem _
      rw [h2,Option.bind_eq_some_iff] at h1
      obtain ⟨vs,h3,_⟩:=h1
      have h7:=World.cells?_some h3
      have hp:=f.pos
      have h8:=h7.2.2 0 (by rw [hc]; exact hp)
      rw [Nat.zero_mul] at h8
      have e0 : ((a.add 0).add 0) = a:=rfl
      rw [e0] at h8
      cases hsp : a.spot with
      | none=>rfl
      | some q =>
        exfalso
        unfold World.cell? at h8
        rw [hsp] at h8
        split at h8
        · simp at h8; have:=h7.1; simp_all
        · have:=h7.1; simp_all
    have ha : a = ⟨a.block,a.off,none⟩:=by cases a; simp_all
    have each : ∀ i,i < len → ∃ (vs : List Value) (y : α),(∀ k v,vs[k]? = some v → w.cell? ⟨a.block,a.off + (i * f.sz + k),none⟩ = some v) ∧ RdL (Env.none w) β0 vs (f.d y).cells ∧ wf y:=by
      intro i hi
      have h1:=hel i hi
      have h2 : elems[i]? = some (elems[i]'(by omega)):=List.getElem?_eq_getElem _
      rw [h2,Option.bind_eq_some_iff] at h1
      obtain ⟨vs,h3,h4⟩:=h1
      obtain ⟨ds,h5,y,rfl,h6⟩:=he h4 (by simp)
      refine ⟨vs,y,fun k v hk=>?_,h5,h6⟩
      have h7:=World.cells?_some h3
      have hk':=(List.getElem?_eq_some_iff.1 hk).1
      have h8:=h7.2.2 k (by omega)
      rw [hk,ha,hc] at h8
      rw [← h8]
      congr 1
      by_cases h9 : i * f.sz = 0
      · by_cases h10 : k = 0
        · simp [Addr.add,h9,h10]
        · simp [Addr.add,h9,h10]
      · by_cases h10 : k = 0
        · simp [Addr.add,h9,h10]
        · simp [Addr.add,h9,h10,Nat.add_assoc]
    have all : ∀ m,m ≤ len → ∃ (vs : List Value) (l : List α),l.length = m ∧ (∀ k v,vs[k]? = some v → w.cell? ⟨a.block,a.off + k,none⟩ = some v) ∧ RdL (Env.none w) β0 vs (D.flat (l.map f.d)) ∧ ∀ y ∈ l,wf y:=by
      intro m
      induction m with
      | zero=>intro _; exact ⟨[],[],rfl,by simp,.nil _,by simp⟩
      | succ m ih =>
        intro hm'
        obtain ⟨vs,l,h1,h2,h3,h4⟩:=ih (by omega)
        obtain ⟨us,y,h5,h6,h7⟩:=each m (by omega)
        have hvl : vs.length = m * f.sz:=by rw [h3.length,f.flat_len,h1]
        refine ⟨vs ++ us,l ++ [y],by simp [h1],fun k v hk=>?_,?_,?_⟩
        · by_cases hk' : k < vs.length
          · exact h2 k v (by rwa [List.getElem?_append_left hk'] at hk)
          · rw [List.getElem?_append_right (by omega)] at hk
            have:=h5 _ _ hk
            rwa [hvl,show m * f.sz + (k - m * f.sz) = k by omega] at this
        · rw [List.map_append]
          have e2 : D.flat (l.map f.d ++ [y].map f.d) = D.flat (l.map f.d) ++ (f.d y).cells:=by simp [D.flat]
          rw [e2]; exact h3.append h6
        · intro z hz
          rcases List.mem_append.1 hz with h | h
          · exact h4 z h
          · simp at h; subst h; exact h7
    obtain ⟨vs,l,h1,h2,h3,h4⟩:=all len (Nat.le_refl _)
    refine ⟨[.slice false (l.map f.d)],.cons ?_ (.nil _),l,rfl,by unfold maxLen at hm; omega,h4⟩
    rw [ha]
    exact .slice _ _ _ len cap f.sz false vs _ (by rw [List.length_map,h1]) hl (by simp) (f.len l) f.pos (fun k v hk=>⟨h2 k v hk,fun h=>h⟩) h3

def pH (P : Program) : Nat → List Field → Bool
  | _,[]=>true
  | k,f :: fs=>f.offset == k && pH P (k + P.cellsOf f.type) fs
inductive OpFs (P : Program) (sp : Bool) : List Field → List (List D → Prop) → Prop
  | nil : OpFs P sp [] []
  | cons {f fs Q Qs} (h : OpD P sp f.type Q) (t : OpFs P sp fs Qs) : OpFs P sp (f :: fs) (Q :: Qs)
theorem wC {fs : Array Field} {Qs : List (List D → Prop)} (hu : P.underlying t = some (.struct fs)) (hf : pH P 0 fs.toList = true) (hn : P.cellsOf t = (fs.toList.map fun f=>P.cellsOf f.type).sum) (h : OpFs P sp fs.toList Qs) : OpD P sp t (qList Qs):=by
  intro H enc w base spare held fuel cs x hx hs
  obtain ⟨xs,n,_,_,hlen,hxl,hfld⟩:=DataW.trod_struct hu hx
  have key : ∀ (l : List Field) (Qs : List (List D → Prop)) (k : Nat),OpFs P sp l Qs → pH P k l = true → k + (l.map fun f=>P.cellsOf f.type).sum = cs.length →
      (∀ f ∈ l,∃ y,DataW.trod enc P w base spare held n f.type ((cs.drop f.offset).take (P.cellsOf f.type)) = some y) → ∃ ds,RdL (Env.none w) β0 (cs.drop k) ds ∧ qList Qs ds:=by
    intro l Qs k ho
    induction ho generalizing k with
    | nil =>
      intro _ h1 _
      refine ⟨[],?_,rfl⟩
      rw [List.drop_of_length_le (by simp at h1; omega)]; exact .nil _
    | @cons f fs Q Qs h t ih =>
      intro h1 h2 h3
      simp only [pH,Bool.and_eq_true,beq_iff_eq] at h1
      simp only [List.map_cons,List.sum_cons] at h2
      obtain ⟨y,hy⟩:=h3 f (by simp)
      rw [h1.1] at hy
      obtain ⟨ds,h4,h5⟩:=h hy (fun hsp v hv=>hs hsp v (List.mem_of_mem_drop (List.mem_of_mem_take hv)))
      obtain ⟨es,h6,h7⟩:=ih (k + P.cellsOf f.type) h1.2 (by omega) (fun g hg=>h3 g (by simp [hg]))
      refine ⟨ds ++ es,?_,ds,es,rfl,h5,h7⟩
      have:=h4.append h6
      rwa [← List.drop_drop,List.take_append_drop] at this
  have:=key fs.toList Qs 0 h hf (by rw [Nat.zero_add,← hn,hlen]) (fun f hf=>by
    obtain ⟨i,hi⟩:=List.getElem?_of_mem hf
    have h1:=hfld i f (by simpa using hi)
    have h2 : i < xs.length:=by rw [hxl]; have:=(List.getElem?_eq_some_iff.1 hi).1; simpa using this
    exact ⟨xs[i],by rw [h1,List.getElem?_eq_getElem h2]⟩)
  rwa [List.drop_zero] at this
theorem OpD.to {Q R : List D → Prop} (h : OpD P sp t Q) (k : ∀ ds,Q ds → R ds) : OpD P sp t R:=by
  intro H enc w base spare held fuel cs x hx hs
  obtain ⟨ds,h1,h2⟩:=h hx hs
  exact ⟨ds,h1,k ds h2⟩
theorem xR {Q : List D → Prop} (h : OpD P true t Q) {H : Type} {enc : TypeId × Value → H} {w : World} {base b0 : Nat} {spare : Nat → Bool} {held : Bool} {v : Value} {d : DataW H} {ps : List MemPlace} {r : Reach}
    (hv : Value.okWide P w r b0 t v) (hd : DataW.Trod enc P w base spare held t v d ps) : ∃ ds,RdL (Env.none w) β0 v.cells.toList ds ∧ Q ds:=by
  obtain ⟨fuel,hf⟩:=hd
  exact h hf (fun _=>zF hv)
theorem xI {E : Env} {v : Value} {d : D} (h : RdL E β0 v.cells.toList [d]) (hn : ∀ cs,v ≠ .agg cs) : Rd E β0 v d:=by
  cases v with
  | agg cs=>exact absurd rfl (hn cs)
  | _=>simp [Value.cells] at h; cases h with | cons h _=>exact h
section
variable {H : Type} {enc : TypeId × Value → H}
theorem nM (hl : laidOutB P = true) {W W' : World} (hb : Below W.heap.size W W') {sp : Nat → Bool} : ∀ {ts : List TypeId} {vs : List Value} {ds : List (DataW H)} {ps : List MemPlace},
    (∀ t ∈ ts,P.readableRec t = true ∧ t < P.types.size) → DataW.TrodAll enc P W 0 (fun _=>true) true ts vs ds ps → (∀ x ∈ ps,x.block < W.heap.size) → (∀ x ∈ ps,sp x.block = true) →
    DataW.TrodAll enc P W' 0 sp true ts vs ds ps
  | [], vs, ds, ps, _, h, _, _ => by
    obtain ⟨rfl,rfl,rfl⟩:=trodAll_nil h; exact rfl
  | t :: ts, vs, ds, ps, hr, h, hlt, hsp => by
    obtain ⟨v,vs',d,ds',p,q,rfl,rfl,rfl,h1,h2⟩:=trodAll_cons h
    refine ⟨p,q,?_,nM hl hb (fun t ht=>hr t (by simp [ht])) h2 (fun x hx=>hlt x (by simp [hx])) (fun x hx=>hsp x (by simp [hx])),rfl⟩
    have hx : ∀ x ∈ p,x ∈ p ++ q:=fun x hx=>by simp [hx]
    exact WideElems.Trod_stays hl (hr t (by simp)).1 (hr t (by simp)).2 h1 (fun x hxp=>hb.same (hlt x (hx x hxp))) (fun x hxp=>hsp x (hx x hxp))
theorem rY {f : Func} {s : ChangeSpec} {apart fresh handsOn again : Bool} {W W' : World} {args : Array Value} {v : Value} {ds gs : List (DataW H)} {before pa pv : List MemPlace}
    (hW : DataW.Whole enc P f.params.toList s.vars apart W args.toList ds gs before)
    (hres : ∀ (b : Nat) (sp : Nat → Bool) (hd : Bool),DataW.TrodAll enc P W' b sp hd f.resultTypes.toList (v.resultList f.resultTypes.size) (s.fn H (ds ++ gs)).results [])
    (hargs : ∀ sp : Nat → Bool,(∀ p ∈ before,sp p.block = true) → DataW.TrodAll enc P W' 0 sp true f.params.toList args.toList (s.fn H (ds ++ gs)).args pa)
    (hvars : ∀ sp : Nat → Bool,(∀ p ∈ before,sp p.block = true) → DataW.TrodVars enc P W' sp s.vars (s.fn H (ds ++ gs)).vars pv)
    (hps : before = pa ++ pv) (hb : Below W.heap.size W W')
    (hok : ∀ (j : Nat) (t : TypeId) (r : Value),f.resultTypes[j]? = some t → (v.resultList f.resultTypes.size)[j]? = some r → Value.okWide P W' .any 0 t r) :
    s.post enc P f apart fresh handsOn again W args v W':=by
  have hlt : ∀ p ∈ before,p.block < W.heap.size:=fun p hp=>hW.lt p hp
  have hold : ∀ p ∈ before,(fun b=>decide (b < W.heap.size)) p.block = true:=fun p hp=>by simpa using hlt p hp
  refine ⟨ds,gs,before,[],pa,pv,hW,hres _ _ _,hargs _ hold,hvars _ hold,World.keptBut_mono (fun p hp=>⟨hp,?_⟩) (hb.frame (· ∈ before)),fun _=>?_⟩
  · rw [hps, List.mem_append] at hp
    exact Or.inr hp
  · obtain ⟨_, _, _, _, _, hz, hn⟩ := hW
    refine ⟨hok,_,_,([] ++ pa) ++ pv,⟨[] ++ pa,pv,trodAll_append (hargs _ (fun _ _=>rfl)) (hres _ _ _),hvars _ (fun _ _=>rfl),rfl,?_,?_⟩,?_⟩
    · intro b off hp
      have hin : MemPlace.cell b off ∈ before:=by rw [hps]; simpa using hp
      rw [hb.frozen (hlt _ hin)]
      exact hz b off hin
    · intro ha
      have:=hn ha
      rw [hps] at this
      simpa using this
    · intro p hp _
      rw [hps]
      simpa using hp
theorem zU {f : Func} {s : ChangeSpec} {apart fresh handsOn again : Bool} {W W' : World} {args : Array Value} {ds gs : List (DataW H)} {before : List MemPlace} {tb : TypeId}
    (hl : laidOutB P = true) (hr : ∀ t ∈ f.params.toList,P.readableRec t = true ∧ t < P.types.size) (hv : s.vars = []) (hres : f.resultTypes = #[tb]) (hbool : P.underlying tb = some .bool)
    (hfn : s.fn H (ds ++ gs) = { results:=[.lit (.bool true)],args:=ds })
    (hW : DataW.Whole enc P f.params.toList s.vars apart W args.toList ds gs before) (hb : Below W.heap.size W W') : s.post enc P f apart fresh handsOn again W args (.bool true) W':=by
  have hW':=hW
  obtain ⟨p,q,hA,hV,hbef,hfz,hnd⟩:=hW
  rw [hv] at hV
  obtain ⟨rfl,rfl⟩:=trodVars_none hV
  have hlt : ∀ x ∈ before,x.block < W.heap.size:=fun x hx=>hW'.lt x hx
  have hsub : ∀ x ∈ p,x ∈ before:=fun x hx=>by rw [hbef]; simp [hx]
  refine rY (pa:=p) (pv:=[]) hW' ?_ ?_ ?_ ?_ hb ?_
  · intro b sp hd
    rw [hfn,hres]
    exact trodAll_mk1 (shut_bool hbool true)
  · intro sp hsp
    rw [hfn]
    exact nM hl hb hr hA (fun x hx=>hlt x (hsub x hx)) (fun x hx=>hsp x (hsub x hx))
  · intro sp hsp
    rw [hfn,hv]; exact rfl
  · exact hbef
  · exact ok_one hres rfl (okWide_bool_mk hbool true)
end
end
end Go.IL
namespace Go.IL
theorem rA {P : Program} {w W : World} {r : Reach} {b : Nat} {t : TypeId} {v : Value} {d : D} (hv : Value.okWide P W r b t v) (hg : hD P t = false) (h : RdL (Env.none w) β0 v.cells.toList [d]) : Rd (Env.none w) β0 v d:=by
  refine xI h fun cs e=>?_
  subst e
  unfold hD at hg
  unfold Value.okWide at hv
  split at hv
  · rename_i h1; rw [h1] at hg; cases hg
  · rename_i h1; rw [h1] at hg; cases hg
  · unfold Cell.okWide at hv
    split at hv <;> simp_all [Cell.ok]
end Go.IL
open Go.RowKit Go.WideShapes Go.ChangeShapes
namespace Go.IL
end Go.IL
