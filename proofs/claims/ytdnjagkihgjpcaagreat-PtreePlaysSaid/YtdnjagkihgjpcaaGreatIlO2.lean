/-
  A part of the proof: rules and plain facts. No condition.
-/
import Derived.Test.YtdnjagkihgjpcaaGreatIlP141
import Derived.Test.YtdnjagkihgjpcaaGreatIlA19zD
import Derived.Test.YtdnjagkihgjpcaaGreatIlSo
import Derived.ProofKit
import Derived.OpenShut
set_option linter.all false
open Go Go.IL
namespace Go.Fn
theorem Kids_ts {A:AS} {ns:List Nk} {first:Int} {cl:List Int} {R K:Int} {N:List Nd} {E:List Int} (h:TS A ns first cl R K N E) (id:Int) (room keep:Int) :
 ∃ w:List Int,gD id room keep A.Cells A.Free A.Used ns first cl=some w ∧ w.Pairwise (· < ·) ∧ (∀ i ∈ w,hasN N i) ∧ (¬ (hasN N id ∨ id=0) → w=[]) ∧ ((hasN N id ∨ id=0) → ∀ m ∈ N,(m.ID ∈ w ↔ m.Parent=id)):=by
 rcases aCW h id room keep with ⟨h1,h2⟩ | ⟨h1,l,h2,h3,h4,h5,h6⟩
 · exact ⟨[],h2,List.Pairwise.nil,fun i hi=>(by cases hi),fun _=>rfl,fun hh=>absurd hh h1⟩
 · have hl:l.length ≤ 24:=by
    have:=pY h3 (m:=N.map (·.ID)) fun i hi=>by
     obtain ⟨m,hm,e⟩:=h6 i hi
     exact List.mem_map.2 ⟨m,hm,e⟩
    rw [List.length_map] at this
    have hN:N.length ≤ 24:=h.fv.ln
    omega
   obtain ⟨w,hw,hp,hs⟩:=aAl hl h3
   refine ⟨w,?_,hs,fun i hi=>h6 i (hp.mem_iff.1 hi),fun hh=>absurd h1 hh,fun _ m hm=>?_⟩
   · rw [h2]
     unfold fO
     unfold fZ
     rw [hw,bnoS,chk,if_pos hp.length_eq]
   · rw [hp.mem_iff]; exact h5 m hm
end Go.Fn
open Go Go.IL
namespace Go.Fn
theorem zO:∀ {l m:List Nd},l.Pairwise (fun a b=>a.ID < b.ID) → m.Pairwise (fun a b=>a.ID < b.ID) → (∀ x,x ∈ l ↔ x ∈ m) → l=m
 | [],[],_,_,_=>rfl
 | [],y :: m,_,_,h=>by have:=(h y).2 (by simp); cases this
 | x :: l,[],_,_,h=>by have:=(h x).1 (by simp); cases this
 | x :: l,y :: m,h1,h2,h=>by
   obtain ⟨a1,a2⟩:=List.pairwise_cons.1 h1
   obtain ⟨b1,b2⟩:=List.pairwise_cons.1 h2
   have e:x=y:=by
    rcases List.mem_cons.1 ((h x).1 (by simp)) with e | hx
    · exact e
    · rcases List.mem_cons.1 ((h y).2 (by simp)) with e | hy
      · exact e.symm
      · have:=a1 y hy
        have:=b1 x hx
        omega
   subst e
   rw [zO a2 b2 fun z=>?_]
   constructor
   · intro hz
     rcases List.mem_cons.1 ((h z).1 (List.mem_cons_of_mem _ hz)) with e | hz2
     · have:=a1 z hz
       rw [e] at this; omega
     · exact hz2
   · intro hz
     rcases List.mem_cons.1 ((h z).2 (List.mem_cons_of_mem _ hz)) with e | hz2
     · have:=b1 z hz
       rw [e] at this; omega
     · exact hz2
theorem aCV {A:AS} {ns:List Nk} {first:Int} {cl:List Int} {R K:Int} {N:List Nd} {E:List Int} (h:TS A ns first cl R K N E) (room keep:Int):iM room keep A.Cells A.Free A.Used ns first cl=some N:=by
 obtain ⟨sp,kids,hR,h0⟩:=h.rl
 have hN:N.length ≤ 24:=h.fv.ln
 have hlen:(lR A.Cells 0).length=N.length:=by
  have h1:=sR hR
  rw [hR.ga.used,← rI A.Cells 0] at h1
  omega
 have hc:∀ p ∈ lR A.Cells 0,fH A p:=fun p hp=>mE.2 hp
 unfold iM
 rw [aBK hR.ga,bnoS]
 have:=aBx hR (lv:=lR A.Cells 0) (by omega) hc room keep A.Cells A.Free A.Used cl (lR A.Cells 0) [] fuel rfl (eS (by omega))
 rw [show ((0:Int))=(([]:List Nat).length:Int) from rfl]
 refine Eq.trans this ?_
 have hids:((lR A.Cells 0).map (uG ns)).map (·.ID)=(lR A.Cells 0).map (idP ns):=by
  rw [List.map_map]
  exact List.map_congr_left fun p hp=>(tJ hR (hc p hp)).2.1
 obtain ⟨w,e,hp,hs⟩:=ksort_t (l:=(lR A.Cells 0).map (uG ns)) (by rw [List.length_map]; omega) (by
  rw [hids]
  exact List.pairwise_map.2 ((qN A.Cells 0).imp_of_mem fun {p q} hp hq hne e=>hne (hR.inj p q (hc p hp) (hc q hq) e))) (fun m hm=>by
  obtain ⟨p,hp,rfl⟩:=List.mem_map.1 hm
  have:=(h.fv.ra _ (tJ hR (hc p hp)).1).1
  omega)
 rw [e,bnoS,chk,if_pos hp.length_eq]
 congr 1
 refine zO hs hR.so fun x=>?_
 rw [hp.mem_iff]
 constructor
 · intro hx
   obtain ⟨p,hp,rfl⟩:=List.mem_map.1 hx
   exact (tJ hR (hc p hp)).1
 · intro hx
   obtain ⟨p,n,u,k1,k2,k3,k4,rfl⟩:=hR.bw x hx
   obtain ⟨g1,g2,_⟩:=tJ hR k1
   refine List.mem_map.2 ⟨p,mE.1 k1,nE hR.so g1 hx ?_⟩
   rw [g2,cR k3]; rfl
end Go.Fn
open Go Go.IL
namespace Go.Fn
end Go.Fn
open Go Go.IL
namespace Go.Fn
end Go.Fn
open Go Go.IL
namespace Go.Fn
end Go.Fn
open Go Go.IL
namespace Go.Fn
inductive Dsc (N:List Nd) (d:Int):Int → Prop
 | child (n:Nd) (hn:n ∈ N) (hp:n.Parent=d):Dsc N d n.ID
 | up (n:Nd) (hn:n ∈ N) (hp:n.Parent ≠ 0) (h:Dsc N d n.Parent):Dsc N d n.ID
structure Tr (N:List Nd) (r:Int → Nat):Prop where
 so:N.Pairwise (fun a b=>a.ID < b.ID)
 id:∀ n ∈ N,1 ≤ n.ID
 pa:∀ n ∈ N,n.Parent=0 ∨ ∃ m ∈ N,m.ID=n.Parent
 rk:∀ n ∈ N,n.Parent ≠ 0 → r n.Parent < r n.ID
section
variable {N:List Nd} {r:Int → Nat}
end
end Go.Fn
open Go Go.IL
namespace Go.Fn
end Go.Fn
open Go Go.IL
namespace Go.Fn
def GoodD (l:List bT):Prop:=∀ a ∈ l,0 ≤ a.Kind ∧ a.Kind ≤ 255
end Go.Fn
open Go Go.IL
namespace Go.Fn
def askI (N:List Nd) (l:List Int) (i:Int):Bool:=decide (i ∈ l) && N.any fun m=>decide (m.ID=i) && !m.Closed
def nP (N:List Nd) (l:List Int) (i:Int):Bool:=askI N l i && !((fV N N.length i).any (askI N l))
structure qQ (A:AS) (ns:List Nk) (q:List Int) (B:List Bool):Prop where
 len:B.length=64
 mr:∀ p:Nat,B[p]? = some true ↔ fH A p ∧ idP ns p ∈ q ∧ (ns.getD p default).closed=false
theorem xY {A:AS} {sp:List Nat} {ns:List Nk} {first:Int} {kids:Option Nat → List Nat} {N:List Nd} (h:RL A sp ns first kids N) {l:List Int} {p:Nat} (hp:fH A p):askI N l (idP ns p)=true ↔ idP ns p ∈ l ∧ (ns.getD p default).closed=false:=by
 obtain ⟨u,n,h1,h2,h3,h4,h5⟩:=h.up p hp
 have hid:=cR h2
 have hc:(ns.getD p default).closed=n.closed:=by rw [List.getD_eq_getElem?_getD,h2]; rfl
 unfold askI
 rw [Bool.and_eq_true,decide_eq_true_iff,List.any_eq_true,hc]
 constructor
 · rintro ⟨g1,m,g2,g3⟩
   rw [Bool.and_eq_true,decide_eq_true_iff,Bool.not_eq_true'] at g3
   have:=nE h.so g2 h5 (g3.1.trans hid)
   subst this
   exact ⟨g1,g3.2⟩
 · rintro ⟨g1,g2⟩
   refine ⟨g1,_,h5,?_⟩
   rw [Bool.and_eq_true,decide_eq_true_iff,Bool.not_eq_true']
   exact ⟨hid.symm,g2⟩
theorem zP {A:AS} {sp:List Nat} {ns:List Nk} {first:Int} {kids:Option Nat → List Nat} {N:List Nd} (h:RL A sp ns first kids N) {l:List Int} {B:List Bool} (hB:qQ A ns l B) {p:Nat} (hp:fH A p):B[p]? = some (askI N l (idP ns p)):=by
 obtain ⟨u,n,h1,h2,h3,h4,h5⟩:=h.up p hp
 have hlt:p < B.length:=by
  rw [hB.len,← h.len]
  exact (List.getElem?_eq_some_iff.1 h2).1
 have h9:=xY h (l:=l) hp
 cases ha:askI N l (idP ns p) with
 | true=>exact (hB.mr p).2 ⟨hp,h9.1 ha⟩
 | false =>
   have e:=List.getElem?_eq_getElem hlt
   cases hb:B[p] with
   | false=>rw [e,hb]
   | true =>
     rw [hb] at e
     have:=h9.2 ((hB.mr p).1 e).2
     rw [ha] at this; cases this
theorem zF {A:AS} {sp:List Nat} {ns:List Nk} {first:Int} {kids:Option Nat → List Nat} {N:List Nd} (h:RL A sp ns first kids N) {l:List Int} {B:List Bool} (hB:qQ A ns l B) (room keep:Int) (C:List AC) (F U:Int) (cl:List Int) {v98:List Int} (hv:v98.length ≤ 1000) {at_:Nat} (hat:fH A at_) (kk:List Int → Int → Option (List Int)):∀ (us:List Nat) (p:Nat) (f:Nat),Up ns p us → (∀ q ∈ us,fH A q) → us.length < f →
 eE room keep C F U ns first cl B v98 (at_:Int) kk f true (p:Int)=if (us.map (idP ns)).any (askI N l)=true then kk v98 ((at_:Int) + 1) else kk (v98 ++ [idP ns at_]) ((at_:Int) + 1)
 | us,p,0,_,_,hf=>absurd hf (by omega)
 | us, p,f + 1,hu,ha,hf=>by
   have hat64:at_ < 64:=by
    obtain ⟨u,n,h1,h2,h3,h4,h5⟩:=h.up at_ hat
    rw [← h.len]
    exact (List.getElem?_eq_some_iff.1 h2).1
   have hid:eH (at_:Int) room keep C F U ns first cl=some (idP ns at_):=aAY h (u:=some at_) hat room keep C F U cl
   have hw:IntKind.wrap .i64 ((at_:Int) + 1)=(at_:Int) + 1:=w64 (by omega) (by omega)
   cases us with
   | nil =>
     obtain ⟨n,h1,h2⟩:=hu
     rw [eE,beq_self_eq_true,gdtt,dS,h1,bnoS,chk,if_pos (fun _=>h.len),gdtt,Int.toNat_natCast,h1,bnoS,bndD,h2,decide_eq_true rfl,Bool.not_true,bndD,Bool.and_false,bG,bX,hid,bnoS,kH (by simp; omega) (by simp; omega),bnoS,hw,bndD,if_neg (by simp)]
   | cons q us =>
     obtain ⟨⟨n,h1,h2⟩,h3⟩:=hu
     have hq:=ha q (by simp)
     have hm:=zP h hB hq
     rw [eE,beq_self_eq_true,gdtt,dS,h1,bnoS,chk,if_pos (fun _=>h.len),gdtt,Int.toNat_natCast,h1,bnoS,bndD,h2,decide_eq_false (by omega),Bool.not_false,bndD,Bool.and_self,bX,bnoS,chk,if_pos h.len,bnoS,h2,dS,hm,bnoS,chk,if_pos hB.len,Int.toNat_natCast,hm,bnoS,List.map_cons,List.any_cons]
     cases hc:askI N l (idP ns q) with
     | false =>
       rw [Bool.not_false,Bool.false_or]
       exact zF h hB room keep C F U cl hv hat kk us q f h3 (fun z hz=>ha z (by simp [hz])) (by simpa using hf)
     | true =>
       rw [Bool.not_true,Bool.true_or,if_pos rfl]
       obtain ⟨g,rfl⟩:∃ g,f=g + 1:=⟨f - 1,by simp at hf; omega⟩
       rw [eE,ft,gdff,bnoS,chk,if_pos (fun hh=>by cases hh),gdff,bnoS,bndD,bndD,Bool.false_and,bG,bG,hw,bndD]
structure aBr (A:AS) (ns:List Nk) (N:List Nd) (l:List Int) (k:Nat) (acc:List Int):Prop where
 nd:acc.Nodup
 ln:acc.length ≤ k
 me:∀ i,i ∈ acc ↔ ∃ p,p < k ∧ fH A p ∧ idP ns p=i ∧ nP N l i=true
theorem zG {A:AS} {ns:List Nk} {first:Int} {cl:List Int} {R K:Int} {N:List Nd} {E:List Int} (h:TS A ns first cl R K N E) {l:List Int} {B:List Bool} (hB:qQ A ns l B) (room keep:Int):∀ (m k f:Nat) (acc:List Int),k + m=64 → m < f → aBr A ns N l k acc →
 ∃ acc',aBr A ns N l 64 acc' ∧ eF room keep A.Cells A.Free A.Used ns first cl B f acc (k:Int)=(bno (fZ acc') fun x192=>chk (x192.length=acc'.length) <| some x192)
 | _,_,0,_,_,hf,_=>absurd hf (by omega)
 | 0,k,f + 1,acc,hk,hf,ha=>by
   have hk:k=64:=by omega
   subst hk
   exact ⟨acc,ha,by rw [eF,bndD,decide_eq_false (by omega),bG]⟩
 | m + 1,k,f + 1,acc,hk,hf,ha=>by
   obtain ⟨sp,kids,hR,h0⟩:=h.rl
   have hlt:k < B.length:=by rw [hB.len]; omega
   have hw:IntKind.wrap .i64 ((k:Int) + 1)=((k + 1:Nat):Int):=by rw [w64 (by omega) (by omega)]; omega
   have hln:=ha.ln
   rw [eF,bndD,decide_eq_true (by omega),bX,dS,List.getElem?_eq_getElem hlt,bnoS]
   have hskip:∀ (hno:¬ (fH A k ∧ nP N l (idP ns k)=true)),aBr A ns N l (k + 1) acc:=fun hno=>⟨ha.nd,by omega,fun i=>by
    rw [ha.me]
    constructor
    · rintro ⟨p,p1,p2⟩
      exact ⟨p,by omega,p2⟩
    · rintro ⟨p,p1,p2,p3,p4⟩
      by_cases e:p=k
      · subst e
        exact absurd ⟨p2,by rw [p3]; exact p4⟩ hno
      · exact ⟨p,by omega,p2,p3,p4⟩⟩
   have hadd:∀ (hk:fH A k) (hr:nP N l (idP ns k)=true),aBr A ns N l (k + 1) (acc ++ [idP ns k]):=fun hk hr=>⟨by
    refine List.nodup_append.2 ⟨ha.nd,by simp,fun a h1 b h2 e=>?_⟩
    rw [List.mem_singleton] at h2
    subst h2
    subst e
    obtain ⟨p,p1,p2,p3,p4⟩:=(ha.me _).1 h1
    have:=hR.inj p k p2 hk p3
    omega,by simp; omega,fun i=>by
    rw [List.mem_append,ha.me,List.mem_singleton]
    constructor
    · rintro (⟨p,p1,p2⟩ | rfl)
      · exact ⟨p,by omega,p2⟩
      · exact ⟨k,by omega,hk,rfl,hr⟩
    · rintro ⟨p,p1,p2,p3,p4⟩
      by_cases e:p=k
      · subst e
        exact .inr p3.symm
      · exact .inl ⟨p,by omega,p2,p3,p4⟩⟩
   have hrecn:=fun (acc:List Int) (hac:aBr A ns N l (k + 1) acc)=>zG h hB room keep m (k + 1) f acc (by omega) (by omega) hac
   cases hb:B[k] with
   | false =>
     have hno:¬ (fH A k ∧ nP N l (idP ns k)=true):=fun ⟨g1,g2⟩=>by
      have:=zP hR hB g1
      rw [List.getElem?_eq_getElem hlt,hb] at this
      unfold nP at g2
      rw [← Option.some.inj this] at g2
      cases g2
     obtain ⟨acc',r1,r2⟩:=hrecn acc (hskip hno)
     refine ⟨acc',r1,?_⟩
     obtain ⟨g,hg⟩:∃ g,fuel=g + 1:=⟨fuel - 1,by have:=eS (n:=1) (by decide); omega⟩
     rw [hg,eE,ft,gdff,bnoS,chk,if_pos (fun hh=>by cases hh),gdff,bnoS,bndD,bndD,Bool.false_and,bG,bG,hw,bndD]
     exact r2
   | true =>
     have hmk:=(hB.mr k).1 (by rw [List.getElem?_eq_getElem hlt,hb])
     obtain ⟨rk,hrk⟩:=h.fv.rk
     obtain ⟨us,u1,u2,u3,u4⟩:=vI hR (fun m hm=>(h.fv.ra m hm).1.1) hrk h.fv.pa hmk.1
     have hN:N.length ≤ 24:=h.fv.ln
     have hask:askI N l (idP ns k)=true:=(xY hR hmk.1).2 hmk.2
     have hw2:((k:Int) + 1)=((k + 1:Nat):Int):=by omega
     rw [zF hR hB room keep A.Cells A.Free A.Used cl (by omega) hmk.1 _ us k fuel u1 u2 (eS (by omega)),← u4,hw2]
     by_cases hany:(fV N N.length (idP ns k)).any (askI N l)=true
     · rw [if_pos hany]
       exact hrecn acc (hskip fun ⟨_,g2⟩=>by
        unfold nP at g2
        rw [hany,Bool.not_true,Bool.and_false] at g2
        cases g2)
     · rw [if_neg hany]
       exact hrecn _ (hadd hmk.1 (by
        unfold nP
        rw [hask,Bool.not_eq_true _ |>.mp hany]; rfl))
theorem zH {A:AS} {ns:List Nk} {first:Int} {cl:List Int} {R K:Int} {N:List Nd} {E:List Int} (h:TS A ns first cl R K N E) {l:List Int} (hl:l.length ≤ 1000) (room keep:Int):∀ (r q:List Int) (f:Nat) (B:List Bool),l=q ++ r → r.length < f → qQ A ns q B →
 ∃ B',qQ A ns l B' ∧ eR l room keep A.Cells A.Free A.Used ns first cl f (q.length:Int) B=eF room keep A.Cells A.Free A.Used ns first cl B' fuel [] 0
 | _,_,0,_,_,hf,_=>absurd hf (by omega)
 | [],q,f + 1,B,h1,hf,hB=>by
   rw [List.append_nil] at h1
   exact ⟨B,by rw [h1]; exact hB,by rw [eR,bndD,h1,decide_eq_false (by omega),bG,chk,if_pos hB.len]⟩
 | i :: r, q,f + 1,B,h1,hf,hB=>by
   obtain ⟨sp,kids,hR,h0⟩:=h.rl
   have hrec:=fun (B:List Bool) (hB:qQ A ns (q ++ [i]) B)=>zH h hl room keep r (q ++ [i]) f B (by rw [h1]; simp) (by simpa using hf) hB
   have hwq:=w_at h1 (show l.length ≤ 1000000 by omega)
   rw [eR,bndD,mM h1,bX,gY h1,bnoS]
   rcases qP h i room keep with ⟨f1,p,f2,f3,f4⟩ | ⟨f1,f4⟩
   · obtain ⟨u,n,k1,k2,k3,k4,k5⟩:=hR.up p f2
     have hlt:p < B.length:=by
      rw [hB.len,← hR.len]
      exact (List.getElem?_eq_some_iff.1 k2).1
     have hcl:(ns.getD p default).closed=n.closed:=by rw [List.getD_eq_getElem?_getD,k2]; rfl
     rw [f4,bnoS,bndD,decide_eq_false (by omega),Bool.not_false,beq_self_eq_true,gdtt,dS,k2,bnoS,chk,if_pos (fun _=>hR.len),gdtt,Int.toNat_natCast,k2,bnoS,bndD,Bool.true_and]
     cases hc:n.closed with
     | true =>
       rw [Bool.not_true,bG,hwq,bndD]
       refine hrec B ⟨hB.len,fun z=>?_⟩
       rw [hB.mr z,List.mem_append,List.mem_singleton]
       constructor
       · exact fun ⟨g1,g2,g3⟩=>⟨g1,.inl g2,g3⟩
       · rintro ⟨g1,g2 | g2,g3⟩
         · exact ⟨g1,g2,g3⟩
         · have:=hR.inj z p g1 f2 (g2.trans f3.symm)
           rw [this,hcl,hc] at g3; cases g3
     | false =>
       rw [Bool.not_false,bX,dS,List.getElem?_eq_getElem hlt,bnoS,chk,if_pos hB.len,bnoS,bndD,hwq,bndD]
       refine hrec _ ⟨by rw [List.length_set]; exact hB.len,fun z=>?_⟩
       rw [List.getElem?_set,List.mem_append,List.mem_singleton]
       by_cases e:p=z
       · subst e
         rw [if_pos rfl,if_pos hlt]
         exact ⟨fun _=>⟨f2,.inr f3,by rw [hcl,hc]⟩,fun _=>rfl⟩
       · rw [if_neg e,hB.mr z]
         constructor
         · exact fun ⟨g1,g2,g3⟩=>⟨g1,.inl g2,g3⟩
         · rintro ⟨g1,g2 | g2,g3⟩
           · exact ⟨g1,g2,g3⟩
           · exact absurd (hR.inj z p g1 f2 (g2.trans f3.symm)).symm e
   · rw [f4,bnoS,bndD,decide_eq_true rfl,Bool.not_true,ft,gdff,bnoS,chk,if_pos (fun hh=>by cases hh),gdff,bnoS,bndD,Bool.false_and,bG,hwq,bndD]
     refine hrec B ⟨hB.len,fun z=>?_⟩
     rw [hB.mr z,List.mem_append,List.mem_singleton]
     constructor
     · exact fun ⟨g1,g2,g3⟩=>⟨g1,.inl g2,g3⟩
     · rintro ⟨g1,g2 | g2,g3⟩
       · exact ⟨g1,g2,g3⟩
       · obtain ⟨u,n,k1,k2,k3,k4,k5⟩:=hR.up z g1
         exact absurd ⟨_,k5,(cR k2).symm.trans g2⟩ f1
theorem aCU {A:AS} {ns:List Nk} {first:Int} {cl:List Int} {R K:Int} {N:List Nd} {E:List Int} (h:TS A ns first cl R K N E) {l:List Int} (hl:l.length ≤ 1000) (room keep:Int) :
 ∃ w,gG l room keep A.Cells A.Free A.Used ns first cl=some w ∧ w.Pairwise (· < ·) ∧ w.length ≤ 24 ∧ (∀ i,i ∈ w ↔ hasN N i ∧ nP N l i=true):=by
 obtain ⟨sp,kids,hR,h0⟩:=h.rl
 have hN:N.length ≤ 24:=h.fv.ln
 have hm0:qQ A ns [] (List.replicate 64 false):=⟨by rw [List.length_replicate],fun p=>by
  constructor
  · intro hh
    have:=List.mem_of_getElem? hh
    rw [List.mem_replicate] at this
    cases this.2
  · rintro ⟨_,g,_⟩
    cases g⟩
 obtain ⟨B,b1,b2⟩:=zH h hl room keep l [] fuel (List.replicate 64 false) rfl (eS (by omega)) hm0
 obtain ⟨acc,a1,a2⟩:=zG h b1 room keep 64 0 fuel [] rfl (eS (by decide)) ⟨List.nodup_nil,Nat.le_refl _,fun i=>⟨fun hh=>(List.not_mem_nil hh).elim,fun ⟨p,p1,_⟩=>absurd p1 (by omega)⟩⟩
 have hin:∀ i,i ∈ acc ↔ hasN N i ∧ nP N l i=true:=fun i=>by
  rw [a1.me]
  constructor
  · rintro ⟨p,p1,p2,p3,p4⟩
    obtain ⟨u,n,k1,k2,k3,k4,k5⟩:=hR.up p p2
    exact ⟨⟨_,k5,(cR k2).symm.trans p3⟩,p4⟩
  · rintro ⟨⟨m,hm,e⟩,g⟩
    obtain ⟨p,n,u,k1,k2,k3,k4,rfl⟩:=hR.bw m hm
    refine ⟨p,?_,k1,(cR k3).trans e,g⟩
    rw [← hR.len]
    exact (List.getElem?_eq_some_iff.1 k3).1
 have hlen:acc.length ≤ 24:=by
  have:=pY a1.nd (m:=N.map (·.ID)) fun i hi=>by
   obtain ⟨⟨m,hm,e⟩,_⟩:=(hin i).1 hi
   exact List.mem_map.2 ⟨m,hm,e⟩
  rw [List.length_map] at this
  omega
 obtain ⟨w,w1,w2,w3⟩:=aAl hlen a1.nd
 refine ⟨w,?_,w3,by rw [w2.length_eq]; exact hlen,fun i=>by rw [w2.mem_iff]; exact hin i⟩
 unfold gG
 rw [bndD]
 refine Eq.trans b2 (Eq.trans a2 ?_)
 unfold fZ
 rw [w1,bnoS,chk,if_pos w2.length_eq]
end Go.Fn
open Go Go.IL
namespace Go.Fn
def In (M:List Int) (n:Nat) (l:List Int):Prop:=l.length=n ∧ ∀ x ∈ l,x ∈ M
section
variable {α β:Type} {Q:α → Prop} {M:List Int} {n:Nat} {l:List Int}
end
section
variable {M:List Int} {n:Nat}
end
end Go.Fn
open Go Go.IL
namespace Go.Fn
section
variable {M:List Int} {n:Nat}
end
section
variable {M:List Int} {n:Nat} {rec0:Int → Int → Int → List Int → Option (List Int)} {kk:List Int → Int → Int → Int → Bool → Bool → Option (List Int)} {a b lim:Int} {c d:Bool}
end
section
variable {M:List Int} {n:Nat} {rec0:Int → Int → Int → List Int → Option (List Int)}
end
end Go.Fn
open Go Go.IL
namespace Go.Fn
end Go.Fn
open Go Go.IL
namespace Go.Fn
abbrev T19:=aL
inductive Pl (N:List Nd) (id:Int):Int → Prop
 | yes (A:List Nd) (y:Nd) (C:List Nd) (h:N=A ++ y :: C) (e:y.ID=id) (ha:∀ a ∈ A,a.ID ≠ id):Pl N id (A.length:Int)
 | no (h:∀ n ∈ N,n.ID ≠ id):Pl N id (-1)
theorem pl_L {t:T19} {id:Int} (hl:t.L.length ≤ 1000):∀ (r p:List Nd) (f:Nat),t.L=p ++ r → (∀ a ∈ p,a.ID ≠ id) → r.length < f → ∃ i,cS t id f (p.length:Int)=some i ∧ Pl t.L id i
 | [],p,f + 1,hN,ha,_=>by
   rw [List.append_nil] at hN
   rw [cS]
   simp only [bndD,hN,mG,bG]
   exact ⟨_,rfl,.no ha⟩
 | n :: r,p,f + 1,hN,ha,hf=>by
   rw [cS]
   simp only [bndD,mM hN,bX,gY hN,bnoS,w_at hN (show t.L.length ≤ 1000000 by omega)]
   by_cases h:n.ID=id
   · rw [decide_eq_true h,bX]
     exact ⟨_,rfl,.yes p n r hN h ha⟩
   · rw [decide_eq_false h,bG]
     exact pl_L hl r (p ++ [n]) f (kI hN) (fun a hm=>by
      rcases List.mem_append.1 hm with hm | hm
      · exact ha a hm
      · rw [List.mem_singleton.1 hm]; exact h) (by simpa using hf)
theorem uW {t:T19} (hl:t.L.length ≤ 1000) (id:Int):∃ i,bI t id=some i ∧ Pl t.L id i :=
 pl_L hl t.L [] fuel rfl (fun _ h=>(List.not_mem_nil h).elim) (eS (by omega))
theorem pl_no {t:T19} (hl:t.L.length ≤ 1000) {id:Int} (h:∀ n ∈ t.L,n.ID ≠ id):bI t id=some (-1):=by
 obtain ⟨i,h1,h2⟩:=uW hl id
 cases h2 with
 | yes A y C hN e _=>exact absurd e (h y (by rw [hN]; simp))
 | no _=>exact h1
theorem wY {t:T19} (hl:t.L.length ≤ 1000) {id:Int} {A C:List Nd} {y:Nd} (h:t.L=A ++ y :: C) (e:y.ID=id) (ha:∀ a ∈ A,a.ID ≠ id):bI t id=some (A.length:Int):=by
 have key:∀ (B p:List Nd) (f:Nat),t.L=p ++ (B ++ y :: C) → (∀ a ∈ B,a.ID ≠ id) → B.length < f → cS t id f (p.length:Int)=some (((p ++ B).length:Nat):Int):=fun B=>by
  induction B with
  | nil =>
    intro p f hN _ hf
    obtain ⟨f,rfl⟩:∃ g,f=g + 1:=⟨f - 1,by omega⟩
    have hN:t.L=p ++ y :: C:=hN
    rw [cS]
    simp only [bndD,mM hN,bX,gY hN,bnoS,decide_eq_true e,List.append_nil]
  | cons b B ih =>
    intro p f hN hb hf
    obtain ⟨f,rfl⟩:∃ g,f=g + 1:=⟨f - 1,by omega⟩
    have hN:t.L=p ++ b :: (B ++ y :: C):=hN
    have hr:=ih (p ++ [b]) f (kI hN) (fun a ha=>hb a (by simp [ha])) (by simpa using hf)
    rw [cS]
    simp only [bndD,mM hN,bX,gY hN,bnoS,decide_eq_false (hb b (by simp)),bG,w_at hN (show t.L.length ≤ 1000000 by omega)]
    rw [hr]; simp
 have hA:A.length ≤ 1000:=by rw [h] at hl; simp at hl; omega
 exact key A [] fuel h ha (eS (by omega))
theorem par_pl {N A C:List Nd} {y:Nd} {id:Int} (h:N=A ++ y :: C) (e:y.ID=id) (ha:∀ a ∈ A,a.ID ≠ id):nI N id=some y.Parent:=by
 unfold nI
 rw [h,List.find?_append]
 have h1:A.find? (fun n=>decide (n.ID=id))=none:=List.find?_eq_none.2 (fun a hm=>by simpa using ha a hm)
 rw [h1]
 simp [e]
theorem yG {t:T19} (hl:t.L.length ≤ 1000) (h0:∀ n ∈ t.L,n.ID ≠ 0):∀ (k f turn:Nat) (id i:Int) (acc:List Int),Pl t.L id i → turn + k=t.L.length + 1 → k < f → acc.length ≤ turn → cV t f acc i (turn:Int)=some (acc ++ fV t.L k id)
 | k,0,_,_,_,_,_,_,hf,_=>absurd hf (by omega)
 | 0,f + 1,turn,id,i,acc,_,ht,_,_=>by
   rw [cV]
   simp only [bndD,decide_eq_false (show ¬ (turn:Int) ≤ (t.L.length:Int) by omega),Bool.false_and,bG]
   unfold fV; rw [List.append_nil]
 | k + 1,f + 1,turn,id,i,acc,hp,ht,hf,ha=>by
   rw [cV]
   unfold fV
   cases hp with
   | no h =>
     rw [zN h]
     simp only [bndD,show decide (0 ≤ (-1:Int))=false from rfl,Bool.and_false,bG,List.append_nil]
   | yes A y C hN e hA =>
     have hg:gix t.L (A.length:Int)=some y:=gY hN
     obtain ⟨j,hj,hp2⟩:=uW hl y.Parent
     rw [par_pl hN e hA]
     simp only [bndD,decide_eq_true (show (turn:Int) ≤ (t.L.length:Int) by omega),decide_eq_true (show (0:Int) ≤ (A.length:Int) by omega),Bool.and_self,bX,hg,bnoS]
     have hw:IntKind.wrap .i64 ((turn:Int) + 1)=((turn + 1:Nat):Int):=by rw [w64 (by omega) (by omega)]; omega
     by_cases hz:y.Parent=0
     · have hr:=yG hl h0 k f (turn + 1) y.Parent j acc hp2 (by omega) (by omega) (by omega)
       have hnil:fV t.L k y.Parent=[]:=by
        cases k with
        | zero=>rfl
        | succ k=>unfold fV; rw [zN (fun n hn=>by rw [hz]; exact h0 n hn)]
       rw [hnil] at hr
       rw [decide_eq_true hz]
       show eW t (turn:Int) (cV t f) y acc=_
       unfold eW
       rw [hj,bnoS,bndD,hw,hr,if_pos hz]
     · have hr:=yG hl h0 k f (turn + 1) y.Parent j (acc ++ [y.Parent]) hp2 (by omega) (by omega) (by rw [List.length_append,List.length_singleton]; omega)
       rw [decide_eq_false hz]
       show bno (app 8 acc [y.Parent]) _=_
       rw [kH (by rw [List.length_singleton]; omega) (by rw [List.length_singleton]; omega),bnoS]
       unfold eW
       rw [hj,bnoS,bndD,hw,hr,if_neg hz,List.append_assoc]; rfl
theorem rpath {t:T19} (hl:t.L.length ≤ 1000) (h0:∀ n ∈ t.L,n.ID ≠ 0) (id:Int):dZ t id=some (fV t.L (t.L.length + 1) id):=by
 obtain ⟨i,hi,hp⟩:=uW hl id
 have:=yG hl h0 (t.L.length + 1) fuel 0 id i [] hp (by omega) (eS (by omega)) (Nat.le_refl _)
 unfold dZ
 rw [hi,bnoS]
 exact this
theorem in_L {l:List Int} {x:Int} (hl:l.length ≤ 1000000):∀ (r p:List Int) (f:Nat),l=p ++ r → r.length < f → gQ l x f (p.length:Int)=some (decide (x ∈ r))
 | [],p,f + 1,h,_=>by
   rw [List.append_nil] at h
   rw [gQ]
   simp only [bndD,h,mG,bG]
   simp
 | y :: r,p,f + 1,h,hf=>by
   have hr:=in_L (x:=x) hl r (p ++ [y]) f (kI h) (by simpa using hf)
   rw [gQ]
   simp only [bndD,mM h,bX,gY h,bnoS,w_at h hl]
   by_cases e:y=x
   · rw [decide_eq_true e,bX,decide_eq_true (show x ∈ y :: r by rw [e]; simp)]
   · rw [decide_eq_false e,bG,hr]
     have:x ∈ y :: r ↔ x ∈ r:=by
      constructor
      · intro h; exact (List.mem_cons.1 h).resolve_left (fun e2=>e e2.symm)
      · intro h; exact List.mem_cons_of_mem _ h
     simp only [this]
theorem in19 {l:List Int} {x:Int} (hl:l.length ≤ 1000000):jW l x=some (decide (x ∈ l)):=in_L hl l [] fuel rfl (eS (by omega))
def pO (N:List Nd) (id:Int):List Int:=(N.filter fun n=>decide (n.Parent=id)).map (·.ID)
theorem aCj {t:T19} (hl:t.L.length ≤ 1000) {id:Int}:∀ (r p:List Nd) (f:Nat),t.L=p ++ r → r.length < f → dP t id f (pO p id) (p.length:Int)=some (pO t.L id)
 | [],p,f + 1,h,_=>by
   rw [List.append_nil] at h
   rw [dP]
   simp only [bndD,h,mG,bG]
 | n :: r,p,f + 1,h,hf=>by
   have hr:=aCj hl (id:=id) r (p ++ [n]) f (kI h) (by simpa using hf)
   have hk:(pO p id).length ≤ 1000:=by
    unfold pO
    rw [List.length_map]
    have:=List.length_filter_le (fun n=>decide (n.Parent=id)) p
    rw [h] at hl; simp at hl; omega
   have e:pO (p ++ [n]) id=if n.Parent=id then pO p id ++ [n.ID] else pO p id:=by
    unfold pO
    rw [List.filter_append,List.map_append]
    by_cases hn:n.Parent=id <;> simp [hn]
   rw [e] at hr
   rw [dP]
   simp only [bndD,mM h,bX,gY h,bnoS,w_at h (show t.L.length ≤ 1000000 by omega)]
   by_cases hn:n.Parent=id
   · rw [if_pos hn] at hr
     rw [decide_eq_true hn,bX,kH (by simp; omega) (by simp; omega),bnoS]
     exact hr
   · rw [if_neg hn] at hr
     rw [decide_eq_false hn,bG]
     exact hr
theorem aBM {t:T19} (hl:t.L.length ≤ 1000) (id:Int):eZ t id=some (pO t.L id) :=
 aCj hl t.L [] fuel rfl (eS (by omega))
theorem wo_L {l:List Int} {x:Int} (hl:l.length ≤ 1000):∀ (r p:List Int) (f:Nat),l=p ++ r → r.length < f → eK l x f (p.filter fun y=>!decide (y=x)) (p.length:Int)=some (l.filter fun y=>!decide (y=x))
 | [],p,f + 1,h,_=>by
   rw [List.append_nil] at h
   rw [eK]
   simp only [bndD,h,mG,bG]
 | y :: r,p,f + 1,h,hf=>by
   have hr:=wo_L (x:=x) hl r (p ++ [y]) f (kI h) (by simpa using hf)
   have hk:(p.filter fun y=>!decide (y=x)).length ≤ 1000:=by
    have:=List.length_filter_le (fun y=>!decide (y=x)) p
    rw [h] at hl; simp at hl; omega
   rw [List.filter_append] at hr
   rw [eK]
   simp only [bndD,mM h,bX,gY h,bnoS,w_at h (show l.length ≤ 1000000 by omega)]
   by_cases e:y=x
   · rw [show [y].filter (fun y=>!decide (y=x))=[] by simp [e],List.append_nil] at hr
     rw [decide_eq_true e]
     exact hr
   · rw [show [y].filter (fun y=>!decide (y=x))=[y] by simp [e]] at hr
     rw [decide_eq_false e]
     show bno (app 8 (p.filter fun y=>!decide (y=x)) [y]) _=_
     rw [kH (by simp; omega) (by simp; omega),bnoS]
     exact hr
theorem wo19 {l:List Int} {x:Int} (hl:l.length ≤ 1000):hZ l x=some (l.filter fun y=>!decide (y=x)):=wo_L hl l [] fuel rfl (eS (by omega))
theorem aCa {t:T19} (hl:t.L.length ≤ 1000) {A C:List Nd} {y z:Nd} (h:t.L=A ++ y :: C) (e:y.ID=z.ID) (ha:∀ a ∈ A,a.ID ≠ z.ID):dK t z=some ⟨t.Room,t.Keep,A ++ z :: C,t.Closed⟩:=by
 unfold dK
 rw [kH (by simp; omega) (by simp; omega),bnoS,List.nil_append,wY hl h e ha,bnoS,gY h,bnoS,get_app h,bnoS,bndD]
 rw [show t.L.set ((A.length:Nat):Int).toNat z=A ++ z :: C by rw [h]; exact set_app]
end Go.Fn
open Go Go.IL
namespace Go.Fn
section
variable {st:Fs}
end
end Go.Fn
open Go Go.IL
namespace Go.Fn
section
variable {N:List Nd}
end
structure GV (st:Fs):Prop where
 rm:1 ≤ st.Room ∧ st.Room ≤ 24
 kp:0 ≤ st.Keep ∧ st.Keep ≤ st.Room
 ln:(st.Nodes.length:Int) ≤ st.Room
 el:(st.Ended.length:Int) ≤ st.Keep
 fv:FV 24 ⟨24,24,st.Nodes,st.Ended⟩
end Go.Fn
open Go Go.IL
namespace Go.Fn
def sel (h:Nd → Nd) (ks:List Int) (n:Nd):Nd:=if n.ID ∈ ks then h n else n
theorem zA {h:Nd → Nd} (hid:∀ n,(h n).ID=n.ID) (ks:List Int) (n:Nd):(sel h ks n).ID=n.ID:=by unfold sel; split; exact hid n; rfl
theorem tI {h:Nd → Nd} (N:List Nd):N.map (sel h [])=N:=by
 conv=>rhs; rw [← List.map_id N]
 exact List.map_congr_left (fun n _=>by unfold sel; simp)
section
variable {N:List Nd} {R K:Int} {E:List Int}
theorem qW {h:Nd → Nd} (hid:∀ n,(h n).ID=n.ID) (hs:N.Pairwise (fun a b=>a.ID < b.ID)) (hl:N.length ≤ 1000) {y:Nd} (hy:y ∈ N) {pre:List Int} (hp:y.ID ∉ pre) :
 ∃ A C,N.map (sel h pre)=A ++ y :: C ∧ bI ⟨R,K,N.map (sel h pre),E⟩ y.ID=some (A.length:Int) ∧ ∀ z:Nd,z.ID=y.ID → z=h y → dK ⟨R,K,N.map (sel h pre),E⟩ z=some ⟨R,K,N.map (sel h (pre ++ [y.ID])),E⟩:=by
 obtain ⟨A,C,hN⟩:=List.append_of_mem hy
 have hs2:=hs
 rw [hN] at hs2
 obtain ⟨hA,hC⟩:=uF hs2
 have hys:sel h pre y=y:=by unfold sel; rw [if_neg hp]
 have hsame:∀ n,n.ID ≠ y.ID → sel h (pre ++ [y.ID]) n=sel h pre n:=fun n hn=>by
  unfold sel
  have:n.ID ∈ pre ++ [y.ID] ↔ n.ID ∈ pre:=by simp [hn]
  simp only [this]
 have h1:N.map (sel h pre)=A.map (sel h pre) ++ y :: C.map (sel h pre):=by
  rw [hN,List.map_append,List.map_cons,hys]
 have h2:N.map (sel h (pre ++ [y.ID]))=A.map (sel h pre) ++ h y :: C.map (sel h pre):=by
  rw [hN,List.map_append,List.map_cons,List.map_congr_left (fun n hn=>hsame n (hA n hn)),List.map_congr_left (fun n hn=>hsame n (hC n hn))]
  congr 2
  unfold sel
  rw [if_pos (by simp)]
 have hA2:∀ a ∈ A.map (sel h pre),a.ID ≠ y.ID:=fun a ha=>by
  obtain ⟨n,hn,e⟩:=List.mem_map.1 ha
  rw [← e,zA hid]
  exact hA n hn
 have hl2:(⟨R,K,N.map (sel h pre),E⟩:T19).L.length ≤ 1000:=by show (N.map (sel h pre)).length ≤ 1000; rw [List.length_map]; exact hl
 refine ⟨_,_,h1,wY hl2 h1 rfl hA2,fun z hz1 hz2=>?_⟩
 rw [aCa hl2 h1 hz1.symm (fun a ha=>by rw [hz1]; exact hA2 a ha),h2,hz2]
end
def wS:List Nd → Int
 | []=>0
 | n :: r=>n.Weight + wS r
theorem aCb:∀ a b:List Nd,wS (a ++ b)=wS a + wS b
 | [],b=>by show wS b=0 + wS b; omega
 | n :: a,b=>by
   have:=aCb a b
   show n.Weight + wS (a ++ b)=n.Weight + wS a + wS b
   omega
theorem aAh (id:Int):∀ N:List Nd,wS (N.filter fun n=>decide (n.Parent=id))=sumS N id
 | []=>rfl
 | n :: N=>by
   have:=aAh id N
   have e:sumS (n :: N) id=(if n.Parent=id then n.Weight else 0) + sumS N id:=rfl
   rw [e]
   by_cases h:n.Parent=id
   · rw [List.filter_cons_of_pos (by simp [h]),if_pos h]
     show n.Weight + wS _=_
     rw [this]
   · rw [List.filter_cons_of_neg (by simp [h]),if_neg h,this]; omega
theorem wS_bd:∀ {M:List Nd},(∀ n ∈ M,1 ≤ n.Weight ∧ n.Weight ≤ 256) → 0 ≤ wS M ∧ wS M ≤ 256 * M.length
 | [],_=>⟨Int.le_refl _,Int.le_refl _⟩
 | n :: M,h=>by
   have h1:=wS_bd (M:=M) (fun x hx=>h x (by simp [hx]))
   have h2:=h n (by simp)
   show 0 ≤ n.Weight + wS M ∧ n.Weight + wS M ≤ 256 * ((M.length + 1:Nat):Int)
   omega
section
variable {N:List Nd} {R K:Int} {E:List Int}
theorem zQ {M p r:List Nd} {n:Nd} (h:M=p ++ n :: r):M.map (·.ID)=p.map (·.ID) ++ n.ID :: r.map (·.ID):=by rw [h]; simp
theorem aAx (hs:N.Pairwise (fun a b=>a.ID < b.ID)) (hl:N.length ≤ 1000) (hw:∀ n ∈ N,1 ≤ n.Weight ∧ n.Weight ≤ 256) {id:Int} {x2:Nd} {M:List Nd} (hM:∀ n ∈ M,n ∈ N) (hml:M.length ≤ 1000) {res:Option T19} (hres:dW id x2 (M.map (·.ID)) (wS M) fuel 0 R K N E=res):∀ (r p:List Nd) (f:Nat),M=p ++ r → r.length < f → eO ⟨R,K,N,E⟩ id x2 (M.map (·.ID)) f (wS p) (p.length:Int)=res
 | [],p,f + 1,h,_=>by
   rw [List.append_nil] at h
   subst h
   rw [eO]
   have:decide ((M.length:Int) < ((M.map (·.ID)).length:Int))=false:=by rw [List.length_map]; exact mG
   simp only [bndD,this,bG]
   exact hres
 | n :: r,p,f + 1,h,hf=>by
   have hrec:=aAx hs hl hw hM hml hres r (p ++ [n]) f (kI h) (by simpa using hf)
   have hn:=hM n (by rw [h]; simp)
   have hwn:=hw n hn
   have hpb:=wS_bd (M:=p) (fun x hx=>hw x (hM x (by rw [h]; simp [hx])))
   have hpl:p.length ≤ 1000:=by rw [h] at hml; simp at hml; omega
   have hmp:=zQ h
   have hlen:(p.map (·.ID)).length=p.length:=List.length_map ..
   obtain ⟨A,C,hA,hpl2,_⟩:=qW (h:=fun n=>n) (fun _=>rfl) hs hl (R:=R) (K:=K) (E:=E) hn (pre:=[]) List.not_mem_nil
   rw [tI] at hA hpl2
   have h1:=mM hmp
   have h2:=gY hmp
   have h3:=w_at hmp (by rw [List.length_map]; omega)
   rw [hlen] at h1 h2 h3
   rw [List.length_append,hlen,← hlen,← List.length_append] at h3
   have h3:IntKind.wrap .i64 ((p.length:Int) + 1)=((p ++ [n]).length:Int):=w_at h (by omega)
   rw [aCb,show wS [n]=n.Weight + 0 from rfl,Int.add_zero] at hrec
   rw [eO]
   simp only [bndD,h1,bX,h2,bnoS,hpl2,gY hA,w64 (show -9223372036854775808 ≤ wS p + n.Weight by omega) (by omega),h3]
   exact hrec
theorem aAv {id:Int} (hl:N.length ≤ 1000) (he:E.length ≤ 1000):∀ (r p:List Nd) (f:Nat),N=p ++ r → r.length < f → dV id R K N E f (p.filter fun n=>!decide (n.ID=id)) (p.length:Int)=some ⟨R,K,N.filter fun n=>!decide (n.ID=id),E.filter fun y=>!decide (y=id)⟩
 | [],p,f + 1,h,_=>by
   rw [List.append_nil] at h
   rw [dV]
   simp only [bndD,h,mG,bG,wo19 he,bnoS]
 | n :: r,p,f + 1,h,hf=>by
   have hr:=aAv (id:=id) hl he r (p ++ [n]) f (kI h) (by simpa using hf)
   have hk:(p.filter fun n=>!decide (n.ID=id)).length ≤ 1000:=by
    have:=List.length_filter_le (fun n:Nd=>!decide (n.ID=id)) p
    rw [h] at hl; simp at hl; omega
   rw [List.filter_append] at hr
   rw [dV]
   simp only [bndD,mM h,bX,gY h,bnoS,w_at h (show N.length ≤ 1000000 by omega)]
   by_cases e:n.ID=id
   · rw [show [n].filter (fun n:Nd=>!decide (n.ID=id))=[] by simp [e],List.append_nil] at hr
     rw [decide_eq_true e]
     exact hr
   · rw [show [n].filter (fun n:Nd=>!decide (n.ID=id))=[n] by simp [e]] at hr
     rw [decide_eq_false e]
     show bno (app 32 (p.filter fun n=>!decide (n.ID=id)) [n]) _=_
     rw [kH (by rw [List.length_singleton]; omega) (by rw [List.length_singleton]; omega),bnoS]
     exact hr
def goN (y:Nd) (S:Int) (n:Nd):Nd:=⟨n.ID,y.Parent,max 1 (y.Weight * n.Weight / S),n.Closed⟩
theorem aAw (hs:N.Pairwise (fun a b=>a.ID < b.ID)) (hl:N.length ≤ 1000) (he:E.length ≤ 1000) (hw:∀ n ∈ N,1 ≤ n.Weight ∧ n.Weight ≤ 256) {id:Int} {y:Nd} (hy:1 ≤ y.Weight ∧ y.Weight ≤ 256) {M:List Nd} (hM:∀ n ∈ M,n ∈ N) (hml:M.length ≤ 1000) {S:Int} (hS:∀ n ∈ M,n.Weight ≤ S) (hnd:(M.map (·.ID)).Nodup):∀ (r p:List Nd) (f:Nat),M=p ++ r → r.length < f → dW id y (M.map (·.ID)) S f (p.length:Int) R K (N.map (sel (goN y S) (p.map (·.ID)))) E=some ⟨R,K,(N.map (sel (goN y S) (M.map (·.ID)))).filter fun n=>!decide (n.ID=id),E.filter fun y=>!decide (y=id)⟩
 | [],p,f + 1,h,_=>by
   rw [List.append_nil] at h
   subst h
   rw [dW]
   have:decide ((M.length:Int) < ((M.map (·.ID)).length:Int))=false:=by rw [List.length_map]; exact mG
   simp only [bndD,this,bG]
   exact aAv (by rw [List.length_map]; exact hl) he _ [] fuel rfl (eS (by rw [List.length_map]; omega))
 | n :: r,p,f + 1,h,hf=>by
   have hrec:=aAw hs hl he hw (id:=id) hy hM hml hS hnd r (p ++ [n]) f (kI h) (by simpa using hf)
   have hnM:n ∈ M:=by rw [h]; simp
   have hn:=hM n hnM
   have hwn:=hw n hn
   have hSn:=hS n hnM
   have hmp:=zQ h
   have hlen:(p.map (·.ID)).length=p.length:=List.length_map ..
   have hnp:n.ID ∉ p.map (·.ID):=fun hh=>by
    rw [hmp] at hnd
    exact (List.nodup_append.1 hnd).2.2 n.ID hh n.ID (by simp) rfl
   obtain ⟨A,C,hA,hpl2,hwith⟩:=qW (h:=goN y S) (fun _=>rfl) hs hl (R:=R) (K:=K) (E:=E) hn hnp
   have h1:=mM hmp
   have h2:=gY hmp
   rw [hlen] at h1 h2
   have h3:IntKind.wrap .i64 ((p.length:Int) + 1)=((p ++ [n]).length:Int):=w_at h (by omega)
   have g1:1 ≤ y.Weight * n.Weight:=by
    have:=Int.mul_le_mul hy.1 hwn.1 (by decide) (by omega)
    simpa using this
   have g2:y.Weight * n.Weight ≤ 65536:=by
    have:=Int.mul_le_mul hy.2 hwn.2 (by omega) (by decide)
    simpa using this
   have hd0:0 ≤ y.Weight * n.Weight / S:=Int.ediv_nonneg (by omega) (by omega)
   have hd1:y.Weight * n.Weight / S ≤ y.Weight * n.Weight:=Int.ediv_le_self _ (by omega)
   have hquo:quoI .i64 (y.Weight * n.Weight) S=some (y.Weight * n.Weight / S):=by
    unfold quoI
    rw [if_neg (by omega),Int.tdiv_eq_ediv_of_nonneg (by omega),w64 (by omega) (by omega)]
   have hwi:=hwith ⟨n.ID,y.Parent,max 1 (y.Weight * n.Weight / S),n.Closed⟩ rfl rfl
   rw [List.map_append,show [n].map (·.ID)=[n.ID] from rfl] at hrec
   rw [dW]
   simp only [bndD,h1,bX,h2,bnoS,hpl2,gY hA,w64 (show -9223372036854775808 ≤ y.Weight * n.Weight by omega) (by omega),hquo,hwi,h3]
   exact hrec
theorem roff19 (hs:N.Pairwise (fun a b=>a.ID < b.ID)) (hl:N.length ≤ 1000) (he:E.length ≤ 1000) (hw:∀ n ∈ N,1 ≤ n.Weight ∧ n.Weight ≤ 256) {A C:List Nd} {y:Nd} (hN:N=A ++ y :: C) (hp:y.Parent ≠ y.ID):eM ⟨R,K,N,E⟩ y.ID=some ⟨R,K,offS A y C,E.filter fun e=>!decide (e=y.ID)⟩:=by
 have hy:y ∈ N:=by rw [hN]; simp
 have hs2:=hs
 rw [hN] at hs2
 obtain ⟨hA,hC⟩:=uF hs2
 have hM:∀ n ∈ N.filter (fun n=>decide (n.Parent=y.ID)),n ∈ N:=fun n hn=>(List.mem_filter.1 hn).1
 have hml:(N.filter fun n=>decide (n.Parent=y.ID)).length ≤ 1000:=by
  have:=List.length_filter_le (fun n:Nd=>decide (n.Parent=y.ID)) N
  omega
 have hsum:sumS N y.ID=sumS (A ++ C) y.ID:=by
  rw [hN,tE,tE]
  have e:sumS (y :: C) y.ID=(if y.Parent=y.ID then y.Weight else 0) + sumS C y.ID:=rfl
  rw [e,if_neg hp]; omega
 have hS:∀ n ∈ N.filter (fun n=>decide (n.Parent=y.ID)),n.Weight ≤ sumS (A ++ C) y.ID:=fun n hn=>by
  obtain ⟨h1,h2⟩:=List.mem_filter.1 hn
  have h2:n.Parent=y.ID:=of_decide_eq_true h2
  have:=wR hw h1
  rw [h2,hsum] at this
  exact this
 have hnd:=rK (List.Pairwise.sublist (List.filter_sublist (p:=fun n=>decide (n.Parent=y.ID))) hs)
 have h1:=aAw (R:=R) (K:=K) hs hl he hw (id:=y.ID) (hw y hy) hM hml hS hnd (N.filter fun n=>decide (n.Parent=y.ID)) [] fuel rfl (eS (by omega))
 rw [show List.map (fun x:Nd=>x.ID) []=[] from rfl,tI] at h1
 have hwk:=aAh y.ID N
 rw [hsum] at hwk
 rw [← hwk] at h1
 have h0:=aAx (R:=R) (K:=K) (E:=E) hs hl hw hM hml h1 (N.filter fun n=>decide (n.Parent=y.ID)) [] fuel rfl (eS (by omega))
 have hfin:(N.map (sel (goN y (wS (N.filter fun n=>decide (n.Parent=y.ID)))) ((N.filter fun n=>decide (n.Parent=y.ID)).map (·.ID)))).filter (fun n=>!decide (n.ID=y.ID))=offS A y C:=by
  rw [hwk]
  generalize hg:sel (goN y (sumS (A ++ C) y.ID)) ((N.filter fun n=>decide (n.Parent=y.ID)).map (·.ID))=g
  have hgid:∀ n,(g n).ID=n.ID:=fun n=>by rw [← hg]; exact zA (h:=goN y (sumS (A ++ C) y.ID)) (fun _=>rfl) _ n
  have hgo:∀ n ∈ N,g n=offN y (sumS (A ++ C) y.ID) n:=fun n hn=>by
   rw [← hg]
   unfold sel offN goN
   have:n.ID ∈ (N.filter fun n=>decide (n.Parent=y.ID)).map (·.ID) ↔ n.Parent=y.ID:=by
    constructor
    · intro hh
      obtain ⟨m,hm,e⟩:=List.mem_map.1 hh
      obtain ⟨hm1,hm2⟩:=List.mem_filter.1 hm
      have:m=n:=nE hs hm1 hn e
      rw [← this]; exact of_decide_eq_true hm2
    · intro hh
      exact List.mem_map.2 ⟨n,List.mem_filter.2 ⟨hn,decide_eq_true hh⟩,rfl⟩
   simp only [this,Int.max_comm]
  have hkeep:∀ B:List Nd,(∀ b ∈ B,b ∈ N) → (∀ b ∈ B,b.ID ≠ y.ID) → (B.map g).filter (fun n=>!decide (n.ID=y.ID))=B.map (offN y (sumS (A ++ C) y.ID)):=fun B hB hne=>by
   rw [List.map_congr_left (fun b hb=>hgo b (hB b hb))]
   refine List.filter_eq_self.2 (fun n hn=>?_)
   obtain ⟨b,hb,e⟩:=List.mem_map.1 hn
   rw [← e,pN,decide_eq_false (hne b hb)]; rfl
  unfold offS
  conv=>lhs; rw [hN]
  rw [List.map_append,List.map_cons,List.filter_append,List.filter_cons_of_neg (by rw [hgid]; simp),hkeep A (fun b hb=>by rw [hN]; simp [hb]) hA,hkeep C (fun b hb=>by rw [hN]; simp [hb]) hC,List.map_append]
 rw [hfin] at h0
 unfold eM
 rw [wY (t:=⟨R,K,N,E⟩) hl hN rfl hA,bnoS]
 show bno (gix N (A.length:Int)) _=_
 rw [gY hN,bnoS,aBM (t:=⟨R,K,N,E⟩) hl,bnoS]
 exact h0
end
end Go.Fn
open Go Go.IL
namespace Go.Fn
def aBa (N:List Nd) (x d w:Int) (o b:Bool) (p:Int):List Nd:=bif b then (N.map (mvN d p)).map (kU x d w o) else N.map (kU x d w o)
section
variable {N:List Nd} {R K:Int} {E:List Int}
theorem mv_so (hs:N.Pairwise (fun a b=>a.ID < b.ID)) (d p:Int):(N.map (mvN d p)).Pairwise (fun a b=>a.ID < b.ID):=by
 rw [List.pairwise_map]
 exact hs.imp (fun hab=>by rw [kD,kD]; exact hab)
def tkN (x:Int) (n:Nd):Nd:=⟨n.ID,x,n.Weight,n.Closed⟩
def atN (d w:Int) (n:Nd):Nd:=⟨n.ID,d,w,n.Closed⟩
theorem aA4 (hs:N.Pairwise (fun a b=>a.ID < b.ID)) (hl:N.length ≤ 1000) {x d w:Int} {y z:Nd} (hz:z ∈ N) (hzx:z.ID=x) (hyx:y.ID=x) (hc:y.Closed=z.Closed):dK ⟨R,K,N,E⟩ (⟨y.ID,d,w,y.Closed⟩:Nd)=some ⟨R,K,N.map (sel (atN d w) [x]),E⟩:=by
 obtain ⟨A,C,hA,_,hwi⟩:=qW (h:=atN d w) (fun _=>rfl) hs hl (R:=R) (K:=K) (E:=E) hz (pre:=[]) List.not_mem_nil
 rw [tI] at hwi
 have:=hwi ⟨y.ID,d,w,y.Closed⟩ (hyx.trans hzx.symm) (by show _=(⟨z.ID,d,w,z.Closed⟩:Nd); rw [hyx,hzx,hc])
 rw [this,List.nil_append,hzx]
theorem aCg (hs:N.Pairwise (fun a b=>a.ID < b.ID)) (hl:N.length ≤ 1000) {x d w:Int} {o:Bool} {y z:Nd} (hz:z ∈ N) (hzx:z.ID=x) (hyx:y.ID=x) (hc:y.Closed=z.Closed) {M:List Nd} (hM:∀ n ∈ M,n ∈ N) (hml:M.length ≤ 1000) (hnd:(M.map (·.ID)).Nodup) (hxm:x ∉ M.map (·.ID)) (ho:o=true):∀ (r p:List Nd) (f:Nat),M=p ++ r → r.length < f → dU x d w o y (M.map (·.ID)) f (p.length:Int) R K (N.map (sel (tkN x) (p.map (·.ID)))) E=some ⟨R,K,(N.map (sel (tkN x) (M.map (·.ID)))).map (sel (atN d w) [x]),E⟩
 | [],p,f + 1,h,_=>by
   rw [List.append_nil] at h
   subst h
   have hso:(N.map (sel (tkN x) (M.map (·.ID)))).Pairwise (fun a b=>a.ID < b.ID):=by
    rw [List.pairwise_map]
    exact hs.imp (fun hab=>by rw [zA (h:=tkN x) (fun _=>rfl),zA (h:=tkN x) (fun _=>rfl)]; exact hab)
   have hzs:sel (tkN x) (M.map (·.ID)) z=z:=by unfold sel; rw [if_neg (by rw [hzx]; exact hxm)]
   have hend:=aA4 (R:=R) (K:=K) (E:=E) (d:=d) (w:=w) hso (by rw [List.length_map]; exact hl) (List.mem_map.2 ⟨z,hz,hzs⟩) hzx hyx hc
   rw [dU]
   have:decide ((M.length:Int) < ((M.map (·.ID)).length:Int))=false:=by rw [List.length_map]; exact mG
   simp only [bndD,this,Bool.false_and,bG,hend,bnoS]
 | n :: r,p,f + 1,h,hf=>by
   have hrec:=aCg hs hl (d:=d) (w:=w) hz hzx hyx hc hM hml hnd hxm ho r (p ++ [n]) f (kI h) (by simpa using hf)
   have hnM:n ∈ M:=by rw [h]; simp
   have hn:=hM n hnM
   have hmp:=zQ h
   have hlen:(p.map (·.ID)).length=p.length:=List.length_map ..
   have hnp:n.ID ∉ p.map (·.ID):=fun hh=>by
    rw [hmp] at hnd
    exact (List.nodup_append.1 hnd).2.2 n.ID hh n.ID (by simp) rfl
   obtain ⟨A,C,hA,hpl2,hwith⟩:=qW (h:=tkN x) (fun _=>rfl) hs hl (R:=R) (K:=K) (E:=E) hn hnp
   have h1:=mM hmp
   have h2:=gY hmp
   rw [hlen] at h1 h2
   have h3:IntKind.wrap .i64 ((p.length:Int) + 1)=((p ++ [n]).length:Int):=w_at h (by omega)
   have hwi:=hwith ⟨n.ID,x,n.Weight,n.Closed⟩ rfl rfl
   rw [List.map_append,show [n].map (·.ID)=[n.ID] from rfl] at hrec
   rw [dU]
   simp only [bndD,h1,ho,Bool.and_self,bX,h2,bnoS,hpl2,gY hA,hwi,h3]
   rw [ho] at hrec
   exact hrec
theorem aCh (hs:N.Pairwise (fun a b=>a.ID < b.ID)) (hl:N.length ≤ 1000) {x d w:Int} {o:Bool} {y z:Nd} (hz:z ∈ N) (hzx:z.ID=x) (hyx:y.ID=x) (hc:y.Closed=z.Closed):gA x d w o y R K N E=some ⟨R,K,N.map (kU x d w o),E⟩:=by
 have hkl:(pO N d).length ≤ 1000:=by
  unfold pO
  rw [List.length_map]
  have:=List.length_filter_le (fun n:Nd=>decide (n.Parent=d)) N
  omega
 have hks:(pO N d).filter (fun e=>!decide (e=x))=((N.filter fun n=>decide (n.Parent=d)).filter fun n=>!decide (n.ID=x)).map (·.ID):=by
  unfold pO
  rw [List.filter_map]; rfl
 have hpt:∀ (g:Nd → Nd),(∀ n ∈ N,g n=kU x d w o n) → N.map g=N.map (kU x d w o):=fun g hg=>List.map_congr_left hg
 unfold gA
 rw [aBM (t:=⟨R,K,N,E⟩) hl,bnoS]
 show bno (hZ (pO N d) x) _=_
 rw [wo19 hkl,bnoS,hks]
 have hM:∀ n ∈ (N.filter fun n=>decide (n.Parent=d)).filter (fun n=>!decide (n.ID=x)),n ∈ N ∧ n.Parent=d ∧ n.ID ≠ x:=fun n hn=>by
  obtain ⟨h1,h2⟩:=List.mem_filter.1 hn
  obtain ⟨h3,h4⟩:=List.mem_filter.1 h1
  exact ⟨h3,of_decide_eq_true h4,by simpa using h2⟩
 have hin:∀ n ∈ N,n.ID ∈ ((N.filter fun n=>decide (n.Parent=d)).filter fun n=>!decide (n.ID=x)).map (·.ID) ↔ n.Parent=d ∧ n.ID ≠ x:=fun n hn=>by
  constructor
  · intro hh
    obtain ⟨m,hm,e⟩:=List.mem_map.1 hh
    obtain ⟨a,b,c⟩:=hM m hm
    have:m=n:=nE hs a hn e
    rw [← this]; exact ⟨b,c⟩
  · intro ⟨a,b⟩
    exact List.mem_map.2 ⟨n,List.mem_filter.2 ⟨List.mem_filter.2 ⟨hn,decide_eq_true a⟩,by simp [b]⟩,rfl⟩
 have hnd:(((N.filter fun n=>decide (n.Parent=d)).filter fun n=>!decide (n.ID=x)).map (·.ID)).Nodup:=rK (List.Pairwise.sublist List.filter_sublist (List.Pairwise.sublist List.filter_sublist hs))
 have hml:((N.filter fun n=>decide (n.Parent=d)).filter fun n=>!decide (n.ID=x)).length ≤ 1000:=by
  have h1:=List.length_filter_le (fun n:Nd=>!decide (n.ID=x)) (N.filter fun n=>decide (n.Parent=d))
  have h2:=List.length_filter_le (fun n:Nd=>decide (n.Parent=d)) N
  omega
 have hxm:x ∉ ((N.filter fun n=>decide (n.Parent=d)).filter fun n=>!decide (n.ID=x)).map (·.ID):=fun hh=>by
  obtain ⟨m,hm,e⟩:=List.mem_map.1 hh
  exact (hM m hm).2.2 e
 generalize hMM:(N.filter fun n=>decide (n.Parent=d)).filter (fun n=>!decide (n.ID=x))=M at *
 cases ho:o
 · obtain ⟨j,hj⟩:∃ j,fuel=j + 1:=⟨2 ^ 64 - 1,by show 2 ^ 64=_; omega⟩
   rw [hj,dU]
   simp only [bndD,Bool.and_false,bG,aA4 (R:=R) (K:=K) (E:=E) (d:=d) (w:=w) hs hl hz hzx hyx hc,bnoS]
   rw [← ho,hpt _ (fun n hn=>?_)]
   unfold sel kU atN
   rw [ho]
   by_cases e:n.ID=x <;> simp [e]
 · have hL2:=aCg (R:=R) (K:=K) (E:=E) (d:=d) (w:=w) hs hl hz hzx hyx hc (fun n hn=>(hM n hn).1) hml hnd hxm ho M [] fuel rfl (eS (by omega))
   rw [show List.map (fun x:Nd=>x.ID) []=[] from rfl,tI,ho] at hL2
   refine hL2.trans ?_
   rw [List.map_map,← ho,hpt _ (fun n hn=>?_)]
   have hi:=hin n hn
   show sel (atN d w) [x] (sel (tkN x) (M.map (·.ID)) n)=_
   by_cases e:n.ID=x
   · have h1:sel (tkN x) (M.map (·.ID)) n=n:=by unfold sel; rw [if_neg (fun hh=>(hi.1 hh).2 e)]
     rw [h1]
     unfold sel kU
     rw [if_pos (by simp [e]),if_pos e]; rfl
   · by_cases e2:n.Parent=d
     · have h1:sel (tkN x) (M.map (·.ID)) n=tkN x n:=by unfold sel; rw [if_pos (hi.2 ⟨e2,e⟩)]
       rw [h1]
       unfold sel kU
       rw [if_neg (by show n.ID ∉ [x]; simp [e]),if_neg e,if_pos ⟨ho,e2⟩]; rfl
     · have h1:sel (tkN x) (M.map (·.ID)) n=n:=by unfold sel; rw [if_neg (fun hh=>e2 (hi.1 hh).1)]
       rw [h1]
       unfold sel kU
       rw [if_neg (by simp [e]),if_neg e,if_neg (fun hh=>e2 hh.2)]
theorem aA5 (hs:N.Pairwise (fun a b=>a.ID < b.ID)) (hl:N.length ≤ 1000) (h0:∀ n ∈ N,n.ID ≠ 0) {x d w:Int} {o:Bool} {A C:List Nd} {y:Nd} (hN:N=A ++ y :: C) (hyx:y.ID=x):gB ⟨R,K,N,E⟩ x d w o=some ⟨R,K,aBa N x d w o (decide (x ∈ fV N (N.length + 1) d)) y.Parent,E⟩:=by
 have hs2:=hs
 rw [hN] at hs2
 obtain ⟨hA,hC⟩:=uF hs2
 have hy:y ∈ N:=by rw [hN]; simp
 have hpl:=sU N (N.length + 1) d
 unfold gB
 rw [wY (t:=⟨R,K,N,E⟩) hl hN hyx (fun a ha=>by rw [← hyx]; exact hA a ha),bnoS]
 show bno (gix N (A.length:Int)) _=_
 rw [gY hN,bnoS,rpath (t:=⟨R,K,N,E⟩) hl h0,bnoS]
 show bno (jW (fV N (N.length + 1) d) x) _=_
 rw [in19 (by omega),bnoS]
 by_cases hb:x ∈ fV N (N.length + 1) d
 · rw [decide_eq_true hb,bX]
   have hk:∃ k ∈ N,k.ID=d:=by
    cases hp:nI N d with
    | none=>unfold fV at hb; rw [hp] at hb; exact absurd hb List.not_mem_nil
    | some p=>obtain ⟨n,hn,e,_⟩:=vS hp; exact ⟨n,hn,e⟩
   obtain ⟨k,hkm,rfl⟩:=hk
   obtain ⟨B,D,hB,hplk,hwi⟩:=qW (h:=tkN y.Parent) (fun _=>rfl) hs hl (R:=R) (K:=K) (E:=E) hkm (pre:=[]) List.not_mem_nil
   rw [tI] at hB hplk hwi
   rw [hplk,bnoS]
   show bno (gix N (B.length:Int)) _=_
   rw [gY hB,bnoS,hwi ⟨k.ID,y.Parent,k.Weight,k.Closed⟩ rfl rfl,bnoS,List.nil_append]
   have hmv:N.map (sel (tkN y.Parent) [k.ID])=N.map (mvN k.ID y.Parent):=List.map_congr_left (fun n _=>by
    unfold sel mvN tkN
    simp only [List.mem_singleton])
   rw [hmv]
   exact aCh (mv_so hs _ _) (by rw [List.length_map]; exact hl) (z:=mvN k.ID y.Parent y) (List.mem_map.2 ⟨y,hy,rfl⟩) ((kD _ _ _).trans hyx) hyx (by unfold mvN; split <;> rfl)
 · rw [decide_eq_false hb,bG]
   exact aCh hs hl hy hyx hyx rfl
theorem put19 (hs:N.Pairwise (fun a b=>a.ID < b.ID)) (hl:N.length ≤ 1000) (h0:∀ n ∈ N,n.ID ≠ 0) {x dep wt:Int} {only:Bool} {A C:List Nd} {y:Nd} (hN:N=A ++ y :: C) (hyx:y.ID=x) {d w:Int} {o:Bool} (hd:(dep=0 ∨ ∃ n ∈ N,n.ID=dep) ∧ d=dep ∧ w=wt ∧ o=only ∨ (dep ≠ 0 ∧ ∀ n ∈ N,n.ID ≠ dep) ∧ d=0 ∧ w=16 ∧ o=false):dR ⟨R,K,N,E⟩ x dep wt only=some ⟨R,K,aBa N x d w o (decide (x ∈ fV N (N.length + 1) d)) y.Parent,E⟩:=by
 obtain ⟨i,hi,hp⟩:=uW (t:=⟨R,K,N,E⟩) hl dep
 have hp:Pl N dep i:=hp
 have hneg:i < 0 ↔ ∀ n ∈ N,n.ID ≠ dep:=by
  cases hp with
  | yes B k D hB e _=>exact ⟨fun h=>by omega,fun h=>absurd e (h k (by rw [hB]; simp))⟩
  | no hno=>exact ⟨fun _=>hno,fun _=>by decide⟩
 unfold dR
 rcases hd with ⟨hd1,rfl,rfl,rfl⟩ | ⟨hd1,rfl,rfl,rfl⟩
 · by_cases hz:d=0
   · simp only [bndD,decide_eq_true hz,Bool.not_true,ft,gdff,bnoS,Bool.false_and,bG]
     exact aA5 hs hl h0 hN hyx
   · obtain ⟨n,hn,e⟩:=hd1.resolve_left hz
     have hi2:¬ i < 0:=fun hh=>hneg.1 hh n hn e
     simp only [bndD,decide_eq_false hz,Bool.not_false,beq_self_eq_true,gdtt,hi,bnoS,decide_eq_false hi2,Bool.and_false,bG]
     exact aA5 hs hl h0 hN hyx
 · simp only [bndD,decide_eq_false hd1.1,Bool.not_false,beq_self_eq_true,gdtt,hi,bnoS,decide_eq_true (hneg.2 hd1.2),Bool.and_self,bX]
   exact aA5 hs hl h0 hN hyx
end
end Go.Fn
open Go Go.IL
namespace Go.Fn
section
variable {N:List Nd} {R K:Int} {E:List Int}
theorem yL {x:Int} (h:∀ n ∈ N,n.ID ≠ x → n.Parent ≠ x):∀ (k:Nat) (z:Int),z ≠ x → x ∉ fV N k z
 | 0,_,_,hh=>List.not_mem_nil hh
 | k + 1,z,hz,hh=>by
   unfold fV at hh
   cases hp:nI N z with
   | none=>rw [hp] at hh; exact List.not_mem_nil hh
   | some p =>
     rw [hp] at hh
     obtain ⟨n,hn,e1,e2⟩:=vS hp
     have hpx:p ≠ x:=by rw [← e2]; exact h n hn (by rw [e1]; exact hz)
     by_cases h0:p=0
     · simp only [h0,if_true] at hh; exact List.not_mem_nil hh
     · simp only [if_neg h0] at hh
       rcases List.mem_cons.1 hh with e | hh
       · exact hpx e.symm
       · exact yL h k p hpx hh
theorem path_0 (h0:∀ n ∈ N,n.ID ≠ 0):∀ k,fV N k 0=[]
 | 0=>rfl
 | k + 1=>by unfold fV; rw [zN h0]
theorem aCd {x dep w:Int} {o:Bool} {A C:List Nd} (hN:N=A ++ C) (hl:N.length ≤ 1000) (hA:∀ a ∈ A,a.ID < x) (hC:∀ c ∈ C,x < c.ID):∀ (r p:List Nd) (f:Nat),A=p ++ r → r.length < f → dQ x dep w o R K N E f (p.length:Int)=bno (dR ⟨R,K,A ++ [(⟨x,-1,16,false⟩:Nd)] ++ C,E⟩ x dep w o) fun x43=>some (x43,0)
 | [],p,f + 1,h,_=>by
   rw [List.append_nil] at h
   subst h
   have hal:A.length ≤ 1000:=by rw [hN] at hl; simp at hl; omega
   have hcl:C.length ≤ 1000:=by rw [hN] at hl; simp at hl; omega
   have hgo:(bno (cut N 0 (A.length:Int)) fun x38 =>
    bno (app 32 ([]:(List aN)) x38) fun x39 =>
    bno (app 32 x39 (([(⟨x,(-1),16,false⟩:aN)]:(List aN)))) fun x40 =>
    bno (cut N (A.length:Int) (N.length:Int)) fun x41 =>
    bno (app 32 x40 x41) fun x42 =>
    bno (dR (⟨R,K,x42,E⟩:aL) x dep w o) fun x43 =>
    some (x43,(0:Int)))=bno (dR ⟨R,K,A ++ [(⟨x,-1,16,false⟩:Nd)] ++ C,E⟩ x dep w o) fun x43=>some (x43,0):=by
    rw [aBo hN,bnoS,kH (by simp; omega) (by simp; omega),bnoS,List.nil_append,kH (by simp; omega) (by simp; omega),bnoS,aCM hN,bnoS,kH (by simp; omega) (by simp; omega),bnoS]
   rw [dQ]
   cases C with
   | nil =>
     have hlt:decide ((A.length:Int) < (N.length:Int))=false:=by rw [hN,List.append_nil]; exact mG
     simp only [bndD,hlt,ft,gdff,bnoS,Bool.false_and,bG]
     exact hgo
   | cons c C =>
     have hc:=hC c (by simp)
     simp only [bndD,mM hN,beq_self_eq_true,gdtt,gY hN,bnoS,decide_eq_false (show ¬ c.ID < x by omega),Bool.and_false,bG]
     exact hgo
 | n :: r,p,f + 1,h,hf=>by
   have hrec:=aCd (dep:=dep) (w:=w) (o:=o) hN hl hA hC r (p ++ [n]) f (kI h) (by simpa using hf)
   have hN2:N=p ++ n :: (r ++ C):=by rw [hN,h]; simp
   have hn:=hA n (by rw [h]; simp)
   rw [dQ]
   simp only [bndD,mM hN2,beq_self_eq_true,gdtt,gY hN2,bnoS,decide_eq_true hn,Bool.and_self,bX,w_at hN2 (show N.length ≤ 1000000 by omega)]
   exact hrec
end
def aCQ (id dep w:Int):Int:=if decide (id < 1) || decide (1048576 < id) || decide (dep < 0) || decide (1048576 < dep) || decide (w < 1) || decide (256 < w) then 8 else if id=dep then 4 else 0
theorem wK (id dep w:Int):iX id dep w=some (aCQ id dep w):=by
 unfold iX aCQ
 simp only [bndD]
 cases (decide (id < 1) || decide (1048576 < id) || decide (dep < 0) || decide (1048576 < dep) || decide (w < 1) || decide (256 < w))
 · rw [bG]
   by_cases h:id=dep
   · rw [decide_eq_true h]; simp [h]
   · rw [decide_eq_false h]; simp [h]
 · rfl
section
variable {st:Fs}
theorem GV.ok (h:GV st):Ok34 st.Nodes:=h.fv.ok
end
end Go.Fn
open Go Go.IL
namespace Go.Fn
section
variable {st:Fs}
end
theorem rneq34 {l m:List Nd} (hl:l.length ≤ 1000000):fA l m=some (decide (l=m)):=by
 have heq:∀ x y:Nd,(decide (x.ID=y.ID) && (decide (x.Parent=y.Parent) && (decide (x.Weight=y.Weight) && ((x.Closed == y.Closed) && true))))=decide (x=y):=fun x y=>by
  obtain ⟨a,b,c,d⟩:=x; obtain ⟨e,f,g,i⟩:=y; rw [Bool.eq_iff_iff]; simp
 have:=xW (L:=eL l m) (m:=m) (z:=true) hl (fun p x r s y t f h k e=>by
  rw [eL]
  simp only [bndD,mM h,bX,gY h,show gix m (p.length:Int)=some y by rw [e]; exact gY k,bnoS,heq,w_at h hl]) (fun _ f=>by
  rw [eL]
  simp only [bndD,mG,bG])
 rw [Bool.and_true] at this
 exact this
theorem zB {l m:List Int} (hl:l.length ≤ 1000000):bO l m=some (decide (l=m)):=by
 have:=xW (L:=eP l m) (m:=m) (z:=true) hl (fun p x r s y t f h k e=>by
  rw [eP]
  simp only [bndD,mM h,bX,gY h,show gix m (p.length:Int)=some y by rw [e]; exact gY k,bnoS,w_at h hl]) (fun _ f=>by
  rw [eP]
  simp only [bndD,mG,bG])
 rw [Bool.and_true] at this
 exact this
end Go.Fn
open Go Go.IL
namespace Go.Fn
def gv (v:List Int) (i:Int):Int:=v.getD i.toNat 0
structure Sw (v:List Int) (i j:Int) (w:List Int):Prop where
 len:w.length=v.length
 at_i:gv w i=gv v j
 at_j:gv w j=gv v i
 at_o:∀ k,0 ≤ k → k ≠ i → k ≠ j → gv w k=gv v k
 pm:w.Perm v
section
variable {α:Type} {Q:α → Prop} {l:List Int}
end
structure Pr (a b:Int) (v w:List Int):Prop where
 pm:w.Perm v
 out:∀ k,0 ≤ k → k < a ∨ b ≤ k → gv w k=gv v k
 inn:∀ k,a ≤ k → k < b → ∃ j,a ≤ j ∧ j < b ∧ gv w k=gv v j
def Sd (a b:Int) (v:List Int):Prop:=∀ p q,a ≤ p → p < q → q < b → gv v p ≤ gv v q
section
variable {a b:Int} {u v w:List Int}
theorem Pr.len (h:Pr a b v w):w.length=v.length:=h.pm.length_eq
end
section
variable {n:Nat}
end
end Go.Fn
open Go Go.IL
namespace Go.Fn
structure PaQ (a b:Int) (v0:List Int) (r:Int × Bool × List Int):Prop where
 lo:a ≤ r.1
 hi:r.1 < b
 pr:Pr a b v0 r.2.2
 le:∀ k,a ≤ k → k < r.1 → gv r.2.2 k ≤ gv r.2.2 r.1
 ge:∀ k,r.1 < k → k < b → gv r.2.2 r.1 ≤ gv r.2.2 k
section
variable {n:Nat} {a b:Int} {v0:List Int}
end
end Go.Fn
open Go Go.IL
namespace Go.Fn
section
variable {n:Nat}
end
end Go.Fn
open Go Go.IL
namespace Go.Fn
section
variable {n:Nat}
end
def Bd (a b:Int) (v:List Int):Prop:=∀ q,0 < a → a ≤ q → q < b → gv v (a - 1) ≤ gv v q
structure SS (n:Nat) (a b:Int) (v:List Int):Prop where
 len:v.length=n
 nd:v.Nodup
 bd:Bd a b v
def Qs (a b:Int) (v w:List Int):Prop:=Pr a b v w ∧ Sd a b w
section
variable {n:Nat} {rec0:Int → Int → Int → List Int → Option (List Int)} {kk:List Int → Int → Int → Int → Bool → Bool → Option (List Int)} {a b lim:Int} {c d:Bool}
end
section
variable {n:Nat} {rec0:Int → Int → Int → List Int → Option (List Int)}
end
end Go.Fn
open Go Go.IL
namespace Go.Fn
end Go.Fn
open Go Go.IL
namespace Go.Fn
section
variable {st:Fs}
theorem tG:∀ {l m:List Int},l.Pairwise (· < ·) → m.Pairwise (· < ·) → (∀ x,x ∈ l ↔ x ∈ m) → l=m
 | [],[],_,_,_=>rfl
 | [],y :: m,_,_,h=>absurd ((h y).2 (by simp)) List.not_mem_nil
 | x :: l,[],_,_,h=>absurd ((h x).1 (by simp)) List.not_mem_nil
 | x :: l,y :: m,hl,hm,h=>by
   obtain ⟨l1,l2⟩:=List.pairwise_cons.1 hl
   obtain ⟨m1,m2⟩:=List.pairwise_cons.1 hm
   have e:x=y:=by
    rcases List.mem_cons.1 ((h x).1 (by simp)) with e | e
    · exact e
    · rcases List.mem_cons.1 ((h y).2 (by simp)) with e2 | e2
      · exact e2.symm
      · have:=m1 x e; have:=l1 y e2; omega
   subst e
   congr 1
   refine tG l2 m2 (fun z=>⟨fun hz=>?_,fun hz=>?_⟩)
   · rcases List.mem_cons.1 ((h z).1 (by simp [hz])) with e | e
     · have:=l1 z hz; omega
     · exact e
   · rcases List.mem_cons.1 ((h z).2 (by simp [hz])) with e | e
     · have:=m1 z hz; omega
     · exact e
end
end Go.Fn
open Go Go.IL
namespace Go.Fn
section
variable {N:List Nd} {R K:Int} {E:List Int}
theorem yV {x:Int} {w:Ws} (h0:∀ n ∈ N,n.ID ≠ 0) {y:Nd} (hy:y ∈ N) (hyx:y.ID=x) (hso:N.Pairwise (fun a b=>a.ID < b.ID)) {r:Int → Nat} (hr:∀ n ∈ N,n.Parent ≠ 0 → r n.Parent < r n.ID) (hpa:∀ n ∈ N,n.Parent=0 ∨ ∃ m ∈ N,m.ID=n.Parent) :
 lN N x w=aBa N x (lI N w).dep (lI N w).weight (lI N w).only (decide (x ∈ fV N (N.length + 1) (lI N w).dep)) y.Parent:=by
 have hpar:nI N x=some y.Parent:=by rw [← hyx]; exact tQ hso hy
 unfold lN upN aBa
 by_cases hd:(lI N w).dep=0
 · rw [if_neg (fun hh=>hh.1 hd),hd,path_0 h0,decide_eq_false (by intro h; cases h),bG]
 · have hex:∃ n ∈ N,n.ID=(lI N w).dep:=by
    refine Classical.byContradiction fun hn=>?_
    unfold lI at hd hn
    by_cases hc:w.dep ≠ 0 ∧ ∀ m ∈ N,m.ID ≠ w.dep
    · rw [if_pos hc] at hd; exact hd rfl
    · rw [if_neg hc] at hd hn
      exact hc ⟨hd,fun m hm e=>hn ⟨m,hm,e⟩⟩
   have hp:=qZ hso hr hpa hex 1
   rw [hp]
   by_cases hx:x ∈ fV N N.length (lI N w).dep
   · rw [if_pos ⟨hd,hx⟩,decide_eq_true hx,bX,hpar]; rfl
   · rw [if_neg (fun hh=>hx hh.2),decide_eq_false hx,bG]
theorem uO (w:Ws):(w.dep=0 ∨ ∃ n ∈ N,n.ID=w.dep) ∧ (lI N w).dep=w.dep ∧ (lI N w).weight=w.weight ∧ (lI N w).only=w.only ∨ (w.dep ≠ 0 ∧ ∀ n ∈ N,n.ID ≠ w.dep) ∧ (lI N w).dep=0 ∧ (lI N w).weight=16 ∧ (lI N w).only=false:=by
 unfold lI
 by_cases h:w.dep ≠ 0 ∧ ∀ m ∈ N,m.ID ≠ w.dep
 · rw [if_pos h]; exact .inr ⟨h,rfl,rfl,rfl⟩
 · rw [if_neg h]
   refine .inl ⟨?_,rfl,rfl,rfl⟩
   by_cases h0:w.dep=0
   · exact .inl h0
   · exact .inr (Classical.byContradiction fun hn=>h ⟨h0,fun m hm e=>hn ⟨m,hm,e⟩⟩)
theorem rput {a b:Int} (h:FV a ⟨24,b,N,E⟩) {x:Int} (hx:∃ n ∈ N,n.ID=x) (w:Ws):dR ⟨R,K,N,E⟩ x w.dep w.weight w.only=some ⟨R,K,lN N x w,E⟩:=by
 have hok:Ok34 N:=h.ok
 have hn0:∀ n ∈ N,n.ID ≠ 0:=fun n hn=>by have:=hok.ra n hn; omega
 obtain ⟨y,hy,hyx⟩:=hx
 obtain ⟨A,C,hN⟩:=List.append_of_mem hy
 obtain ⟨r,hrk⟩:∃ r:Int → Nat,∀ n ∈ N,n.Parent ≠ 0 → r n.Parent < r n.ID:=h.rk
 have:=put19 (R:=R) (K:=K) (E:=E) h.so hok.ln hn0 hN hyx (uO (N:=N) w)
 rw [this,← yV hn0 hy hyx h.so hrk h.pa]
theorem aCI {A C:List Nd} {x q d w:Int} {o:Bool}:(A ++ (⟨x,q,16,false⟩:Nd) :: C).map (kU x d w o)=(A ++ (⟨x,0,16,false⟩:Nd) :: C).map (kU x d w o):=by
 rw [List.map_append,List.map_append,List.map_cons,List.map_cons]
 congr 2
 unfold kU
 rw [if_pos rfl,if_pos rfl]
theorem rins {a b:Int} (h:FV a ⟨24,b,N,E⟩) {x:Int} (hid:1 ≤ x ∧ x ≤ 1048576) (hno:∀ n ∈ N,n.ID ≠ x) {w:Ws} (hne:w.dep ≠ x) (hd:0 ≤ w.dep):fE x w.dep w.weight w.only R K N E=some (⟨R,K,lN (newS N x) x w,E⟩,0):=by
 have hok:Ok34 N:=h.ok
 have hso:N.Pairwise (fun a b=>a.ID < b.ID):=h.so
 have hln:N.length ≤ 24:=h.ln
 have hsp:=rG hso hno
 have hnew:newS N x=lowN N x ++ (⟨x,0,16,false⟩:Nd) :: xQ N x:=rfl
 have hA:∀ a ∈ lowN N x,a.ID < x:=fun a ha=>of_decide_eq_true (List.mem_filter.1 ha).2
 have hC:∀ c ∈ xQ N x,x < c.ID:=fun c hc=>of_decide_eq_true (List.mem_filter.1 hc).2
 have hmA:∀ a ∈ lowN N x,a ∈ N:=fun a ha=>(List.mem_filter.1 ha).1
 have hmC:∀ c ∈ xQ N x,c ∈ N:=fun c hc=>(List.mem_filter.1 hc).1
 generalize hAe:lowN N x=A at *
 generalize hCe:xQ N x=C at *
 have hlen:A.length + C.length=N.length:=by rw [hsp,List.length_append]
 have hsoq:∀ q:Int,(A ++ (⟨x,q,16,false⟩:Nd) :: C).Pairwise (fun a b=>a.ID < b.ID):=fun q=>by
  rw [hsp] at hso
  obtain ⟨s1,s2,s3⟩:=List.pairwise_append.1 hso
  refine List.pairwise_append.2 ⟨s1,List.pairwise_cons.2 ⟨fun c hc=>hC c hc,s2⟩,fun a ha c hc=>?_⟩
  rcases List.mem_cons.1 hc with rfl | hc
  · exact hA a ha
  · exact s3 a ha c hc
 have hmq:∀ (q:Int) n,n ∈ A ++ (⟨x,q,16,false⟩:Nd) :: C → n=⟨x,q,16,false⟩ ∨ n ∈ N:=fun q n hn=>by
  rcases List.mem_append.1 hn with hn | hn
  · exact .inr (hmA n hn)
  · rcases List.mem_cons.1 hn with rfl | hn
    · exact .inl rfl
    · exact .inr (hmC n hn)
 have hr:=aCd (R:=R) (K:=K) (E:=E) (x:=x) (dep:=w.dep) (w:=w.weight) (o:=w.only) hsp (by omega) hA hC A [] fuel rfl (eS (by omega))
 have hlq:(A ++ (⟨x,-1,16,false⟩:Nd) :: C).length ≤ 1000:=by rw [List.length_append,List.length_cons]; omega
 have h0q:∀ n ∈ A ++ (⟨x,-1,16,false⟩:Nd) :: C,n.ID ≠ 0:=fun n hn=>by
  rcases hmq _ n hn with rfl | hn
  · show x ≠ 0; omega
  · have:=hok.ra n hn; omega
 have hws:lI (A ++ (⟨x,-1,16,false⟩:Nd) :: C) w=lI (newS N x) w:=by
  rw [hnew]
  unfold lI
  have:(w.dep ≠ 0 ∧ ∀ m ∈ A ++ (⟨x,-1,16,false⟩:Nd) :: C,m.ID ≠ w.dep) ↔ (w.dep ≠ 0 ∧ ∀ m ∈ A ++ (⟨x,0,16,false⟩:Nd) :: C,m.ID ≠ w.dep):=by
   simp only [List.mem_append,List.mem_cons]
   constructor
   · rintro ⟨g1,g2⟩
     refine ⟨g1,fun m hm=>?_⟩
     rcases hm with hm | rfl | hm
     · exact g2 m (.inl hm)
     · exact fun e=>hne e.symm
     · exact g2 m (.inr (.inr hm))
   · rintro ⟨g1,g2⟩
     refine ⟨g1,fun m hm=>?_⟩
     rcases hm with hm | rfl | hm
     · exact g2 m (.inl hm)
     · exact fun e=>hne e.symm
     · exact g2 m (.inr (.inr hm))
  by_cases hc:w.dep ≠ 0 ∧ ∀ m ∈ A ++ (⟨x,-1,16,false⟩:Nd) :: C,m.ID ≠ w.dep
  · rw [if_pos hc,if_pos (this.1 hc)]
  · rw [if_neg hc,if_neg (fun hh=>hc (this.2 hh))]
 have hdx:(lI (newS N x) w).dep ≠ x:=by
  unfold lI
  split
  · show (0:Int) ≠ x; omega
  · exact hne
 have hnp:∀ q:Int,q ≠ x → ∀ n ∈ A ++ (⟨x,q,16,false⟩:Nd) :: C,n.ID ≠ x → n.Parent ≠ x:=fun q hq n hn hx=>by
  rcases hmq q n hn with rfl | hn
  · exact absurd rfl hx
  · rcases h.pa n hn with e | ⟨m,hm,e⟩
    · rw [e]; omega
    · rw [← e]; exact hno m hm
 have hput:=put19 (R:=R) (K:=K) (E:=E) (hsoq (-1)) hlq h0q (A:=A) (C:=C) (y:=⟨x,-1,16,false⟩) rfl rfl (uO (N:=A ++ (⟨x,-1,16,false⟩:Nd) :: C) w)
 rw [hws,decide_eq_false (yL (hnp (-1) (by omega)) _ _ hdx)] at hput
 have hg:lN (newS N x) x w=(newS N x).map (kU x (lI (newS N x) w).dep (lI (newS N x) w).weight (lI (newS N x) w).only):=by
  unfold lN upN
  rw [if_neg]
  rintro ⟨_,hh⟩
  rw [hnew] at hh hdx
  exact yL (hnp 0 (by omega)) _ _ hdx hh
 unfold fE
 refine hr.trans ?_
 rw [List.append_assoc]
 show bno (dR ⟨R,K,A ++ (⟨x,-1,16,false⟩:Nd) :: C,E⟩ x w.dep w.weight w.only) _=_
 rw [hput,bnoS,hg]
 unfold aBa
 rw [bG,aCI,← hnew]
theorem tA (id:Int) (w:Ws):aCQ id w.dep w.weight=qS id w:=by
 unfold aCQ qS
 by_cases h:fitW id w
 · obtain ⟨h1,h2,h3⟩:=h
   have hf:fitW id w:=⟨h1,h2,h3⟩
   rw [decide_eq_false (show ¬ id < 1 by omega),decide_eq_false (show ¬ 1048576 < id by omega),decide_eq_false (show ¬ w.dep < 0 by omega),decide_eq_false (show ¬ 1048576 < w.dep by omega),decide_eq_false (show ¬ w.weight < 1 by omega),decide_eq_false (show ¬ 256 < w.weight by omega)]
   simp only [Bool.or_self,Bool.false_eq_true,if_false,if_pos hf]
 · simp only [if_neg h]
   rw [if_pos]
   by_cases c1:id < 1 <;> by_cases c2:1048576 < id <;> by_cases c3:w.dep < 0 <;> by_cases c4:1048576 < w.dep <;> by_cases c5:w.weight < 1 <;> by_cases c6:256 < w.weight <;> simp [c1,c2,c3,c4,c5,c6]
   exact h ⟨⟨by omega,by omega⟩,⟨by omega,by omega⟩,⟨by omega,by omega⟩⟩
theorem roff {a b:Int} (h:FV a ⟨24,b,N,E⟩) {id:Int} (hid:∃ n ∈ N,n.ID=id):eM ⟨R,K,N,E⟩ id=some ⟨R,K,offT N id,E.filter fun y=>!decide (y=id)⟩:=by
 obtain ⟨y,hy,rfl⟩:=hid
 obtain ⟨A,C,hN⟩:=List.append_of_mem hy
 have hln:N.length ≤ 24:=h.ln
 have hel:(E.length:Int) ≤ a:=h.el
 have ha:a ≤ 24:=h.kp.2.2
 obtain ⟨r,hrk⟩:∃ r:Int → Nat,∀ n ∈ N,n.Parent ≠ 0 → r n.Parent < r n.ID:=h.rk
 have hne:y.Parent ≠ y.ID:=fun e=>by
  have h1:=(h.ra y hy).1
  have:=hrk y hy (by omega)
  rw [e] at this; omega
 have hso:N.Pairwise (fun a b=>a.ID < b.ID):=h.so
 rw [roff19 (R:=R) (K:=K) (E:=E) hso (by omega) (by omega) (fun n hn=>(h.ra n hn).2) hN hne,aBC hso hN rfl]
theorem tO {a b:Int} (h:FV a ⟨24,b,N,E⟩) (id:Int):∃ i,bI ⟨R,K,N,E⟩ id=some i ∧ (hasN N id → 0 ≤ i) ∧ (¬ hasN N id → i = -1):=by
 have hln:N.length ≤ 24:=h.ln
 obtain ⟨i,hi,hp⟩:=uW (t:=⟨R,K,N,E⟩) (by show N.length ≤ 1000; omega) id
 refine ⟨i,hi,?_⟩
 have hp:Pl N id i:=hp
 cases hp with
 | yes A y C hN e _=>exact ⟨fun _=>by omega,fun hn=>absurd ⟨y,by rw [hN]; simp,e⟩ hn⟩
 | no hno=>exact ⟨fun ⟨m,hm,e⟩=>absurd e (hno m hm),fun _=>rfl⟩
theorem aBt {a b:Int} (h:FV a ⟨24,b,N,E⟩) (id:Int) (w:Ws):fF ⟨R,K,N,E⟩ id w.dep w.weight w.only=some (⟨R,K,(oS R N E id w).2.1,(oS R N E id w).2.2⟩,(oS R N E id w).1):=by
 obtain ⟨i,hi,hi1,hi2⟩:=tO (R:=R) (K:=K) h id
 unfold fF oS
 by_cases hc:qS id w=0
 · obtain ⟨w1,w2,w3,w4⟩:=qR hc
   rw [if_pos hc]
   simp only [wK,tA,hc,bnoS,hi,bndD,decide_true,Bool.not_true,bG]
   by_cases hx:hasN N id
   · rw [if_pos hx,decide_eq_true (hi1 hx),bX]
   · have hno:∀ m ∈ N,m.ID ≠ id:=fun m hm e=>hx ⟨m,hm,e⟩
     rw [if_neg hx,hi2 hx,show decide (0 ≤ (-1:Int))=false from rfl,bG]
     unfold insS
     by_cases hlt:(N.length:Int) < R
     · rw [if_pos hlt,decide_eq_false (show ¬ R ≤ (N.length:Int) by omega),Bool.false_and,bG,bG]
       exact rins h w1 hno w2 w3
     · rw [if_neg hlt,decide_eq_true (show R ≤ (N.length:Int) by omega),Bool.true_and,bX]
       cases E with
       | nil=>rfl
       | cons z F =>
         have hz:decide (((z :: F).length:Int)=0)=false:=decide_eq_false (by simp only [List.length_cons]; omega)
         have hg:gix (z :: F) 0=some z:=rfl
         have hzN:∃ n ∈ N,n.ID=z:=h.es z (by show z ∈ z :: F; simp)
         obtain ⟨y,hy,hyz⟩:=hzN
         obtain ⟨A,C,hN⟩:=List.append_of_mem hy
         have hoff:=aCk h hN
         have hT:offS A y C=offT N z:=aBC h.so hN hyz
         rw [hT,hyz] at hoff
         rw [hz,bG,hg,bnoS,roff h ⟨y,hy,hyz⟩,bnoS]
         refine rins hoff w1 (fun m hm e=>?_) w2 w3
         rw [← hT] at hm
         obtain ⟨n,hn,rfl⟩:=List.mem_map.1 hm
         rw [pN] at e
         refine hno n ?_ e
         rw [hN]
         rcases List.mem_append.1 hn with hn | hn
         · exact List.mem_append.2 (.inl hn)
         · exact List.mem_append.2 (.inr (List.mem_cons_of_mem _ hn))
 · rw [if_neg hc]
   simp only [wK,tA,bnoS,bndD,decide_eq_false hc,Bool.not_false,bX]
theorem MoveR {a b:Int} (h:FV a ⟨24,b,N,E⟩) (id:Int) (w:Ws):gP ⟨R,K,N,E⟩ id w.dep w.weight w.only=some (⟨R,K,(wM R N E id w).2.1,(wM R N E id w).2.2⟩,(wM R N E id w).1):=by
 obtain ⟨i,hi,hi1,hi2⟩:=tO (R:=R) (K:=K) h id
 have hI:=aBt (R:=R) (K:=K) h id w
 unfold gP wM
 by_cases hc:qS id w=0
 · rw [if_pos hc]
   simp only [wK,tA,hc,bnoS,hi,bndD,decide_true,Bool.not_true,bG]
   by_cases hx:hasN N id
   · rw [if_pos hx,decide_eq_false (show ¬ i < 0 by have:=hi1 hx; omega),bG,rput h hx,bnoS]
   · rw [if_neg hx,hi2 hx,show decide ((-1:Int) < 0)=true from rfl,bX,hI]
     unfold oS
     rw [if_pos hc,if_neg hx,bnoS]
 · rw [if_neg hc]
   simp only [wK,tA,bnoS,bndD,decide_eq_false hc,Bool.not_false,bX]
theorem RemoveR {a b:Int} (h:FV a ⟨24,b,N,E⟩) (id:Int):gV ⟨R,K,N,E⟩ id=some (⟨R,K,(pI N E id).2.1,(pI N E id).2.2⟩,(pI N E id).1):=by
 obtain ⟨i,hi,hi1,hi2⟩:=tO (R:=R) (K:=K) h id
 unfold gV pI
 rw [hi,bnoS,bndD]
 by_cases hx:hasN N id
 · rw [if_pos hx,decide_eq_false (show ¬ i < 0 by have:=hi1 hx; omega),bG,roff h hx,bnoS]
 · rw [if_neg hx,hi2 hx,show decide ((-1:Int) < 0)=true from rfl,bX]
end
end Go.Fn
open Go Go.IL
namespace Go.Fn
section
variable {N:List Nd} {R K:Int} {E:List Int}
theorem CloseR {a b:Int} (h:FV a ⟨24,b,N,E⟩) (id:Int):hG ⟨R,K,N,E⟩ id=some (⟨R,K,(rO K N E id).2.1,(rO K N E id).2.2⟩,(rO K N E id).1):=by
 have hln:N.length ≤ 24:=h.ln
 have hel:(E.length:Int) ≤ a:=h.el
 have ha:a ≤ 24:=h.kp.2.2
 have hb:b=a:=h.kp.1
 subst hb
 have hso:N.Pairwise (fun a b=>a.ID < b.ID):=h.so
 unfold hG rO
 by_cases hx:hasN N id
 · obtain ⟨y,hy,rfl⟩:=hx
   obtain ⟨A,C,hN⟩:=List.append_of_mem hy
   have hs2:=hso
   rw [hN] at hs2
   obtain ⟨hA,hC⟩:=uF hs2
   have hpl:=wY (t:=⟨R,K,N,E⟩) (by show N.length ≤ 1000; omega) hN rfl hA
   have hwi:=aCa (t:=⟨R,K,N,E⟩) (by show N.length ≤ 1000; omega) hN (z:=⟨y.ID,y.Parent,y.Weight,true⟩) rfl hA
   have hg:gix N (A.length:Int)=some y:=gY hN
   have hmap:=map_cl hs2
   rw [← hN] at hmap
   have hsh:aAq N y.ID ↔ y.Closed=true:=by
    constructor
    · rintro ⟨m,hm,e1,e2⟩
      rw [← nE hso hm hy e1]; exact e2
    · exact fun hc=>⟨y,hy,rfl,hc⟩
   rw [if_pos ⟨y,hy,rfl⟩,hpl,bnoS,bndD,decide_eq_false (show ¬ (A.length:Int) < 0 by omega),bG,hg,bnoS]
   by_cases hc:y.Closed=true
   · rw [hc,bX,if_pos (hsh.2 hc)]
   · have hcf:y.Closed=false:=Bool.not_eq_true _ |>.mp hc
     rw [hcf,bG,if_neg (fun hh=>hc (hsh.1 hh)),hwi,bnoS]
     show bno (app 8 ([]:List Int) E) (fun x7=>bno (app 8 x7 [y.ID]) fun x8=>bnd (decide (K < (x8.length:Int))) fun x9=>bif x9 then (bno (gix x8 0) fun x11=>bno (eM (⟨R,K,A ++ (⟨y.ID,y.Parent,y.Weight,true⟩:Nd) :: C,x8⟩:aL) x11) fun x12=>some (x12,(0:Int))) else some ((⟨R,K,A ++ (⟨y.ID,y.Parent,y.Weight,true⟩:Nd) :: C,x8⟩:aL),0))=_
     rw [kH (l:=([]:List Int)) (by simp; omega) (by simp; omega),bnoS,List.nil_append,kH (by rw [List.length_singleton]; omega) (by rw [List.length_singleton]; omega),bnoS,bndD]
     show (bif decide (K < ((E ++ [y.ID]).length:Int)) then (bno (gix (E ++ [y.ID]) 0) fun x11=>bno (eM (⟨R,K,A ++ (⟨y.ID,y.Parent,y.Weight,true⟩:Nd) :: C,E ++ [y.ID]⟩) x11) fun x12=>some (x12,(0:Int))) else some ((⟨R,K,A ++ (⟨y.ID,y.Parent,y.Weight,true⟩:Nd) :: C,E ++ [y.ID]⟩:aL),0))=_
     rw [← hmap]
     by_cases hk:K < ((E ++ [y.ID]).length:Int)
     · rw [decide_eq_true hk,bX,if_pos hk]
       obtain ⟨v1,v2⟩:=aBg (wH h (K':=24) (by omega) (by omega)) hy hcf
       have v1:FV 24 ⟨24,24,N.map (clN y.ID),E ++ [y.ID]⟩:=v1
       cases hE:E ++ [y.ID] with
       | nil=>simp at hE
       | cons z F =>
         rw [hE] at v1
         have hg0:gix (z :: F) 0=some z:=rfl
         rw [hg0,bnoS,roff v1 (v1.es z (by show z ∈ z :: F; simp)),bnoS]; rfl
     · rw [decide_eq_false hk,bG,if_neg hk]
 · have hno:∀ m ∈ N,m.ID ≠ id:=fun m hm e=>hx ⟨m,hm,e⟩
   rw [if_neg hx,pl_no (t:=⟨R,K,N,E⟩) (by show N.length ≤ 1000; omega) hno,bnoS,bndD,show decide ((-1:Int) < 0)=true from rfl,bX]
def DoS (R K:Int) (N:List Nd) (E:List Int) (a:bT):Int × List Nd × List Int :=
 if a.Kind % 6=0 ∨ a.Kind % 6=1 then oS R N E a.ID ⟨a.Dep,a.Weight,a.Only⟩ else if a.Kind % 6=2 ∨ a.Kind % 6=3 then wM R N E a.ID ⟨a.Dep,a.Weight,a.Only⟩ else if a.Kind % 6=4 then rO K N E a.ID else pI N E a.ID
theorem Do_tsS {A:AS} {ns:List Nk} {first:Int} {cl:List Int} (h:TS A ns first cl R K N E) {a:bT} (h0:0 ≤ a.Kind) :
 ∃ A' ns' first' cl',kM a R K A.Cells A.Free A.Used ns first cl=some ((DoS R K N E a).1,R,K,A'.Cells,A'.Free,A'.Used,ns',first',cl') ∧ TS A' ns' first' cl' R K (DoS R K N E a).2.1 (DoS R K N E a).2.2:=by
 have hr:remI a.Kind 6=some (a.Kind % 6):=aCe h0 (by decide)
 obtain ⟨A1,ns1,f1,cl1,i1,i2⟩:=aBs h a.ID a.Dep a.Weight a.Only
 obtain ⟨A2,ns2,f2,cl2,m1,m2⟩:=Move_ts h a.ID a.Dep a.Weight a.Only
 obtain ⟨A3,ns3,f3,cl3,c1,c2⟩:=aCY h a.ID
 obtain ⟨A4,ns4,f4,cl4,r1,r2⟩:=aBq h a.ID
 unfold kM DoS
 rw [hr,bnoS,bndD]
 unfold jG jF
 generalize a.Kind % 6=r
 by_cases e:r=0
 · rw [decide_eq_true e,bX,bX,i1,bnoS,if_pos (.inl e)]
   exact ⟨_,_,_,_,rfl,i2⟩
 · rw [decide_eq_false e,bG,bndD]
   by_cases e1:r=1
   · rw [decide_eq_true e1,bX,i1,bnoS,if_pos (.inr e1)]
     exact ⟨_,_,_,_,rfl,i2⟩
   · rw [decide_eq_false e1,bG,bndD,if_neg (fun hh=>hh.elim e e1)]
     by_cases e2:r=2
     · rw [decide_eq_true e2,bX,bX,m1,bnoS,if_pos (.inl e2)]
       exact ⟨_,_,_,_,rfl,m2⟩
     · rw [decide_eq_false e2,bG,bndD]
       by_cases e3:r=3
       · rw [decide_eq_true e3,bX,m1,bnoS,if_pos (.inr e3)]
         exact ⟨_,_,_,_,rfl,m2⟩
       · rw [decide_eq_false e3,bG,bndD,if_neg (fun hh=>hh.elim e2 e3)]
         by_cases e4:r=4
         · rw [decide_eq_true e4,bX,c1,bnoS,if_pos e4]
           exact ⟨_,_,_,_,rfl,c2⟩
         · rw [decide_eq_false e4,bG,r1,bnoS,if_neg e4]
           exact ⟨_,_,_,_,rfl,r2⟩
theorem ModelR {a b:Int} (h:FV a ⟨24,b,N,E⟩) {d:bT} (h0:0 ≤ d.Kind):iZ ⟨R,K,N,E⟩ d=some (⟨R,K,(DoS R K N E d).2.1,(DoS R K N E d).2.2⟩,(DoS R K N E d).1):=by
 have hr:remI d.Kind 6=some (d.Kind % 6):=aCe h0 (by decide)
 have i1:=aBt (R:=R) (K:=K) h d.ID ⟨d.Dep,d.Weight,d.Only⟩
 have m1:=MoveR (R:=R) (K:=K) h d.ID ⟨d.Dep,d.Weight,d.Only⟩
 have c1:=CloseR (R:=R) (K:=K) h d.ID
 have r1:=RemoveR (R:=R) (K:=K) h d.ID
 have i1:fF ⟨R,K,N,E⟩ d.ID d.Dep d.Weight d.Only=_:=i1
 have m1:gP ⟨R,K,N,E⟩ d.ID d.Dep d.Weight d.Only=_:=m1
 unfold iZ DoS
 rw [hr,bnoS,bndD]
 unfold iO iN
 generalize d.Kind % 6=r
 by_cases e:r=0
 · rw [decide_eq_true e,bX,bX,i1,bnoS,if_pos (.inl e)]
 · rw [decide_eq_false e,bG,bndD]
   by_cases e1:r=1
   · rw [decide_eq_true e1,bX,i1,bnoS,if_pos (.inr e1)]
   · rw [decide_eq_false e1,bG,bndD,if_neg (fun hh=>hh.elim e e1)]
     by_cases e2:r=2
     · rw [decide_eq_true e2,bX,bX,m1,bnoS,if_pos (.inl e2)]
     · rw [decide_eq_false e2,bG,bndD]
       by_cases e3:r=3
       · rw [decide_eq_true e3,bX,m1,bnoS,if_pos (.inr e3)]
       · rw [decide_eq_false e3,bG,bndD,if_neg (fun hh=>hh.elim e2 e3)]
         by_cases e4:r=4
         · rw [decide_eq_true e4,bX,c1,bnoS,if_pos e4]
         · rw [decide_eq_false e4,bG,r1,bnoS,if_neg e4]
theorem PathR {a b:Int} (h:FV a ⟨24,b,N,E⟩) (id:Int):dZ ⟨R,K,N,E⟩ id=some (if hasN N id then fV N N.length id else []):=by
 have hok:Ok34 N:=h.ok
 obtain ⟨r,hrk⟩:∃ r:Int → Nat,∀ n ∈ N,n.Parent ≠ 0 → r n.Parent < r n.ID:=h.rk
 rw [rpath (t:=⟨R,K,N,E⟩) hok.ln (fun n hn=>by have:=hok.ra n hn; omega) id]
 by_cases hx:hasN N id
 · rw [if_pos hx]
   show some (fV N (N.length + 1) id)=_
   rw [qZ h.so hrk h.pa hx 1]
 · rw [if_neg hx]
   show some (fV N (N.length + 1) id)=_
   unfold fV
   rw [zN fun m hm e=>hx ⟨m,hm,e⟩]
theorem KidsR {A:AS} {ns:List Nk} {first:Int} {cl:List Int} (h:TS A ns first cl R K N E) (id:Int) (R' K' room keep:Int):∃ w,gD id room keep A.Cells A.Free A.Used ns first cl=some w ∧ eZ ⟨R',K',N,E⟩ id=some w ∧ w.length ≤ 24:=by
 have hso:N.Pairwise (fun a b=>a.ID < b.ID):=h.fv.so
 have hln:N.length ≤ 24:=h.fv.ln
 obtain ⟨w,w1,w2,w3,w4,w5⟩:=Kids_ts h id room keep
 have hk:pO N id=(N.filter fun n=>decide (n.Parent=id)).map (·.ID):=rfl
 have hks:(pO N id).Pairwise (· < ·):=by
  rw [hk,List.pairwise_map]; exact hso.sublist List.filter_sublist
 have e:w=pO N id:=by
  refine tG w2 hks fun i=>?_
  rw [hk]
  by_cases hh:hasN N id ∨ id=0
  · constructor
    · intro hi
      obtain ⟨m,hm,rfl⟩:=w3 i hi
      exact List.mem_map.2 ⟨m,List.mem_filter.2 ⟨hm,decide_eq_true ((w5 hh m hm).1 hi)⟩,rfl⟩
    · intro hi
      obtain ⟨m,hm,rfl⟩:=List.mem_map.1 hi
      obtain ⟨m1,m2⟩:=List.mem_filter.1 hm
      exact (w5 hh m m1).2 (of_decide_eq_true m2)
  · rw [w4 hh]
    constructor
    · intro hi; cases hi
    · intro hi
      obtain ⟨m,hm,rfl⟩:=List.mem_map.1 hi
      obtain ⟨m1,m2⟩:=List.mem_filter.1 hm
      have m2:=of_decide_eq_true m2
      rcases h.fv.pa m m1 with e | ⟨x,hx,e⟩
      · exact absurd (.inr (m2.symm.trans e)) hh
      · exact absurd (.inl ⟨x,hx,e.trans m2⟩) hh
 refine ⟨w,w1,?_,?_⟩
 · rw [aBM (t:=⟨R',K',N,E⟩) (by show N.length ≤ 1000; omega) id,e]
 · rw [e,hk,List.length_map]
   have:=List.length_filter_le (fun n:Nd=>decide (n.Parent=id)) N
   omega
end
end Go.Fn
open Go Go.IL
namespace Go.Fn
section
variable {N:List Nd} {R K:Int} {E:List Int}
def aBL (N:List Nd) (i:Int):Bool:=N.any fun m=>decide (m.ID=i) && !m.Closed
theorem aCi {a b:Int} (h:FV a ⟨24,b,N,E⟩) (id:Int):gO ⟨R,K,N,E⟩ id=some (aBL N id):=by
 have hln:N.length ≤ 24:=h.ln
 have hso:N.Pairwise (fun a b=>a.ID < b.ID):=h.so
 obtain ⟨i,hi,hp⟩:=uW (t:=⟨R,K,N,E⟩) (by show N.length ≤ 1000; omega) id
 have hp:Pl N id i:=hp
 unfold gO
 rw [hi,bnoS,bndD]
 cases hp with
 | yes A y C hN e _ =>
   have hg:gix N (A.length:Int)=some y:=gY hN
   rw [decide_eq_true (show 0 ≤ (A.length:Int) by omega),beq_self_eq_true,gdtt]
   show bno (gix N (A.length:Int)) _=_
   rw [hg,bnoS,bndD,Bool.true_and]
   congr 1
   have hy:y ∈ N:=by rw [hN]; simp
   unfold aBL
   cases hc : !y.Closed with
   | true=>exact (List.any_eq_true.2 ⟨y,hy,by rw [hc,decide_eq_true e]; rfl⟩).symm
   | false =>
     refine (List.any_eq_false.2 fun m hm hh=>?_).symm
     rw [Bool.and_eq_true,decide_eq_true_iff] at hh
     have:=nE hso hm hy (hh.1.trans e.symm)
     subst this
     rw [hc] at hh; cases hh.2
 | no hno =>
   rw [show decide (0 ≤ (-1:Int))=false from rfl,ft,gdff,bnoS,bndD,Bool.false_and]
   congr 1
   refine (List.any_eq_false.2 fun m hm hh=>?_).symm
   rw [Bool.and_eq_true,decide_eq_true_iff] at hh
   exact hno m hm hh.1
theorem aAE (l:List Int) (i:Int):askI N l i=(decide (i ∈ l) && aBL N i):=rfl
theorem wV {a b:Int} (h:FV a ⟨24,b,N,E⟩) {l:List Int} (hl:l.length ≤ 1000) {acc:List Int} (hacc:acc.length ≤ 1000) {k:Int} (hk:0 ≤ k ∧ k ≤ 1000) (kk:List Int → Int → Option (List Int)) {n:Nd} {P:List Int} (hP:P.length ≤ 1000):∀ (r q:List Int) (f:Nat) (v:Bool),P=q ++ r → r.length < f →
 dJ ⟨R,K,N,E⟩ l acc k kk n P f v (q.length:Int)=if (v && !(r.any (askI N l)))=true then kk (acc ++ [n.ID]) (k + 1) else kk acc (k + 1)
 | _,_,0,_,_,hf=>absurd hf (by omega)
 | [],q,f + 1,v,hN,_=>by
   rw [List.append_nil] at hN
   have hw:IntKind.wrap .i64 (k + 1)=k + 1:=w64 (by omega) (by omega)
   rw [dJ,bndD,hN,decide_eq_false (by omega),bG]
   cases v
   · rw [bG,hw,bndD,if_neg (by simp)]
   · rw [bX,kH (by simp; omega) (by simp; omega),bnoS,hw,bndD,if_pos (by simp)]
 | x :: r,q,f + 1,v,hN,hf=>by
   have hrec:=fun v=>wV h hl hacc hk kk (n:=n) hP r (q ++ [x]) f v (by rw [hN]; simp) (by simpa using hf)
   rw [dJ,bndD,mM hN,bX,gY hN,w_at hN (by omega)]
   cases v with
   | false =>
     rw [ft,gdff,bnoS,gdff,bnoS,Bool.false_and,gdff,bnoS,gdff,bnoS,bndD,bndD,bndD,Bool.false_and]
     have:=hrec false
     rw [Bool.false_and,if_neg (by decide)] at this
     rw [this,Bool.false_and,if_neg (by decide)]
   | true =>
     rw [beq_self_eq_true,gdtt,bnoS,gdtt,in19 (by omega),bnoS,Bool.true_and,List.any_cons,aAE]
     by_cases hx:x ∈ l
     · rw [decide_eq_true hx,beq_self_eq_true,gdtt,bnoS,gdtt,aCi h,bnoS,bndD,bndD,bndD,Bool.true_and,Bool.true_and,hrec]
       cases aBL N x <;> simp
     · rw [decide_eq_false hx,ft,gdff,bnoS,gdff,bnoS,bndD,bndD,bndD,Bool.false_and,Bool.not_false,Bool.and_self,hrec,Bool.false_and,Bool.false_or]
theorem wW {a b:Int} (h:FV a ⟨24,b,N,E⟩) {l:List Int} (hl:l.length ≤ 1000):∀ (r q:List Nd) (f:Nat) (acc:List Int),N=q ++ r → r.length < f → acc.length ≤ q.length →
 cH ⟨R,K,N,E⟩ l f acc (q.length:Int)=some (acc ++ (r.filter fun n=>nP N l n.ID).map (·.ID))
 | _,_,0,_,_,hf,_=>absurd hf (by omega)
 | [],q,f + 1,acc,hN,_,_=>by
   rw [List.append_nil] at hN
   rw [cH,bndD]
   show (bif decide ((q.length:Int) < (N.length:Int)) then _ else _)=_
   rw [hN,decide_eq_false (by omega),bG,List.filter_nil,List.map_nil,List.append_nil]
 | n :: r,q,f + 1,acc,hN,hf,ha=>by
   have hln:N.length ≤ 24:=h.ln
   have hq:q.length ≤ 24:=by rw [hN] at hln; simp at hln; omega
   have hn:hasN N n.ID:=⟨n,by rw [hN]; simp,rfl⟩
   have hrec:=fun acc ha=>wW h hl r (q ++ [n]) f acc (by rw [hN]; simp) (by simpa using hf) ha
   have hw:IntKind.wrap .i64 ((q.length:Int) + 1)=((q ++ [n]).length:Int):=w_at hN (by omega)
   rw [cH,bndD]
   show (bif decide ((q.length:Int) < (N.length:Int)) then (bno (gix N (q.length:Int)) _) else _)=_
   rw [mM hN,bX,gY hN,bnoS,in19 (by omega),bnoS]
   have hr:nP N l n.ID=(askI N l n.ID && !((fV N N.length n.ID).any (askI N l))):=rfl
   have hpl:=sU N N.length n.ID
   have hskip:askI N l n.ID=false → (bnd (IntKind.wrap .i64 ((q.length:Int) + 1)) fun x94=>cH ⟨R,K,N,E⟩ l f acc x94)=some (acc ++ ((n :: r).filter fun n=>nP N l n.ID).map (·.ID)):=fun hz=>by
    rw [hw,bndD,hrec acc (by simp; omega),List.filter_cons_of_neg (by rw [hr,hz,Bool.false_and]; exact Bool.false_ne_true)]
   have hmain:askI N l n.ID=true → (bno (dZ ⟨R,K,N,E⟩ n.ID) fun x95=>dJ ⟨R,K,N,E⟩ l acc (q.length:Int) (cH ⟨R,K,N,E⟩ l f) n x95 fuel true 0)=some (acc ++ ((n :: r).filter fun n=>nP N l n.ID).map (·.ID)):=fun hz=>by
    rw [PathR h,if_pos hn,bnoS]
    have hL:=wV (R:=R) (K:=K) h hl (acc:=acc) (by omega) (k:=(q.length:Int)) (by omega) (cH ⟨R,K,N,E⟩ l f) (n:=n) (P:=fV N N.length n.ID) (by omega) (fV N N.length n.ID) [] fuel true rfl (eS (by omega))
    refine Eq.trans hL ?_
    have e:((q.length:Int) + 1)=((q ++ [n]).length:Int):=by simp
    rw [Bool.true_and,e]
    by_cases hany:(fV N N.length n.ID).any (askI N l)=true
    · rw [hany,if_neg (by decide),hrec acc (by simp; omega),List.filter_cons_of_neg (by rw [hr,hany,Bool.not_true,Bool.and_false]; exact Bool.false_ne_true)]
    · have hany:=Bool.not_eq_true _ |>.mp hany
      rw [hany,if_pos (show (!false)=true from rfl),hrec _ (by simp; omega),List.filter_cons_of_pos (by rw [hr,hz,hany]; rfl),List.map_cons,List.append_assoc]; rfl
   rw [aAE] at hskip hmain
   by_cases hx:n.ID ∈ l
   · rw [decide_eq_true hx,Bool.true_and] at hskip hmain
     rw [decide_eq_true hx,show ((!true) == false)=true from rfl,gdtt,aCi h,bnoS,bndD,Bool.not_true,Bool.false_or]
     cases hlv:aBL N n.ID with
     | true=>rw [Bool.not_true,bG]; exact hmain hlv
     | false=>rw [Bool.not_false,bX]; exact hskip hlv
   · rw [decide_eq_false hx,Bool.false_and] at hskip
     rw [decide_eq_false hx,show ((!false) == false)=false from rfl,gdff,bnoS,bndD,Bool.not_false,Bool.true_or,bX]
     exact hskip rfl
theorem ReadyR {A:AS} {ns:List Nk} {first:Int} {cl:List Int} (h:TS A ns first cl R K N E) {l:List Int} (hl:l.length ≤ 1000) (R' K' room keep:Int):∃ w,gG l room keep A.Cells A.Free A.Used ns first cl=some w ∧ hD ⟨R',K',N,E⟩ l=some w ∧ w.length ≤ 24:=by
 have hln:N.length ≤ 24:=h.fv.ln
 have hso:N.Pairwise (fun a b=>a.ID < b.ID):=h.fv.so
 obtain ⟨w,w1,w2,w3,w4⟩:=aCU h hl room keep
 have hk:((N.filter fun n=>nP N l n.ID).map (·.ID)).Pairwise (· < ·):=by
  rw [List.pairwise_map]; exact hso.sublist List.filter_sublist
 have e:w=(N.filter fun n=>nP N l n.ID).map (·.ID):=by
  refine tG w2 hk fun i=>?_
  rw [w4]
  constructor
  · rintro ⟨⟨m,hm,rfl⟩,g⟩
    exact List.mem_map.2 ⟨m,List.mem_filter.2 ⟨hm,g⟩,rfl⟩
  · intro hi
    obtain ⟨m,hm,rfl⟩:=List.mem_map.1 hi
    obtain ⟨m1,m2⟩:=List.mem_filter.1 hm
    exact ⟨⟨m,m1,rfl⟩,m2⟩
 refine ⟨w,w1,?_,w3⟩
 rw [e]
 exact wW (R:=R') (K:=K') h.fv hl N [] fuel [] rfl (eS (by omega)) (Nat.le_refl _)
theorem xF {l:List Nd} (hl:l.length ≤ 1000):∀ (r q:List Nd) (f:Nat),l=q ++ r → r.length < f → fJ l f q (q.length:Int)=some l
 | _,_,0,_,hf=>absurd hf (by omega)
 | [],q,f + 1,h,_=>by
   rw [List.append_nil] at h
   rw [fJ,bndD,h,decide_eq_false (by omega),bG]
 | n :: r,q,f + 1,h,hf=>by
   have hq:q.length ≤ 1000:=by rw [h] at hl; simp at hl; omega
   rw [fJ,bndD,mM h,bX,gY h,bnoS,kH (by simp; omega) (by simp; omega),bnoS,w_at h (by omega),bndD]
   exact xF hl r (q ++ [n]) f (by rw [h]; simp) (by simpa using hf)
theorem nodes19 {l:List Nd} (hl:l.length ≤ 1000):iY l=some l:=xF hl l [] fuel rfl (eS (by omega))
end
theorem tC:iA=some true:=by kernel_rfl
theorem zK {l:List bT} {some_:List Int} (hg:GoodD l) (hl:l.length ≤ 60) (hs:some_.length ≤ 40) {R K:Int} {t0:aL}:∀ (r q:List bT) (f:Nat) {A:AS} {ns:List Nk} {first:Int} {cl:List Int} {N:List Nd} {E:List Int},TS A ns first cl R K N E → l=q ++ r → r.length < f →
 eA l some_ (t0,0) f (q.length:Int) R K A.Cells A.Free A.Used ns first cl R K N E=some true
 | _,_,0,_,_,_,_,_,_,_,_,hf=>absurd hf (by omega)
 | [],q,f + 1,A,ns,first,cl,N,E,h,hN,_=>by
   rw [List.append_nil] at hN
   rw [eA,bndD,hN,decide_eq_false (show ¬ (q.length:Int) < (q.length:Int) by omega),bndD,bndD,Bool.false_and,bG,tC]; rfl
 | d :: r,q,f + 1,A,ns,first,cl,N,E,h,hN,hf=>by
   have hd:=hg d (by rw [hN]; simp)
   obtain ⟨A',ns',first',cl',g1,g2⟩:=Do_tsS h hd.1
   have hM:=ModelR (R:=R) (K:=K) h.fv hd.1
   generalize hc:(DoS R K N E d).1=c at *
   generalize hN':(DoS R K N E d).2.1=N' at *
   generalize hE':(DoS R K N E d).2.2=E' at *
   have hln:N'.length ≤ 24:=g2.fv.ln
   have hel:(E'.length:Int) ≤ K:=g2.fv.el
   have hK:K ≤ 24:=g2.fv.kp.2.2
   obtain ⟨w,y1,y2,y3⟩:=ReadyR g2 (l:=some_) (by omega) R K R K
   obtain ⟨v,k1,k2,k3⟩:=KidsR g2 d.Dep R K R K
   have hP:=Path_ts g2 d.ID R K
   have hPR:=PathR (R:=R) (K:=K) g2.fv d.ID
   have hpl:(if hasN N' d.ID then fV N' N'.length d.ID else []).length ≤ 24:=by
    split
    · have:=sU N' N'.length d.ID; omega
    · exact Nat.zero_le _
   generalize hpe:(if hasN N' d.ID then fV N' N'.length d.ID else [])=p at *
   have hs1:fA N' N'=some true:=by rw [rneq34 (by omega),decide_eq_true rfl]
   have hs2:bO E' E'=some true:=by rw [zB (by omega),decide_eq_true rfl]
   have hs3:bO w w=some true:=by rw [zB (by omega),decide_eq_true rfl]
   have hs4:bO p p=some true:=by rw [zB (by omega),decide_eq_true rfl]
   have hs5:bO v v=some true:=by rw [zB (by omega),decide_eq_true rfl]
   have hrec:=zK hg hl hs (t0:=t0) r (q ++ [d]) f g2 (by rw [hN]; simp) (by simpa using hf)
   rw [eA,bndD,mM hN,bndD]
   show (bnd (true && decide ((0:Int)=0)) fun x229=>bif x229 then _ else _)=_
   rw [decide_eq_true rfl,bndD,Bool.and_self,bX,gY hN,bnoS,g1,bnoS,bnoS,hM,bnoS,w_at hN (by omega)]
   simp only [decide_true,Bool.not_true,bndD,beq_self_eq_true,gdtt,aCV g2,bnoS,nodes19 (show N'.length ≤ 1000 by omega),hs1,Bool.or_self,aBu g2,hs2,Len_ts g2,y1,y2,hs3,hP,hPR,hs4,k1,k2,hs5,bG]
   exact hrec
theorem aAM {n:qA} {l:List bT} {some_:List Int} (hg:GoodD l):hJ n l some_=some true:=by
 unfold hJ
 rw [bndD,bndD,bndD]
 by_cases h:60 < l.length
 · rw [decide_eq_true (show 60 < (l.length:Int) by omega),Bool.true_or,bX,tC]; rfl
 · rw [decide_eq_false (show ¬ 60 < (l.length:Int) by omega),Bool.false_or]
   by_cases h2:40 < some_.length
   · rw [decide_eq_true (by omega),bX,tC]; rfl
   · rw [decide_eq_false (by omega),bG,aBX,bnoS,aBX]
     by_cases hr:(1 ≤ n.c0 ∧ n.c0 ≤ 24) ∧ (0 ≤ n.c1 ∧ n.c1 ≤ n.c0)
     · obtain ⟨h3,h4⟩:=hr
       have hL:=zK hg (by omega) (some_:=some_) (by omega) (t0:=⟨n.c0,n.c1,[],[]⟩) l [] fuel (new_ts (R:=n.c0) (K:=n.c1) (by omega) (by omega)) rfl (eS (by omega))
       have hnew:gI n.c0 n.c1=some (⟨n.c0,n.c1,[],[]⟩,0):=by
        unfold gI
        simp only [bndD,decide_eq_false (show ¬ n.c0 < 1 by omega),decide_eq_false (show ¬ 24 < n.c0 by omega),decide_eq_false (show ¬ n.c1 < 0 by omega),decide_eq_false (show ¬ n.c0 < n.c1 by omega),Bool.or_self,bG]
       rw [decide_eq_true h3,show ((!true) == false)=true from rfl,gdtt,bnoS,decide_eq_true h4,bndD,show ((!true) || !true)=false from rfl,bG]
       show (bno (gI n.c0 n.c1) _)=_
       rw [hnew,bnoS]
       exact hL
     · have hnew:∃ t,gI n.c0 n.c1=some (t,8):=by
        unfold gI
        simp only [bndD]
        have hb:(decide (n.c0 < 1) || decide (24 < n.c0) || decide (n.c1 < 0) || decide (n.c0 < n.c1))=true:=by
         by_cases c1:n.c0 < 1 <;> by_cases c2:24 < n.c0 <;> by_cases c3:n.c1 < 0 <;> by_cases c4:n.c0 < n.c1 <;> simp [c1,c2,c3,c4]
         exact hr ⟨⟨by omega,by omega⟩,⟨by omega,by omega⟩⟩
        rw [hb,bX]
        exact ⟨_,rfl⟩
       obtain ⟨t,hnew⟩:=hnew
       have hend:∀ (a b:Int) (c:List Nd) (e:List Int),eB l some_ (t,8) fuel 0 a b c e=some true:=fun a b c e=>by
        obtain ⟨g,hgf⟩:∃ g,fuel=g + 1:=⟨fuel - 1,by have:=eS (n:=1) (by decide); omega⟩
        rw [hgf,eB,bndD,bndD,bndD]
        show (bif (_ && decide ((8:Int)=0)) then _ else _)=_
        rw [show decide ((8:Int)=0)=false from rfl,Bool.and_false,bG,tC]; rfl
       have hgo:(bno (gI n.c0 n.c1) fun x10=>bnd (!decide (8=x10.2)) fun x11=>bnd (decide (x10.2=0)) fun x12=>bnd (!(false == x12)) fun x13=>bnd (x11 || x13) fun x14=>bif x14 then (some false) else (eB l some_ x10 fuel 0 x10.1.Room x10.1.Keep x10.1.L x10.1.Closed))=some true:=by
        rw [hnew,bnoS]
        exact hend _ _ _ _
       by_cases h3:1 ≤ n.c0 ∧ n.c0 ≤ 24
       · have h4:¬ (0 ≤ n.c1 ∧ n.c1 ≤ n.c0):=fun h4=>hr ⟨h3,h4⟩
         rw [decide_eq_true h3,show ((!true) == false)=true from rfl,gdtt,bnoS,decide_eq_false h4,bndD,show ((!true) || !false)=true from rfl,bX]
         exact hgo
       · rw [decide_eq_false h3,show ((!false) == false)=false from rfl,gdff,bnoS,bndD,Bool.not_false,Bool.true_or,bX]
         exact hgo
end Go.Fn
open Go.RowKit Go.WideShapes Go.ChangeShapes
namespace Go.IL

def tD (v:Value):Prop:=∀ a n c,v = .slice (some a) n c → a.spot=none
theorem wT {P:Program} {w:World} {r:Reach} {b:Nat} {t:TypeId} {v:Value} (h:Cell.okWide P w r b t v):tD v:=by
 intro a n c e
 subst e
 have h2:Cell.ok P w r b t (.slice (some a) n c):=by
  unfold Cell.okWide at h
  split at h <;> first | exact h | (rename_i h3 _; cases h3) | (rename_i h3; cases h3) | skip
  all_goals first | exact h | simp_all
 unfold Cell.ok at h2
 split at h2 <;> simp_all [World.has]
theorem aBy {P:Program} {w:World} {r:Reach} {b:Nat} {t:TypeId} {v:Value} (h:Value.okWide P w r b t v):∀ u ∈ v.cells.toList,tD u:=by
 have agg:∀ cs:Array Value,Row.okWide P w r b t cs → ∀ u ∈ cs.toList,tD u:=by
  intro cs ⟨ts,_,_,h3⟩ u hu
  obtain ⟨i,hi⟩:=List.getElem?_of_mem hu
  obtain ⟨q,_,hq⟩:=h3 i u (by simpa using hi)
  exact wT hq
 unfold Value.okWide at h
 split at h
 · obtain ⟨cs,rfl,_,h⟩:=h; simpa [Value.cells] using agg cs h
 · obtain ⟨cs,rfl,_,h⟩:=h; simpa [Value.cells] using agg cs h
 · have h2:=wT h
   intro u hu
   cases v with
   | agg cs =>
     exfalso
     unfold Cell.okWide at h
     split at h <;> simp_all [Cell.ok]
   | _=>simp [Value.cells] at hu; subst hu; exact h2

def Env.none (w:World):Env:=⟨w,fun _ _=>False⟩
def OpD (P:Program) (sp:Bool) (t:TypeId) (Q:List D → Prop):Prop :=
 ∀ {H:Type} {enc:TypeId × Value → H} {w:World} {base:Nat} {spare:Nat → Bool} {held:Bool} {fuel:Nat} {cs:List Value} {x:DataW H × List MemPlace},
   DataW.trod enc P w base spare held fuel t cs=some x → (sp=true → ∀ v ∈ cs,tD v) → ∃ ds,RdL (Env.none w) β0 cs ds ∧ Q ds
def qInt (k:IntKind) (ds:List D):Prop:=∃ n:Int,ds=[.int k n] ∧ (k.min ≤ n ∧ n ≤ k.max)
def qBool (ds:List D):Prop:=∃ b:Bool,ds=[.bool b]
def qSlice {α:Type} (f:Enc α) (wf:α → Prop) (ds:List D):Prop:=∃ l:List α,ds=[.slice false (l.map f.d)] ∧ l.length ≤ 9223372036854775807 ∧ ∀ x ∈ l,wf x
def aA3:List (List D → Prop) → List D → Prop
 | [],ds=>ds=[]
 | Q :: Qs,ds=>∃ a b,ds=a ++ b ∧ Q a ∧ aA3 Qs b

section
variable {P:Program} {sp:Bool} {t:TypeId}
theorem rU {k:IntKind} (hu:P.underlying t=some (.int k)):OpD P sp t (qInt k):=by
 intro H enc w base spare held fuel cs x h _
 obtain ⟨n,rfl,rfl,hw⟩:=DataW.trod_int hu h
 exact ⟨[.int k n],.cons (.int _ _ _) (.nil _),n,rfl,by simpa [Lit.wf] using hw⟩
theorem aB7 (hu:P.underlying t=some .bool):OpD P sp t qBool:=by
 intro H enc w base spare held fuel cs x h _
 obtain ⟨b,rfl,rfl⟩:=DataW.trod_bool hu h
 exact ⟨[.bool b],.cons (.bool _ _) (.nil _),b,rfl⟩
theorem xD {α:Type} {f:Enc α} {e:TypeId} {wf:α → Prop} (hu:P.underlying t=some (.slice e)) (hc:P.cellsOf e=f.sz) (he:OpD P false e (fun ds=>∃ a,ds=(f.d a).cells ∧ wf a)):OpD P sp t (qSlice f wf):=by
 intro H enc w base spare held fuel cs x h hs
 rcases DataW.trod_slice hu h with ⟨rfl,_⟩ | ⟨a,len,cap,elems,rest,n,_,rfl,rfl,hb,hl,hm,hlen,hel,_,_⟩
 · exact ⟨[.slice false []],.cons (.nslice _ _) (.nil _),[],rfl,by simp,by simp⟩
 · by_cases hl0:len=0
   · subst hl0; exact ⟨[.slice false []],.cons (.eslice _ a cap false (fun h=>by cases h)) (.nil _),[],rfl,by simp,by simp⟩
   have hsp0:a.spot=none:=by
    have h1:=hel 0 (by omega)
    have h2:elems[0]? = some (elems[0]'(by omega)):=List.getElem?_eq_getElem _
    rw [h2,Option.bind_eq_some_iff] at h1
    obtain ⟨vs,h3,_⟩:=h1
    have h7:=World.cells?_some h3
    have hp:=f.pos
    have h8:=h7.2.2 0 (by rw [hc]; exact hp)
    rw [Nat.zero_mul] at h8
    have e0:((a.add 0).add 0)=a:=rfl
    rw [e0] at h8
    cases hsp:a.spot with
    | none=>rfl
    | some q =>
      exfalso
      unfold World.cell? at h8
      rw [hsp] at h8
      split at h8
      · simp at h8; have:=h7.1; simp_all
      · have:=h7.1; simp_all
   have ha:a=⟨a.block,a.off,none⟩:=by cases a; simp_all
   have each:∀ i,i < len → ∃ (vs:List Value) (y:α),(∀ k v,vs[k]? = some v → w.cell? ⟨a.block,a.off + (i * f.sz + k),none⟩=some v) ∧ RdL (Env.none w) β0 vs (f.d y).cells ∧ wf y:=by
    intro i hi
    have h1:=hel i hi
    have h2:elems[i]? = some (elems[i]'(by omega)):=List.getElem?_eq_getElem _
    rw [h2,Option.bind_eq_some_iff] at h1
    obtain ⟨vs,h3,h4⟩:=h1
    obtain ⟨ds,h5,y,rfl,h6⟩:=he h4 (by simp)
    refine ⟨vs,y,fun k v hk=>?_,h5,h6⟩
    have h7:=World.cells?_some h3
    have hk':=(List.getElem?_eq_some_iff.1 hk).1
    have h8:=h7.2.2 k (by omega)
    rw [hk,ha,hc] at h8
    rw [← h8]
    congr 1
    by_cases h9:i * f.sz=0
    · by_cases h10:k=0
      · simp [Addr.add,h9,h10]
      · simp [Addr.add,h9,h10]
    · by_cases h10:k=0
      · simp [Addr.add,h9,h10]
      · simp [Addr.add,h9,h10,Nat.add_assoc]
   have all:∀ m,m ≤ len → ∃ (vs:List Value) (l:List α),l.length=m ∧ (∀ k v,vs[k]? = some v → w.cell? ⟨a.block,a.off + k,none⟩=some v) ∧ RdL (Env.none w) β0 vs (D.flat (l.map f.d)) ∧ ∀ y ∈ l,wf y:=by
    intro m
    induction m with
    | zero=>intro _; exact ⟨[],[],rfl,by simp,.nil _,by simp⟩
    | succ m ih =>
      intro hm'
      obtain ⟨vs,l,h1,h2,h3,h4⟩:=ih (by omega)
      obtain ⟨us,y,h5,h6,h7⟩:=each m (by omega)
      have hvl:vs.length=m * f.sz:=by rw [h3.length,f.flat_len,h1]
      refine ⟨vs ++ us,l ++ [y],by simp [h1],fun k v hk=>?_,?_,?_⟩
      · by_cases hk':k < vs.length
        · exact h2 k v (by rwa [List.getElem?_append_left hk'] at hk)
        · rw [List.getElem?_append_right (by omega)] at hk
          have:=h5 _ _ hk
          rwa [hvl,show m * f.sz + (k - m * f.sz)=k by omega] at this
      · rw [List.map_append]
        have e2:D.flat (l.map f.d ++ [y].map f.d)=D.flat (l.map f.d) ++ (f.d y).cells:=by simp [D.flat]
        rw [e2]; exact h3.append h6
      · intro z hz
        rcases List.mem_append.1 hz with h | h
        · exact h4 z h
        · simp at h; subst h; exact h7
   obtain ⟨vs,l,h1,h2,h3,h4⟩:=all len (Nat.le_refl _)
   refine ⟨[.slice false (l.map f.d)],.cons ?_ (.nil _),l,rfl,by unfold maxLen at hm; omega,h4⟩
   rw [ha]
   exact .slice _ _ _ len cap f.sz false vs _ (by rw [List.length_map,h1]) hl (by simp) (f.len l) f.pos (fun k v hk=>⟨h2 k v hk,fun h=>h⟩) h3

def sY (P:Program):Nat → List Field → Bool
 | _,[]=>true
 | k,f :: fs=>f.offset == k && sY P (k + P.cellsOf f.type) fs
inductive OpFs (P:Program) (sp:Bool):List Field → List (List D → Prop) → Prop
 | nil:OpFs P sp [] []
 | cons {f fs Q Qs} (h:OpD P sp f.type Q) (t:OpFs P sp fs Qs):OpFs P sp (f :: fs) (Q :: Qs)
theorem aAN {fs:Array Field} {Qs:List (List D → Prop)} (hu:P.underlying t=some (.struct fs)) (hf:sY P 0 fs.toList=true) (hn:P.cellsOf t=(fs.toList.map fun f=>P.cellsOf f.type).sum) (h:OpFs P sp fs.toList Qs):OpD P sp t (aA3 Qs):=by
 intro H enc w base spare held fuel cs x hx hs
 obtain ⟨xs,n,_,_,hlen,hxl,hfld⟩:=DataW.trod_struct hu hx
 have key:∀ (l:List Field) (Qs:List (List D → Prop)) (k:Nat),OpFs P sp l Qs → sY P k l=true → k + (l.map fun f=>P.cellsOf f.type).sum=cs.length →
  (∀ f ∈ l,∃ y,DataW.trod enc P w base spare held n f.type ((cs.drop f.offset).take (P.cellsOf f.type))=some y) → ∃ ds,RdL (Env.none w) β0 (cs.drop k) ds ∧ aA3 Qs ds:=by
  intro l Qs k ho
  induction ho generalizing k with
  | nil =>
    intro _ h1 _
    refine ⟨[],?_,rfl⟩
    rw [List.drop_of_length_le (by simp at h1; omega)]; exact .nil _
  | @cons f fs Q Qs h t ih =>
    intro h1 h2 h3
    simp only [sY,Bool.and_eq_true,beq_iff_eq] at h1
    simp only [List.map_cons,List.sum_cons] at h2
    obtain ⟨y,hy⟩:=h3 f (by simp)
    rw [h1.1] at hy
    obtain ⟨ds,h4,h5⟩:=h hy (fun hsp v hv=>hs hsp v (List.mem_of_mem_drop (List.mem_of_mem_take hv)))
    obtain ⟨es,h6,h7⟩:=ih (k + P.cellsOf f.type) h1.2 (by omega) (fun g hg=>h3 g (by simp [hg]))
    refine ⟨ds ++ es,?_,ds,es,rfl,h5,h7⟩
    have:=h4.append h6
    rwa [← List.drop_drop,List.take_append_drop] at this
 have:=key fs.toList Qs 0 h hf (by rw [Nat.zero_add,← hn,hlen]) (fun f hf=>by
  obtain ⟨i,hi⟩:=List.getElem?_of_mem hf
  have h1:=hfld i f (by simpa using hi)
  have h2:i < xs.length:=by rw [hxl]; have:=(List.getElem?_eq_some_iff.1 hi).1; simpa using this
  exact ⟨xs[i],by rw [h1,List.getElem?_eq_getElem h2]⟩)
 rwa [List.drop_zero] at this
theorem OpD.to {Q R:List D → Prop} (h:OpD P sp t Q) (k:∀ ds,Q ds → R ds):OpD P sp t R:=by
 intro H enc w base spare held fuel cs x hx hs
 obtain ⟨ds,h1,h2⟩:=h hx hs
 exact ⟨ds,h1,k ds h2⟩
theorem yJ {Q:List D → Prop} (h:OpD P true t Q) {H:Type} {enc:TypeId × Value → H} {w:World} {base b0:Nat} {spare:Nat → Bool} {held:Bool} {v:Value} {d:DataW H} {ps:List MemPlace} {r:Reach}
 (hv:Value.okWide P w r b0 t v) (hd:DataW.Trod enc P w base spare held t v d ps):∃ ds,RdL (Env.none w) β0 v.cells.toList ds ∧ Q ds:=by
 obtain ⟨fuel,hf⟩:=hd
 exact h hf (fun _=>aBy hv)
theorem aAy {E:Env} {v:Value} {d:D} (h:RdL E β0 v.cells.toList [d]) (hn:∀ cs,v ≠ .agg cs):Rd E β0 v d:=by
 cases v with
 | agg cs=>exact absurd rfl (hn cs)
 | _=>simp [Value.cells] at h; cases h with | cons h _=>exact h
theorem aA2 {E:Env} {cs:Array Value} {ds:List D} (h:RdL E β0 (Value.cells (.agg cs)).toList ds):Rd E β0 (.agg cs) (.agg ds):=by
 have:=Rd.agg (E:=E) β0 cs.toList ds (by simpa [Value.cells] using h)
 simpa using this

section
variable {H:Type} {enc:TypeId × Value → H}
theorem qU (hl:laidOutB P=true) {W W':World} (hb:Below W.heap.size W W') {sp:Nat → Bool}:∀ {ts:List TypeId} {vs:List Value} {ds:List (DataW H)} {ps:List MemPlace},
 (∀ t ∈ ts,P.readableRec t=true ∧ t < P.types.size) → DataW.TrodAll enc P W 0 (fun _=>true) true ts vs ds ps → (∀ x ∈ ps,x.block < W.heap.size) → (∀ x ∈ ps,sp x.block=true) →
 DataW.TrodAll enc P W' 0 sp true ts vs ds ps
 | [],vs,ds,ps,_,h,_,_=>by
   obtain ⟨rfl,rfl,rfl⟩:=trodAll_nil h; exact rfl
 | t :: ts,vs,ds,ps,hr,h,hlt,hsp=>by
   obtain ⟨v,vs',d,ds',p,q,rfl,rfl,rfl,h1,h2⟩:=trodAll_cons h
   refine ⟨p,q,?_,qU hl hb (fun t ht=>hr t (by simp [ht])) h2 (fun x hx=>hlt x (by simp [hx])) (fun x hx=>hsp x (by simp [hx])),rfl⟩
   have hx:∀ x ∈ p,x ∈ p ++ q:=fun x hx=>by simp [hx]
   exact WideElems.Trod_stays hl (hr t (by simp)).1 (hr t (by simp)).2 h1 (fun x hxp=>hb.same (hlt x (hx x hxp))) (fun x hxp=>hsp x (hx x hxp))
theorem vQ {f:Func} {s:ChangeSpec} {apart fresh handsOn again:Bool} {W W':World} {args:Array Value} {v:Value} {ds gs:List (DataW H)} {before pa pv:List MemPlace}
 (hW:DataW.Whole enc P f.params.toList s.vars apart W args.toList ds gs before)
 (hres:∀ (b:Nat) (sp:Nat → Bool) (hd:Bool),DataW.TrodAll enc P W' b sp hd f.resultTypes.toList (v.resultList f.resultTypes.size) (s.fn H (ds ++ gs)).results [])
 (hargs:∀ sp:Nat → Bool,(∀ p ∈ before,sp p.block=true) → DataW.TrodAll enc P W' 0 sp true f.params.toList args.toList (s.fn H (ds ++ gs)).args pa)
 (hvars:∀ sp:Nat → Bool,(∀ p ∈ before,sp p.block=true) → DataW.TrodVars enc P W' sp s.vars (s.fn H (ds ++ gs)).vars pv)
 (hps:before=pa ++ pv) (hb:Below W.heap.size W W')
 (hok:∀ (j:Nat) (t:TypeId) (r:Value),f.resultTypes[j]? = some t → (v.resultList f.resultTypes.size)[j]? = some r → Value.okWide P W' .any 0 t r) :
 s.post enc P f apart fresh handsOn again W args v W':=by
 have hlt:∀ p ∈ before,p.block < W.heap.size:=fun p hp=>hW.lt p hp
 have hold:∀ p ∈ before,(fun b=>decide (b < W.heap.size)) p.block=true:=fun p hp=>by simpa using hlt p hp
 refine ⟨ds,gs,before,[],pa,pv,hW,hres _ _ _,hargs _ hold,hvars _ hold,World.keptBut_mono (fun p hp=>⟨hp,?_⟩) (hb.frame (· ∈ before)),fun _=>?_⟩
 · rw [hps,List.mem_append] at hp
   exact Or.inr hp
 · obtain ⟨_,_,_,_,_,hz,hn⟩:=hW
   refine ⟨hok,_,_,([] ++ pa) ++ pv,⟨[] ++ pa,pv,trodAll_append (hargs _ (fun _ _=>rfl)) (hres _ _ _),hvars _ (fun _ _=>rfl),rfl,?_,?_⟩,?_⟩
   · intro b off hp
     have hin:MemPlace.cell b off ∈ before:=by rw [hps]; simpa using hp
     rw [hb.frozen (hlt _ hin)]
     exact hz b off hin
   · intro ha
     have:=hn ha
     rw [hps] at this
     simpa using this
   · intro p hp _
     rw [hps]
     simpa using hp
theorem aCB {f:Func} {s:ChangeSpec} {apart fresh handsOn again:Bool} {W W':World} {args:Array Value} {ds gs:List (DataW H)} {before:List MemPlace} {tb:TypeId}
 (hl:laidOutB P=true) (hr:∀ t ∈ f.params.toList,P.readableRec t=true ∧ t < P.types.size) (hv:s.vars=[]) (hres:f.resultTypes = #[tb]) (hbool:P.underlying tb=some .bool)
 (hfn:s.fn H (ds ++ gs) = { results:=[.lit (.bool true)],args:=ds })
 (hW:DataW.Whole enc P f.params.toList s.vars apart W args.toList ds gs before) (hb:Below W.heap.size W W'):s.post enc P f apart fresh handsOn again W args (.bool true) W':=by
 have hW':=hW
 obtain ⟨p,q,hA,hV,hbef,hfz,hnd⟩:=hW
 rw [hv] at hV
 obtain ⟨rfl,rfl⟩:=trodVars_none hV
 have hlt:∀ x ∈ before,x.block < W.heap.size:=fun x hx=>hW'.lt x hx
 have hsub:∀ x ∈ p,x ∈ before:=fun x hx=>by rw [hbef]; simp [hx]
 refine vQ (pa:=p) (pv:=[]) hW' ?_ ?_ ?_ ?_ hb ?_
 · intro b sp hd
   rw [hfn,hres]
   exact trodAll_mk1 (shut_bool hbool true)
 · intro sp hsp
   rw [hfn]
   exact qU hl hb hr hA (fun x hx=>hlt x (hsub x hx)) (fun x hx=>hsp x (hsub x hx))
 · intro sp hsp
   rw [hfn,hv]; exact rfl
 · exact hbef
 · exact ok_one hres rfl (okWide_bool_mk hbool true)
end
end
end Go.IL
namespace Go.IL
theorem aAL {P:Program} {w W:World} {r:Reach} {b:Nat} {t:TypeId} {v:Value} {ds:List D} (hv:Value.okWide P W r b t v) (hg:jL P t=true) (h:RdL (Env.none w) β0 v.cells.toList ds):Rd (Env.none w) β0 v (.agg ds):=by
 unfold jL at hg
 unfold Value.okWide at hv
 split at hv
 · obtain ⟨cs,rfl,_⟩:=hv; exact aA2 h
 · obtain ⟨cs,rfl,_⟩:=hv; exact aA2 h
 · rename_i h1 h2
   split at hg
   · rename_i h3; exact absurd h3 (h1 _)
   · rename_i h3; exact absurd h3 (h2 _ _)
   · cases hg
theorem uU {P:Program} {w W:World} {r:Reach} {b:Nat} {t:TypeId} {v:Value} {d:D} (hv:Value.okWide P W r b t v) (hg:jL P t=false) (h:RdL (Env.none w) β0 v.cells.toList [d]):Rd (Env.none w) β0 v d:=by
 refine aAy h fun cs e=>?_
 subst e
 unfold jL at hg
 unfold Value.okWide at hv
 split at hv
 · rename_i h1; rw [h1] at hg; cases hg
 · rename_i h1; rw [h1] at hg; cases hg
 · unfold Cell.okWide at hv
   split at hv <;> simp_all [Cell.ok]
end Go.IL
open Go.RowKit Go.WideShapes Go.ChangeShapes
namespace Go.IL
theorem aBA {P:Program} {sp:Bool} {t e:TypeId} {n:Nat} {Q:List D → Prop} (hu:P.underlying t=some (.array n e)) (hn:P.cellsOf t=n * P.cellsOf e) (he:OpD P sp e Q):OpD P sp t (aA3 (List.replicate n Q)):=by
 intro H enc w base spare held fuel cs x hx hs
 obtain ⟨xs,m,_,_,hlen,hxl,hel⟩:=DataW.trod_array hu hx
 have key:∀ (j k:Nat),k + j=n → ∃ ds,RdL (Env.none w) β0 (cs.drop (k * P.cellsOf e)) ds ∧ aA3 (List.replicate j Q) ds:=by
  intro j
  induction j with
  | zero =>
    intro k hk
    refine ⟨[],?_,rfl⟩
    rw [List.drop_of_length_le (by rw [hlen,hn,← hk]; simp)]; exact .nil _
  | succ j ih =>
    intro k hk
    obtain ⟨es,h1,h2⟩:=ih (k + 1) (by omega)
    have h3:=hel k (by omega)
    rw [List.getElem?_eq_getElem (by omega)] at h3
    obtain ⟨ds,h4,h5⟩:=he h3 (fun hsp v hv=>hs hsp v (List.mem_of_mem_drop (List.mem_of_mem_take hv)))
    refine ⟨ds ++ es,?_,ds,es,rfl,h5,h2⟩
    have h6:=h4.append h1
    have e1:(k + 1) * P.cellsOf e=k * P.cellsOf e + P.cellsOf e:=by rw [Nat.add_mul,Nat.one_mul]
    rwa [e1,← List.drop_drop,List.take_append_drop] at h6
 have:=key n 0 (by omega)
 rwa [Nat.zero_mul,List.drop_zero] at this
end Go.IL
