/-
  A part of the proof: rules and plain facts. No condition.
-/
import Derived.Test.YtknpfbfkaccgmaaGreatIlP131
import Derived.Test.YtknpfbfkaccgmaaGreatIlA34tD
import Derived.Test.YtknpfbfkaccgmaaGreatIlPn
import Derived.ProofKit
import Derived.OpenShut
set_option linter.all false
open Go Go.IL
namespace Go.Fn
def fitW (id:Int) (w:Ws):Prop:=(1 ≤ id ∧ id ≤ 1048576) ∧ (0 ≤ w.dep ∧ w.dep ≤ 1048576) ∧ 1 ≤ w.weight ∧ w.weight ≤ 256
instance (id:Int) (w:Ws):Decidable (fitW id w):=inferInstanceAs (Decidable (_ ∧ _))
def sE (id:Int) (w:Ws):Int:=if fitW id w then (if id=w.dep then 4 else 0) else 8
theorem aCq (a b c:Int):oH a b c=some (decide (b ≤ a ∧ a ≤ c)):=by
 unfold oH
 rw [bndD,bndD,bndD,← Bool.decide_and]
theorem aBo (id:Int) (w:Ws):kN w id=some (sE id w):=by
 unfold kN iM sE
 rw [aCq,bnoS]
 by_cases h1:1 ≤ id ∧ id ≤ 1048576
 · rw [decide_eq_true h1,Bool.not_true,bD,aCq,bnoS]
   by_cases h2:0 ≤ w.dep ∧ w.dep ≤ 1048576
   · rw [decide_eq_true h2,Bool.not_true,bD,aCq,bnoS]
     by_cases h3:1 ≤ w.weight ∧ w.weight ≤ 256
     · rw [decide_eq_true h3,Bool.not_true,bD,bndD,if_pos (show fitW id w from ⟨h1,h2,h3⟩)]
       by_cases h4:id=w.dep
       · rw [decide_eq_true h4,bM,if_pos h4]
       · rw [decide_eq_false h4,bD,if_neg h4]
     · rw [decide_eq_false h3,Bool.not_false,bM,if_neg (fun hh:fitW id w=>h3 hh.2.2)]
   · rw [decide_eq_false h2,Bool.not_false,bM,bM,if_neg (fun hh:fitW id w=>h2 hh.2.1)]
 · rw [decide_eq_false h1,Bool.not_false,bM,bM,if_neg (fun hh:fitW id w=>h1 hh.1)]
theorem sD {id:Int} {w:Ws} (h:sE id w=0):aDm id w:=by
 unfold sE at h
 split at h
 · rename_i hf
   split at h
   · cases h
   · rename_i hn
     exact ⟨hf.1,fun e=>hn e.symm,hf.2.1.1,hf.2.2⟩
 · cases h
def hasN (N:List Nd) (id:Int):Prop:=∃ m ∈ N,m.ID=id
instance (N:List Nd) (id:Int):Decidable (hasN N id):=inferInstanceAs (Decidable (∃ m ∈ N,m.ID=id))
theorem zA {A:AS} {ns:List Nk} {first:Int} {cl:List Int} {R K:Int} {N:List Nd} {E:List Int} (h:TS A ns first cl R K N E) (id:Int) (room keep:Int) :
 (hasN N id ∧ ∃ p,gK A p ∧ idP ns p=id ∧ eH id room keep A.Cells A.Free A.Used ns first cl=some (p:Int)) ∨ (¬ hasN N id ∧ eH id room keep A.Cells A.Free A.Used ns first cl=some (-1)):=by
 obtain ⟨sp,kids,hR,h0⟩:=h.rl
 rcases aC2 hR id room keep cl with ⟨p,p1,p2,p3⟩ | ⟨p1,p2⟩
 · obtain ⟨v,n,k1,k2,k3,k4,k5⟩:=hR.up p p1
   exact .inl ⟨⟨_,k5,(cZ k2).symm.trans p2⟩,p,p1,p2,p3⟩
 · refine .inr ⟨fun ⟨m,hm,e⟩=>?_,p2⟩
   obtain ⟨p,n,v,k1,k2,k3,k4,rfl⟩:=hR.bw m hm
   exact p1 p k1 ((cZ k3).trans e)
theorem aDl {A:AS} {ns:List Nk} {first:Int} {cl:List Int} {R K:Int} {N:List Nd} {E:List Int} (h:TS A ns first cl R K N E) {x:Nat} (hx:gK A x) {w:Ws} (hw:aDm (idP ns x) w) (room keep:Int) :
 ∃ ns' first',gQ (x:Int) w room keep A.Cells A.Free A.Used ns first cl=some (room,keep,A.Cells,A.Free,A.Used,ns',first',cl) ∧ TS A ns' first' cl R K (mV N (idP ns x) w) E:=by
 obtain ⟨sp,kids,hR,h0⟩:=h.rl
 obtain ⟨cN,c1,c2,c3⟩:=h.cn
 obtain ⟨r,hr⟩:=h.fv.rk
 have hln:N.length ≤ 24:=h.fv.ln
 obtain ⟨w1,w2,w3,w4⟩:=hw
 obtain ⟨ns',first',kids',g1,g2,g3,g4⟩:=aBF hR h0 (fun m hm=>(h.fv.ra m hm).1.1) (by omega) hr h.fv.pa hx w w2 w3 room keep cl
 obtain ⟨v,n,k1,k2,k3,k4,k5⟩:=hR.up x hx
 obtain ⟨f1,f2⟩:=aBG h.fv (x:=idP ns x) ⟨_,k5,(cZ k2).symm⟩ w2 w4
 refine ⟨ns',first',g1,⟨sp,kids',g2,g3⟩,⟨cN,c1,c2,?_⟩,f1,by rw [f2]; exact h.ln,h.rm⟩
 rw [c3]
 exact List.map_congr_left fun p hp=>(g4 p).symm
def pN (R:Int) (N:List Nd) (E:List Int) (id:Int) (w:Ws):Int × List Nd × List Int :=
 if sE id w=0 then (if hasN N id then (13,N,E) else insS R N E id w) else (sE id w,N,E)
def zH (R:Int) (N:List Nd) (E:List Int) (id:Int) (w:Ws):Int × List Nd × List Int :=
 if sE id w=0 then (if hasN N id then (0,mV N id w,E) else insS R N E id w) else (sE id w,N,E)
def qM (N:List Nd) (E:List Int) (id:Int):Int × List Nd × List Int :=
 if hasN N id then (0,offT N id,E.filter fun e=>!decide (e=id)) else (6,N,E)
theorem aDC {A:AS} {ns:List Nk} {first:Int} {cl:List Int} {R K:Int} {N:List Nd} {E:List Int} (h:TS A ns first cl R K N E) (id dep weight:Int) (only:Bool) :
 ∃ A' ns' first' cl',kB id dep weight only R K A.Cells A.Free A.Used ns first cl=some ((pN R N E id ⟨dep,weight,only⟩).1,R,K,A'.Cells,A'.Free,A'.Used,ns',first',cl') ∧ TS A' ns' first' cl' R K (pN R N E id ⟨dep,weight,only⟩).2.1 (pN R N E id ⟨dep,weight,only⟩).2.2:=by
 unfold kB pN
 rw [aBo,bnoS,bndD]
 by_cases h1:sE id ⟨dep,weight,only⟩=0
 · rw [decide_eq_true h1,Bool.not_true,bD,if_pos h1]
   rcases zA h id R K with ⟨f1,p,f2,f3,f4⟩ | ⟨f1,f4⟩
   · rw [f4,bnoS,bndD,decide_eq_false (by omega),Bool.not_false,bM,if_pos f1]
     exact ⟨A,ns,first,cl,rfl,h⟩
   · rw [f4,bnoS,bndD,decide_eq_true rfl,Bool.not_true,bD,if_neg f1]
     obtain ⟨A',ns',first',cl',g1,g2⟩:=aAJ h (sD h1) fun m hm e=>f1 ⟨m,hm,e⟩
     rw [g1,bnoS]
     exact ⟨A',ns',first',cl',rfl,g2⟩
 · rw [decide_eq_false h1,Bool.not_false,bM,if_neg h1]
   exact ⟨A,ns,first,cl,rfl,h⟩
theorem Move_ts {A:AS} {ns:List Nk} {first:Int} {cl:List Int} {R K:Int} {N:List Nd} {E:List Int} (h:TS A ns first cl R K N E) (id dep weight:Int) (only:Bool) :
 ∃ A' ns' first' cl',lL id dep weight only R K A.Cells A.Free A.Used ns first cl=some ((zH R N E id ⟨dep,weight,only⟩).1,R,K,A'.Cells,A'.Free,A'.Used,ns',first',cl') ∧ TS A' ns' first' cl' R K (zH R N E id ⟨dep,weight,only⟩).2.1 (zH R N E id ⟨dep,weight,only⟩).2.2:=by
 unfold lL zH
 rw [aBo,bnoS,bndD]
 by_cases h1:sE id ⟨dep,weight,only⟩=0
 · rw [decide_eq_true h1,Bool.not_true,bD,if_pos h1]
   rcases zA h id R K with ⟨f1,p,f2,f3,f4⟩ | ⟨f1,f4⟩
   · rw [f4,bnoS,bndD,decide_eq_false (by omega),bD,if_pos f1]
     obtain ⟨ns',first',g1,g2⟩:=aDl h f2 (by rw [f3]; exact sD h1) R K
     rw [g1,bnoS]
     rw [f3] at g2
     exact ⟨A,ns',first',cl,rfl,g2⟩
   · rw [f4,bnoS,bndD,decide_eq_true rfl,bM,if_neg f1]
     obtain ⟨A',ns',first',cl',g1,g2⟩:=aAJ h (sD h1) fun m hm e=>f1 ⟨m,hm,e⟩
     rw [g1,bnoS]
     exact ⟨A',ns',first',cl',rfl,g2⟩
 · rw [decide_eq_false h1,Bool.not_false,bM,if_neg h1]
   exact ⟨A,ns,first,cl,rfl,h⟩
theorem aDB {A:AS} {ns:List Nk} {first:Int} {cl:List Int} {R K:Int} {N:List Nd} {E:List Int} (h:TS A ns first cl R K N E) (id:Int) :
 ∃ A' ns' first' cl',jZ id R K A.Cells A.Free A.Used ns first cl=some ((qM N E id).1,R,K,A'.Cells,A'.Free,A'.Used,ns',first',cl') ∧ TS A' ns' first' cl' R K (qM N E id).2.1 (qM N E id).2.2:=by
 unfold jZ qM
 rcases zA h id R K with ⟨f1,p,f2,f3,f4⟩ | ⟨f1,f4⟩
 · rw [f4,bnoS,bndD,decide_eq_false (by omega),bD,if_pos f1]
   obtain ⟨L,y,Rr,ns',first',cl',g1,g2,g3,g4,g5⟩:=aCT h f2 R K
   rw [g3,bnoS]
   rw [aCV h.fv.so g1 (g2.trans f3),g2.trans f3] at g4
   exact ⟨pJ A p,ns',first',cl',rfl,g4⟩
 · rw [f4,bnoS,bndD,decide_eq_true rfl,bM,if_neg f1]
   exact ⟨A,ns,first,cl,rfl,h⟩
end Go.Fn
open Go Go.IL
namespace Go.Fn
def clN (id:Int) (n:Nd):Nd:=if n.ID=id then ⟨n.ID,n.Parent,n.Weight,true⟩ else n
theorem xT (id:Int) (n:Nd):(clN id n).ID=n.ID:=by unfold clN; split <;> rfl
theorem aC8 (id:Int) (n:Nd):(clN id n).Parent=n.Parent:=by unfold clN; split <;> rfl
theorem clN_w (id:Int) (n:Nd):(clN id n).Weight=n.Weight:=by unfold clN; split <;> rfl
theorem aD7 {A C:List Nd} {y:Nd} (hs:(A ++ y :: C).Pairwise (fun a b=>a.ID < b.ID)):(A ++ y :: C).map (clN y.ID)=A ++ (⟨y.ID,y.Parent,y.Weight,true⟩:Nd) :: C:=by
 obtain ⟨hA,hC⟩:=qL hs
 rw [List.map_append,List.map_cons]
 have e1:A.map (clN y.ID)=A:=by
  conv=>rhs; rw [← List.map_id A]
  exact List.map_congr_left (fun a ha=>by unfold clN; rw [if_neg (hA a ha)]; rfl)
 have e2:C.map (clN y.ID)=C:=by
  conv=>rhs; rw [← List.map_id C]
  exact List.map_congr_left (fun a ha=>by unfold clN; rw [if_neg (hC a ha)]; rfl)
 rw [e1,e2]
 congr 2
 unfold clN; rw [if_pos rfl]
theorem aAr {st:Fs} (h:FV 24 st) {y:Nd} (hy:y ∈ st.Nodes) (hc:y.Closed=false):FV 24 ⟨st.Room,st.Keep,st.Nodes.map (clN y.ID),st.Ended ++ [y.ID]⟩ ∧ st.Ended.length + 1 ≤ 24:=by
 obtain ⟨r,hr⟩:=h.rk
 have hln:=h.ln
 have hlen:st.Ended.length + 1 ≤ 24:=by
  obtain ⟨A,C,hN⟩:=List.append_of_mem hy
  have h1:(A.filter (·.Closed)).length + (C.filter (·.Closed)).length=st.Ended.length:=by
   have:=xS h
   rw [hN,List.filter_append,List.filter_cons_of_neg (by rw [hc]; simp),List.length_append] at this
   exact this
  rw [hN] at hln
  have h2:=List.length_filter_le (·.Closed) A
  have h3:=List.length_filter_le (·.Closed) C
  simp only [List.length_append,List.length_cons] at hln
  omega
 have hni:¬ y.ID ∈ st.Ended:=fun hm=>by have:=(h.en y hy).2 hm; rw [hc] at this; cases this
 have himg:∀ m ∈ st.Nodes.map (clN y.ID),∃ n ∈ st.Nodes,m=clN y.ID n:=fun m hm=>by
  obtain ⟨n,hn,e⟩:=List.mem_map.1 hm
  exact ⟨n,hn,e.symm⟩
 have hin:∀ p:Int,(∃ m ∈ st.Nodes,m.ID=p) → ∃ m ∈ st.Nodes.map (clN y.ID),m.ID=p:=fun p ⟨m,hm,e⟩=>⟨_,List.mem_map.2 ⟨m,hm,rfl⟩,(xT _ _).trans e⟩
 refine ⟨⟨h.rm,h.kp,by show (st.Nodes.map _).length ≤ 24; rw [List.length_map]; exact hln,by show ((st.Ended ++ [y.ID]).length:Int) ≤ 24; rw [List.length_append,List.length_singleton]; omega,?_,fun m hm=>?_,fun m hm=>?_,⟨r,fun m hm hz=>?_⟩,fun m hm=>?_,?_,fun e he=>?_⟩,hlen⟩
 · show (st.Nodes.map _).Pairwise _
   rw [List.pairwise_map]
   exact h.so.imp (fun hab=>by rw [xT,xT]; exact hab)
 · obtain ⟨n,hn,rfl⟩:=himg m hm
   rw [xT,clN_w]; exact h.ra n hn
 · obtain ⟨n,hn,rfl⟩:=himg m hm
   rw [aC8]; exact (h.pa n hn).imp id (hin _)
 · obtain ⟨n,hn,rfl⟩:=himg m hm
   rw [aC8] at hz ⊢
   rw [xT]
   exact hr n hn hz
 · obtain ⟨n,hn,rfl⟩:=himg m hm
   have hen:=h.en n hn
   rw [xT]
   show _ ↔ n.ID ∈ st.Ended ++ [y.ID]
   rw [List.mem_append,List.mem_singleton]
   unfold clN
   split
   · rename_i e
     exact ⟨fun _=>.inr e,fun _=>rfl⟩
   · rename_i e
     rw [hen]
     exact ⟨.inl,fun hh=>hh.resolve_right e⟩
 · show (st.Ended ++ [y.ID]).Nodup
   rw [List.nodup_append]
   exact ⟨h.nd,by simp,fun a ha b hb=>by rw [List.mem_singleton.1 hb]; rintro rfl; exact hni ha⟩
 · have he:e ∈ st.Ended ++ [y.ID]:=he
   rcases List.mem_append.1 he with he | he
   · exact hin e (h.es e he)
   · exact hin e ⟨y,hy,(List.mem_singleton.1 he).symm⟩
end Go.Fn
open Go Go.IL
namespace Go.Fn
theorem uY {K K':Int} {N:List Nd} {E:List Int} (h:FV K ⟨24,K,N,E⟩) (h1:0 ≤ K' ∧ K' ≤ 24) (h2:(E.length:Int) ≤ K'):FV K' ⟨24,K',N,E⟩ :=
 ⟨rfl,⟨rfl,h1⟩,h.ln,h2,h.so,h.ra,h.pa,h.rk,h.en,h.nd,h.es⟩
theorem TS.keep {A:AS} {ns:List Nk} {first:Int} {cl:List Int} {R K K':Int} {N:List Nd} {E:List Int} (h:TS A ns first cl R K N E) (h1:0 ≤ K' ∧ K' ≤ 24) (h2:(E.length:Int) ≤ K'):TS A ns first cl R K' N E :=
 ⟨h.rl,h.cn,uY h.fv h1 h2,h.ln,h.rm⟩
def aB1 (N:List Nd) (id:Int):Prop:=∃ m ∈ N,m.ID=id ∧ m.Closed=true
instance (N:List Nd) (id:Int):Decidable (aB1 N id):=inferInstanceAs (Decidable (∃ m ∈ N,m.ID=id ∧ m.Closed=true))
def tI (K:Int) (N:List Nd) (E:List Int) (id:Int):Int × List Nd × List Int :=
 if hasN N id then (if aB1 N id then (9,N,E) else if K < ((E ++ [id]).length:Int) then (0,offT (N.map (clN id)) ((E ++ [id]).headD 0),(E ++ [id]).filter fun e=>!decide (e=(E ++ [id]).headD 0)) else (0,N.map (clN id),E ++ [id])) else (6,N,E)
theorem aDw {A:AS} {ns:List Nk} {first:Int} {cl:List Int} {R K:Int} {N:List Nd} {E:List Int} (h:TS A ns first cl R K N E) (id:Int) :
 ∃ A' ns' first' cl',kS id R K A.Cells A.Free A.Used ns first cl=some ((tI K N E id).1,R,K,A'.Cells,A'.Free,A'.Used,ns',first',cl') ∧ TS A' ns' first' cl' R K (tI K N E id).2.1 (tI K N E id).2.2:=by
 have hK:0 ≤ K ∧ K ≤ 24:=h.fv.kp.2
 have hEl:(E.length:Int) ≤ K:=h.fv.el
 unfold kS tI
 rcases zA h id R K with ⟨f1,p,f2,f3,f4⟩ | ⟨f1,f4⟩
 · obtain ⟨sp,kids,hR,h0⟩:=h.rl
   obtain ⟨cN,c1,c2,c3⟩:=h.cn
   obtain ⟨v,n,k1,k2,k3,k4,k5⟩:=hR.up p f2
   have hyid:(asN ns n v).ID=id:=(cZ k2).symm.trans f3
   have hshut:aB1 N id ↔ n.closed=true:=by
    constructor
    · rintro ⟨m,hm,e1,e2⟩
      have:=nZ hR.so hm k5 (e1.trans hyid.symm)
      rw [this] at e2; exact e2
    · exact fun hc=>⟨_,k5,hyid,hc⟩
   rw [f4,bnoS,bndD,decide_eq_false (by omega),bD,if_pos f1,eT,k2,bnoS,chk,if_pos hR.len,Int.toNat_natCast,k2,bnoS]
   by_cases hs:aB1 N id
   · rw [if_pos hs,hshut.1 hs,bM]
     exact ⟨A,ns,first,cl,rfl,h⟩
   · have hcf:n.closed=false:=by
      cases hc:n.closed with
      | false=>rfl
      | true=>exact absurd (hshut.2 hc) hs
     have hcll:cl.length=E.length:=by rw [c1,c3]; unfold toI; simp
     rw [if_neg hs,hcf,bD,bnoS,bnoS,bndD,kX (by simp; omega) (by simp; omega),bnoS,bndD]
     obtain ⟨s1,s2⟩:=aB3 hR f2 k2 n.weight true
     have hmap:N.map (setN (idP ns p) n.weight true)=N.map (clN id):=List.map_congr_left fun m hm=>by
      unfold setN clN
      rw [f3]
      by_cases e:m.ID=id
      · have:=nZ hR.so hm k5 (e.trans hyid.symm)
        rw [if_pos e,if_pos e,this]; 
        have hpid:(asN ns n v).Parent=(asN ns n v).Parent:=rfl
        rfl
      · rw [if_neg e,if_neg e]
     rw [hmap] at s1
     obtain ⟨w1,w2⟩:=aAr (uY h.fv (K':=24) (by omega) (by omega)) k5 hcf
     rw [hyid] at w1
     have hts:TS A (ns.set p (⟨n.id,n.up,n.first,n.next,n.weight,true⟩:Nk)) first (cl ++ [(p:Int)]) R 24 (N.map (clN id)) (E ++ [id]):=by
      refine ⟨⟨sp,kids,s1,h0⟩,⟨cN ++ [p],by rw [c1]; unfold toI; simp,fun q hq=>?_,?_⟩,w1,by rw [List.length_map]; exact h.ln,h.rm⟩
      · rcases List.mem_append.1 hq with hq | hq
        · exact c2 q hq
        · rw [List.mem_singleton.1 hq]; exact f2
      · rw [List.map_congr_left (fun q _=>s2 q),List.map_append,c3]
        show _ ++ [id]=_ ++ [idP ns p]
        rw [f3]
     have hlen:(cl ++ [(p:Int)]).length=(E ++ [id]).length:=by simp [hcll]
     rw [hlen]
     by_cases hk:K < ((E ++ [id]).length:Int)
     · rw [decide_eq_true hk,bM,if_pos hk]
       obtain ⟨dN,d1,d2,d3⟩:=hts.cn
       cases dN with
       | nil=>have:=congrArg List.length d1; simp [toI] at this
       | cons q dN =>
         have hd1:cl ++ [(p:Int)]=(q:Int) :: toI dN:=d1
         have hd3:E ++ [id]=idP _ q :: dN.map _:=d3
         have hnd:(E ++ [id]).Nodup:=w1.nd
         obtain ⟨L,y,Rr,ns1,first1,cl1,g1,g2,g3,g4,g5⟩:=aCT hts (d2 q (by simp)) R K
         have hT:=aCV hts.fv.so g1 g2
         rw [hT,g2] at g4
         have hhead:(E ++ [id]).headD 0=idP (ns.set p (⟨n.id,n.up,n.first,n.next,n.weight,true⟩:Nk)) q:=by rw [hd3]; rfl
         rw [hhead]
         refine ⟨pJ A q,ns1,first1,cl1,?_,g4.keep hK ?_⟩
         · rw [hd1]
           show (bno (fM (q:Int) R K A.Cells A.Free A.Used _ first ((q:Int) :: toI dN)) _)=_
           rw [← hd1,g3,bnoS]
         · have hl:=congrArg List.length hd3
           rw [hd3,List.filter_cons_of_neg (by simp)]
           have:=List.length_filter_le (fun e=>!decide (e=idP (ns.set p (⟨n.id,n.up,n.first,n.next,n.weight,true⟩:Nk)) q)) (dN.map (idP (ns.set p (⟨n.id,n.up,n.first,n.next,n.weight,true⟩:Nk))))
           simp at hl this ⊢
           omega
     · rw [decide_eq_false hk,bD,if_neg hk]
       exact ⟨A,_,first,_,rfl,hts.keep hK (by omega)⟩
 · rw [f4,bnoS,bndD,decide_eq_true rfl,bM,if_neg f1]
   exact ⟨A,ns,first,cl,rfl,h⟩
end Go.Fn
open Go Go.IL
namespace Go.Fn
theorem new_ts {R K:Int} (hR:0 ≤ R ∧ R ≤ 24) (hK:0 ≤ K ∧ K ≤ 24):TS ⟨[],-1,0⟩ (List.replicate 64 (⟨0,0,0,0,0,false⟩:Nk)) (-1) [] R K [] []:=by
 have hal:∀ p,¬ gK ⟨[],-1,0⟩ p:=fun p ⟨c,hc,_⟩=>by cases hc
 refine ⟨⟨[],fun _=>[],⟨⟨by decide,(fun c hc=>by cases hc),mY.nil,List.nodup_nil,rfl,rfl,fun i c hc=>by cases hc⟩,List.length_replicate ..,⟨fun u hu=>?_,fun _ _=>List.nodup_nil,fun u v p _ _ hp=>(by cases hp),fun p hp=>absurd hp (hal p)⟩,fun p hp=>absurd hp (hal p),fun u p _ hp=>(by cases hp),fun m hm=>(by cases hm),fun p q hp=>absurd hp (hal p),List.Pairwise.nil⟩,fun _ _=>rfl⟩,⟨[],rfl,fun p hp=>(by cases hp),rfl⟩,⟨rfl,⟨rfl,hK⟩,Nat.zero_le _,hK.1,List.Pairwise.nil,fun n hn=>(by cases hn),fun n hn=>(by cases hn),⟨fun _=>0,fun n hn=>(by cases hn)⟩,fun n hn=>(by cases hn),List.nodup_nil,fun e he=>(by cases he)⟩,hR.1,hR.2⟩
 cases u with
 | none=>rfl
 | some p=>exact absurd hu (hal p)
end Go.Fn
open Go Go.IL
namespace Go.Fn
theorem id_ok {A:AS} {sp:List Nat} {ns:List Nk} {first:Int} {kids:Option Nat → List Nat} {N:List Nd} (h:RL A sp ns first kids N) {u:Option Nat} (hu:hdK A u) (room keep:Int) (C:List AC) (F U:Int) (cl:List Int):jY (upI u) room keep C F U ns first cl=some (idU ns u):=by
 unfold jY
 rw [bndD]
 cases u with
 | none=>rfl
 | some p =>
   obtain ⟨v,n,k1,k2,k3,k4,k5⟩:=h.up p hu
   rw [show decide (upI (some p) = -1)=false from decide_eq_false (show ¬ (p:Int) = -1 by omega),bD,show upI (some p)=(p:Int) from rfl,eT,k2,bnoS,chk,if_pos h.len,Int.toNat_natCast,k2,bnoS]
   show _=some (idP ns p)
   rw [cZ k2]
theorem aDr {A:AS} {sp:List Nat} {ns:List Nk} {first:Int} {kids:Option Nat → List Nat} {N:List Nd} (h:RL A sp ns first kids N) {cN:List Nat} (hl:cN.length ≤ 1000) (hc:∀ p ∈ cN,gK A p) (room keep:Int) (C:List AC) (F U:Int) (r:List Nat):∀ (q:List Nat) (f:Nat),cN=q ++ r → r.length < f → eX room keep C F U ns first (toI cN) f (q.map (idP ns)) (q.length:Int)=some (cN.map (idP ns)):=by
 induction r with
 | nil =>
   intro q f h1 hf
   obtain ⟨f,rfl⟩:∃ g,f=g + 1:=⟨f - 1,by simp at hf; omega⟩
   rw [List.append_nil] at h1
   subst h1
   rw [eX,bndD,show (toI cN).length=cN.length by unfold toI; simp,decide_eq_false (by omega),bD]
 | cons p r ih =>
   intro q f h1 hf
   obtain ⟨f,rfl⟩:∃ g,f=g + 1:=⟨f - 1,by simp at hf; omega⟩
   obtain ⟨e1,e2,e3,e4⟩:=gixI h1 hl
   have hq:q.length ≤ 1000:=by rw [h1] at hl; simp at hl; omega
   have hid:=id_ok h (u:=some p) (hc p (by rw [h1]; simp)) room keep C F U (toI cN)
   have hid:jY (p:Int) room keep C F U ns first (toI cN)=some (idP ns p):=hid
   rw [eX,bndD,e1,bM,e2,bnoS,e3,bnoS,hid,bnoS,kX (by simp; omega) (by simp; omega),bnoS,bndD,e4]
   have:=ih (q ++ [p]) f (by rw [h1]; simp) (by simpa using hf)
   rw [List.map_append] at this
   exact this
theorem aDF {A:AS} {ns:List Nk} {first:Int} {cl:List Int} {R K:Int} {N:List Nd} {E:List Int} (h:TS A ns first cl R K N E) (room keep:Int):kC room keep A.Cells A.Free A.Used ns first cl=some E:=by
 obtain ⟨sp,kids,hR,h0⟩:=h.rl
 obtain ⟨cN,c1,c2,c3⟩:=h.cn
 have hK:0 ≤ K ∧ K ≤ 24:=h.fv.kp.2
 have hEl:(E.length:Int) ≤ K:=h.fv.el
 have hl:cN.length ≤ 24:=by rw [c3,List.length_map] at hEl; omega
 unfold kC
 rw [chk,if_pos hR.len,c1,c3]
 exact aDr hR (by omega) c2 room keep A.Cells A.Free A.Used cN [] fuel rfl (eU (by omega))
end Go.Fn
open Go Go.IL
namespace Go.Fn
end Go.Fn
open Go Go.IL
namespace Go.Fn
def wQ (ns:List Nk) (p:Nat):Nd:=⟨(ns.getD p default).id,(if (ns.getD p default).up = -1 then 0 else idP ns (ns.getD p default).up.toNat),(ns.getD p default).weight,(ns.getD p default).closed⟩
theorem vG {A:AS} {sp:List Nat} {ns:List Nk} {first:Int} {kids:Option Nat → List Nat} {N:List Nd} (h:RL A sp ns first kids N) {p:Nat} (hp:gK A p):wQ ns p ∈ N ∧ (wQ ns p).ID=idP ns p ∧ ∃ n u,ns[p]? = some n ∧ n.up=upI u ∧ hdK A u ∧ wQ ns p=asN ns n u:=by
 obtain ⟨u,n,k1,k2,k3,k4,k5⟩:=h.up p hp
 have e:wQ ns p=asN ns n u:=by
  unfold wQ asN
  rw [List.getD_eq_getElem?_getD,k2]
  show (⟨n.id,(if n.up = -1 then 0 else idP ns n.up.toNat),n.weight,n.closed⟩:Nd)=_
  rw [k3]
  cases u with
  | none=>rfl
  | some q =>
    rw [show upI (some q)=(q:Int) from rfl,if_neg (by omega),Int.toNat_natCast]; rfl
 rw [e]
 exact ⟨k5,(cZ k2).symm,n,u,k2,k3,k1,rfl⟩
theorem aDK {A:AS} {sp:List Nat} {ns:List Nk} {first:Int} {kids:Option Nat → List Nat} {N:List Nd} (h:RL A sp ns first kids N) {lv:List Nat} (hl:lv.length ≤ 1000) (hc:∀ p ∈ lv,gK A p) (room keep:Int) (C:List AC) (F U:Int) (cl:List Int) (r:List Nat):∀ (q:List Nat) (f:Nat),lv=q ++ r → r.length < f → fI room keep C F U ns first cl (toI lv) f (q.map (wQ ns)) (q.length:Int)=(bno (dK (lv.map (wQ ns))) fun x31=>chk (x31.length=(lv.map (wQ ns)).length) <| some x31):=by
 induction r with
 | nil =>
   intro q f h1 hf
   obtain ⟨f,rfl⟩:∃ g,f=g + 1:=⟨f - 1,by simp at hf; omega⟩
   rw [List.append_nil] at h1
   subst h1
   rw [fI,bndD,show (toI lv).length=lv.length by unfold toI; simp,decide_eq_false (by omega),bD]
 | cons p r ih =>
   intro q f h1 hf
   obtain ⟨f,rfl⟩:∃ g,f=g + 1:=⟨f - 1,by simp at hf; omega⟩
   obtain ⟨e1,e2,e3,e4⟩:=gixI h1 hl
   have hq:q.length ≤ 1000:=by rw [h1] at hl; simp at hl; omega
   obtain ⟨_,_,n,u,k1,k2,k3,k4⟩:=vG h (hc p (by rw [h1]; simp))
   rw [fI,bndD,e1,bM,e2,bnoS,eT,k1,bnoS,chk,if_pos h.len,Int.toNat_natCast,k1,bnoS,k2,id_ok h k3,bnoS,kX (by simp; omega) (by simp; omega),bnoS,bndD,e4]
   have:=ih (q ++ [p]) f (by rw [h1]; simp) (by simpa using hf)
   rw [List.map_append,List.map_singleton,k4] at this
   exact this
end Go.Fn
open Go Go.IL
namespace Go.Fn
end Go.Fn
open Go Go.IL
namespace Go.Fn
end Go.Fn
open Go Go.IL
namespace Go.Fn
theorem vV {α:Type} {k:α → Int}:∀ {w:List α},w.Pairwise (fun a b=>k a ≤ k b) → (w.map k).Nodup → w.Pairwise (fun a b=>k a < k b)
 | [],_,_=>.nil
 | x :: w,h,hn=>by
   obtain ⟨h1,h2⟩:=List.pairwise_cons.1 h
   obtain ⟨n1,n2⟩:=List.nodup_cons.1 hn
   refine List.pairwise_cons.2 ⟨fun y hy=>?_,vV h2 n2⟩
   have:=h1 y hy
   have:k x ≠ k y:=fun e=>n1 (List.mem_map.2 ⟨y,hy,e.symm⟩)
   omega
theorem ksort_t {l:List Nd} (hl:l.length ≤ 24) (hn:(l.map (·.ID)).Nodup) (hg:∀ m ∈ l,0 ≤ m.ID ∧ m.ID ≤ 1048576):∃ w,dK l=some w ∧ w.Perm l ∧ w.Pairwise (fun a b=>a.ID < b.ID):=by
 have hp:=oU (fun m:Nd=>m.ID) l
 refine ⟨_,sortK_t (by omega) (fun m hm=>?_) hn,hp,vV (qG _ l) (((hp.map _).nodup_iff).2 hn)⟩
 have:=hg m hm
 rw [Bool.and_eq_true,decide_eq_true_iff,decide_eq_true_iff]
 exact this
end Go.Fn
open Go Go.IL
namespace Go.Fn
end Go.Fn
open Go Go.IL
namespace Go.Fn
theorem aA7:∀ {l m:List Nd},l.Pairwise (fun a b=>a.ID < b.ID) → m.Pairwise (fun a b=>a.ID < b.ID) → (∀ x,x ∈ l ↔ x ∈ m) → l=m
 | [],[],_,_,_=>rfl
 | [],y :: m,_,_,h=>by have:=(h y).2 (by simp); cases this
 | x :: l,[],_,_,h=>by have:=(h x).1 (by simp); cases this
 | x :: l,y :: m,h1,h2,h=>by
   obtain ⟨a1,a2⟩:=List.pairwise_cons.1 h1
   obtain ⟨b1,b2⟩:=List.pairwise_cons.1 h2
   have e:x=y:=by
    rcases List.mem_cons.1 ((h x).1 (by simp)) with e | hx
    · exact e
    · rcases List.mem_cons.1 ((h y).2 (by simp)) with e | hy
      · exact e.symm
      · have:=a1 y hy
        have:=b1 x hx
        omega
   subst e
   rw [aA7 a2 b2 fun z=>?_]
   constructor
   · intro hz
     rcases List.mem_cons.1 ((h z).1 (List.mem_cons_of_mem _ hz)) with e | hz2
     · have:=a1 z hz
       rw [e] at this; omega
     · exact hz2
   · intro hz
     rcases List.mem_cons.1 ((h z).2 (List.mem_cons_of_mem _ hz)) with e | hz2
     · have:=b1 z hz
       rw [e] at this; omega
     · exact hz2
theorem aDv {A:AS} {ns:List Nk} {first:Int} {cl:List Int} {R K:Int} {N:List Nd} {E:List Int} (h:TS A ns first cl R K N E) (room keep:Int):kR room keep A.Cells A.Free A.Used ns first cl=some N:=by
 obtain ⟨sp,kids,hR,h0⟩:=h.rl
 have hN:N.length ≤ 24:=h.fv.ln
 have hlen:(nB A.Cells 0).length=N.length:=by
  have h1:=xW hR
  rw [hR.ga.used,← sU A.Cells 0] at h1
  omega
 have hc:∀ p ∈ nB A.Cells 0,gK A p:=fun p hp=>nR.2 hp
 unfold kR
 rw [aCe hR.ga,bnoS]
 have:=aDK hR (lv:=nB A.Cells 0) (by omega) hc room keep A.Cells A.Free A.Used cl (nB A.Cells 0) [] fuel rfl (eU (by omega))
 rw [show ((0:Int))=(([]:List Nat).length:Int) from rfl]
 refine Eq.trans this ?_
 have hids:((nB A.Cells 0).map (wQ ns)).map (·.ID)=(nB A.Cells 0).map (idP ns):=by
  rw [List.map_map]
  exact List.map_congr_left fun p hp=>(vG hR (hc p hp)).2.1
 obtain ⟨w,e,hp,hs⟩:=ksort_t (l:=(nB A.Cells 0).map (wQ ns)) (by rw [List.length_map]; omega) (by
  rw [hids]
  exact List.pairwise_map.2 ((sA A.Cells 0).imp_of_mem fun {p q} hp hq hne e=>hne (hR.inj p q (hc p hp) (hc q hq) e))) (fun m hm=>by
  obtain ⟨p,hp,rfl⟩:=List.mem_map.1 hm
  have:=(h.fv.ra _ (vG hR (hc p hp)).1).1
  omega)
 rw [e,bnoS,chk,if_pos hp.length_eq]
 congr 1
 refine aA7 hs hR.so fun x=>?_
 rw [hp.mem_iff]
 constructor
 · intro hx
   obtain ⟨p,hp,rfl⟩:=List.mem_map.1 hx
   exact (vG hR (hc p hp)).1
 · intro hx
   obtain ⟨p,n,u,k1,k2,k3,k4,rfl⟩:=hR.bw x hx
   obtain ⟨g1,g2,_⟩:=vG hR k1
   refine List.mem_map.2 ⟨p,nR.1 k1,nZ hR.so g1 hx ?_⟩
   rw [g2,cZ k3]; rfl
end Go.Fn
open Go Go.IL
namespace Go.Fn
end Go.Fn
open Go Go.IL
namespace Go.Fn
end Go.Fn
open Go Go.IL
namespace Go.Fn
theorem off_any {K:Int} {st:Fs} (h:FV K st) (R' K':Int) {id:Int} (hid:∃ n ∈ st.Nodes,n.ID=id):∃ A y C,st.Nodes=A ++ y :: C ∧ y.ID=id ∧ fN R' K' id st.Nodes st.Ended=some (R',K',offS A y C,st.Ended.filter fun y=>!decide (y=id)):=by
 obtain ⟨y,hy,rfl⟩:=hid
 obtain ⟨A,z,C,hN,hz,hf⟩:=aAt (R:=R') (K:=K') (E:=st.Ended) h.ok ⟨y,hy,rfl⟩
 have hzy:z=y:=nZ h.so (by rw [hN]; simp) hy hz
 subst hzy
 have hln:=h.ln; have hel:=h.el; have hkp:=h.kp
 have hra:=h.ra
 have hlen:A.length + C.length + 1 ≤ 24:=by rw [hN] at hln; simp at hln; omega
 have hdel:eZ (A.length:Int) ((A.length:Int) + 1) st.Nodes=some (A ++ C):=by
  unfold eZ
  rw [delS_ok (by omega) (by omega) (by rw [hN]; simp; omega),hN]
  congr 1
  have e1:((A.length:Int)).toNat=A.length:=by omega
  have e2:((A.length:Int) + 1).toNat=A.length + 1:=by omega
  rw [e1,e2,List.take_left,List.drop_append]
  simp
 have hw:∀ n ∈ A ++ C,1 ≤ n.Weight ∧ n.Weight ≤ 256:=fun n hn=>(hra n (by rw [hN]; rcases List.mem_append.1 hn with hn | hn <;> simp [hn])).2
 have hl:(A ++ C).length ≤ 1000:=by rw [List.length_append]; omega
 have hsum:=sum34 (st:=⟨R',K',A ++ C,st.Ended⟩) hl hw z.ID
 have hoff:=off_L (a0:=R') (a1:=K') (E:=st.Ended) (y:=z) (M:=A ++ C) hl hw (hra z hy).2 (del34 (by omega)) (A ++ C) [] fuel rfl (eU (by omega))
 refine ⟨A,z,C,hN,rfl,?_⟩
 unfold fN
 rw [hf,bnoS,fS hN,bnoS,qK hN,bnoS,bndD,w64 (by omega) (by omega),hdel,bnoS,hsum,bnoS]
 exact hoff
end Go.Fn
open Go Go.IL
namespace Go.Fn
inductive Dsc (N:List Nd) (d:Int):Int → Prop
 | child (n:Nd) (hn:n ∈ N) (hp:n.Parent=d):Dsc N d n.ID
 | up (n:Nd) (hn:n ∈ N) (hp:n.Parent ≠ 0) (h:Dsc N d n.Parent):Dsc N d n.ID
structure Tr (N:List Nd) (r:Int → Nat):Prop where
 so:N.Pairwise (fun a b=>a.ID < b.ID)
 id:∀ n ∈ N,1 ≤ n.ID
 pa:∀ n ∈ N,n.Parent=0 ∨ ∃ m ∈ N,m.ID=n.Parent
 rk:∀ n ∈ N,n.Parent ≠ 0 → r n.Parent < r n.ID
theorem FV.tr {K:Int} {st:Fs} (h:FV K st):∃ r,Tr st.Nodes r:=by
 obtain ⟨r,hr⟩:=h.rk
 exact ⟨r,h.so,fun n hn=>(h.ra n hn).1.1,h.pa,hr⟩
section
variable {N:List Nd} {r:Int → Nat}
end
end Go.Fn
open Go Go.IL
namespace Go.Fn
end Go.Fn
open Go Go.IL
namespace Go.Fn
end Go.Fn
open Go Go.IL
namespace Go.Fn
def askI (N:List Nd) (l:List Int) (i:Int):Bool:=decide (i ∈ l) && N.any fun m=>decide (m.ID=i) && !m.Closed
def readyI (N:List Nd) (l:List Int) (i:Int):Bool:=askI N l i && !((fO N N.length i).any (askI N l))
structure Marks19 (A:AS) (ns:List Nk) (q:List Int) (B:List Bool):Prop where
 len:B.length=64
 mr:∀ p:Nat,B[p]? = some true ↔ gK A p ∧ idP ns p ∈ q ∧ (ns.getD p default).closed=false
structure RdAcc (A:AS) (ns:List Nk) (N:List Nd) (l:List Int) (k:Nat) (acc:List Int):Prop where
 nd:acc.Nodup
 ln:acc.length ≤ k
 me:∀ i,i ∈ acc ↔ ∃ p,p < k ∧ gK A p ∧ idP ns p=i ∧ readyI N l i=true
end Go.Fn
open Go Go.IL
namespace Go.Fn
def In (M:List Int) (n:Nat) (l:List Int):Prop:=l.length=n ∧ ∀ x ∈ l,x ∈ M
section
variable {α β:Type} {Q:α → Prop} {M:List Int} {n:Nat} {l:List Int}
end
section
variable {M:List Int} {n:Nat}
end
end Go.Fn
open Go Go.IL
namespace Go.Fn
section
variable {M:List Int} {n:Nat}
end
section
variable {M:List Int} {n:Nat} {rec0:Int → Int → Int → List Int → Option (List Int)} {kk:List Int → Int → Int → Int → Bool → Bool → Option (List Int)} {a b lim:Int} {c d:Bool}
end
section
variable {M:List Int} {n:Nat} {rec0:Int → Int → Int → List Int → Option (List Int)}
end
end Go.Fn
open Go Go.IL
namespace Go.Fn
end Go.Fn
open Go Go.IL
namespace Go.Fn
abbrev T19:=aW
inductive Pl (N:List Nd) (id:Int):Int → Prop
 | yes (A:List Nd) (y:Nd) (C:List Nd) (h:N=A ++ y :: C) (e:y.ID=id) (ha:∀ a ∈ A,a.ID ≠ id):Pl N id (A.length:Int)
 | no (h:∀ n ∈ N,n.ID ≠ id):Pl N id (-1)
theorem pl_L {t:T19} {id:Int} (hl:t.L.length ≤ 1000):∀ (r p:List Nd) (f:Nat),t.L=p ++ r → (∀ a ∈ p,a.ID ≠ id) → r.length < f → ∃ i,eE t id f (p.length:Int)=some i ∧ Pl t.L id i
 | [],p,f + 1,hN,ha,_=>by
   rw [List.append_nil] at hN
   rw [eE]
   simp only [bndD,hN,lY,bD]
   exact ⟨_,rfl,.no ha⟩
 | n :: r,p,f + 1,hN,ha,hf=>by
   rw [eE]
   simp only [bndD,nJ hN,bM,fS hN,bnoS,w_at hN (show t.L.length ≤ 1000000 by omega)]
   by_cases h:n.ID=id
   · rw [decide_eq_true h,bM]
     exact ⟨_,rfl,.yes p n r hN h ha⟩
   · rw [decide_eq_false h,bD]
     exact pl_L hl r (p ++ [n]) f (kE hN) (fun a hm=>by
      rcases List.mem_append.1 hm with hm | hm
      · exact ha a hm
      · rw [List.mem_singleton.1 hm]; exact h) (by simpa using hf)
theorem vN {t:T19} (hl:t.L.length ≤ 1000) (id:Int):∃ i,bR t id=some i ∧ Pl t.L id i :=
 pl_L hl t.L [] fuel rfl (fun _ h=>(List.not_mem_nil h).elim) (eU (by omega))
theorem aDQ {t:T19} (hl:t.L.length ≤ 1000) {id:Int} (h:∀ n ∈ t.L,n.ID ≠ id):bR t id=some (-1):=by
 obtain ⟨i,h1,h2⟩:=vN hl id
 cases h2 with
 | yes A y C hN e _=>exact absurd e (h y (by rw [hN]; simp))
 | no _=>exact h1
theorem xG {t:T19} (hl:t.L.length ≤ 1000) {id:Int} {A C:List Nd} {y:Nd} (h:t.L=A ++ y :: C) (e:y.ID=id) (ha:∀ a ∈ A,a.ID ≠ id):bR t id=some (A.length:Int):=by
 have key:∀ (B p:List Nd) (f:Nat),t.L=p ++ (B ++ y :: C) → (∀ a ∈ B,a.ID ≠ id) → B.length < f → eE t id f (p.length:Int)=some (((p ++ B).length:Nat):Int):=fun B=>by
  induction B with
  | nil =>
    intro p f hN _ hf
    obtain ⟨f,rfl⟩:∃ g,f=g + 1:=⟨f - 1,by omega⟩
    have hN:t.L=p ++ y :: C:=hN
    rw [eE]
    simp only [bndD,nJ hN,bM,fS hN,bnoS,decide_eq_true e,List.append_nil]
  | cons b B ih =>
    intro p f hN hb hf
    obtain ⟨f,rfl⟩:∃ g,f=g + 1:=⟨f - 1,by omega⟩
    have hN:t.L=p ++ b :: (B ++ y :: C):=hN
    have hr:=ih (p ++ [b]) f (kE hN) (fun a ha=>hb a (by simp [ha])) (by simpa using hf)
    rw [eE]
    simp only [bndD,nJ hN,bM,fS hN,bnoS,decide_eq_false (hb b (by simp)),bD,w_at hN (show t.L.length ≤ 1000000 by omega)]
    rw [hr]; simp
 have hA:A.length ≤ 1000:=by rw [h] at hl; simp at hl; omega
 exact key A [] fuel h ha (eU (by omega))
theorem par_pl {N A C:List Nd} {y:Nd} {id:Int} (h:N=A ++ y :: C) (e:y.ID=id) (ha:∀ a ∈ A,a.ID ≠ id):oI N id=some y.Parent:=by
 unfold oI
 rw [h,List.find?_append]
 have h1:A.find? (fun n=>decide (n.ID=id))=none:=List.find?_eq_none.2 (fun a hm=>by simpa using ha a hm)
 rw [h1]
 simp [e]
theorem aAc {t:T19} (hl:t.L.length ≤ 1000) (h0:∀ n ∈ t.L,n.ID ≠ 0):∀ (k f turn:Nat) (id i:Int) (acc:List Int),Pl t.L id i → turn + k=t.L.length + 1 → k < f → acc.length ≤ turn → fB t f acc i (turn:Int)=some (acc ++ fO t.L k id)
 | k,0,_,_,_,_,_,_,hf,_=>absurd hf (by omega)
 | 0,f + 1,turn,id,i,acc,_,ht,_,_=>by
   rw [fB]
   simp only [bndD,decide_eq_false (show ¬ (turn:Int) ≤ (t.L.length:Int) by omega),Bool.false_and,bD]
   unfold fO; rw [List.append_nil]
 | k + 1,f + 1,turn,id,i,acc,hp,ht,hf,ha=>by
   rw [fB]
   unfold fO
   cases hp with
   | no h =>
     rw [xH h]
     simp only [bndD,show decide (0 ≤ (-1:Int))=false from rfl,Bool.and_false,bD,List.append_nil]
   | yes A y C hN e hA =>
     have hg:gix t.L (A.length:Int)=some y:=fS hN
     obtain ⟨j,hj,hp2⟩:=vN hl y.Parent
     rw [par_pl hN e hA]
     simp only [bndD,decide_eq_true (show (turn:Int) ≤ (t.L.length:Int) by omega),decide_eq_true (show (0:Int) ≤ (A.length:Int) by omega),Bool.and_self,bM,hg,bnoS]
     have hw:IntKind.wrap .i64 ((turn:Int) + 1)=((turn + 1:Nat):Int):=by rw [w64 (by omega) (by omega)]; omega
     by_cases hz:y.Parent=0
     · have hr:=aAc hl h0 k f (turn + 1) y.Parent j acc hp2 (by omega) (by omega) (by omega)
       have hnil:fO t.L k y.Parent=[]:=by
        cases k with
        | zero=>rfl
        | succ k=>unfold fO; rw [xH (fun n hn=>by rw [hz]; exact h0 n hn)]
       rw [hnil] at hr
       rw [decide_eq_true hz]
       show gW t (turn:Int) (fB t f) y acc=_
       unfold gW
       rw [hj,bnoS,bndD,hw,hr,if_pos hz]
     · have hr:=aAc hl h0 k f (turn + 1) y.Parent j (acc ++ [y.Parent]) hp2 (by omega) (by omega) (by rw [List.length_append,List.length_singleton]; omega)
       rw [decide_eq_false hz]
       show bno (app 8 acc [y.Parent]) _=_
       rw [kX (by rw [List.length_singleton]; omega) (by rw [List.length_singleton]; omega),bnoS]
       unfold gW
       rw [hj,bnoS,bndD,hw,hr,if_neg hz,List.append_assoc]; rfl
theorem rpath {t:T19} (hl:t.L.length ≤ 1000) (h0:∀ n ∈ t.L,n.ID ≠ 0) (id:Int):lZ t id=some (fO t.L (t.L.length + 1) id):=by
 obtain ⟨i,hi,hp⟩:=vN hl id
 have:=aAc hl h0 (t.L.length + 1) fuel 0 id i [] hp (by omega) (eU (by omega)) (Nat.le_refl _)
 unfold lZ
 rw [hi,bnoS]
 exact this
theorem in_L {l:List Int} {x:Int} (hl:l.length ≤ 1000000):∀ (r p:List Int) (f:Nat),l=p ++ r → r.length < f → lJ l x f (p.length:Int)=some (decide (x ∈ r))
 | [],p,f + 1,h,_=>by
   rw [List.append_nil] at h
   rw [lJ]
   simp only [bndD,h,lY,bD]
   simp
 | y :: r,p,f + 1,h,hf=>by
   have hr:=in_L (x:=x) hl r (p ++ [y]) f (kE h) (by simpa using hf)
   rw [lJ]
   simp only [bndD,nJ h,bM,fS h,bnoS,w_at h hl]
   by_cases e:y=x
   · rw [decide_eq_true e,bM,decide_eq_true (show x ∈ y :: r by rw [e]; simp)]
   · rw [decide_eq_false e,bD,hr]
     have:x ∈ y :: r ↔ x ∈ r:=by
      constructor
      · intro h; exact (List.mem_cons.1 h).resolve_left (fun e2=>e e2.symm)
      · intro h; exact List.mem_cons_of_mem _ h
     simp only [this]
theorem in19 {l:List Int} {x:Int} (hl:l.length ≤ 1000000):pH l x=some (decide (x ∈ l)):=in_L hl l [] fuel rfl (eU (by omega))
def sV (N:List Nd) (id:Int):List Int:=(N.filter fun n=>decide (n.Parent=id)).map (·.ID)
theorem aD8 {t:T19} (hl:t.L.length ≤ 1000) {id:Int}:∀ (r p:List Nd) (f:Nat),t.L=p ++ r → r.length < f → fW t id f (sV p id) (p.length:Int)=some (sV t.L id)
 | [],p,f + 1,h,_=>by
   rw [List.append_nil] at h
   rw [fW]
   simp only [bndD,h,lY,bD]
 | n :: r,p,f + 1,h,hf=>by
   have hr:=aD8 hl (id:=id) r (p ++ [n]) f (kE h) (by simpa using hf)
   have hk:(sV p id).length ≤ 1000:=by
    unfold sV
    rw [List.length_map]
    have:=List.length_filter_le (fun n=>decide (n.Parent=id)) p
    rw [h] at hl; simp at hl; omega
   have e:sV (p ++ [n]) id=if n.Parent=id then sV p id ++ [n.ID] else sV p id:=by
    unfold sV
    rw [List.filter_append,List.map_append]
    by_cases hn:n.Parent=id <;> simp [hn]
   rw [e] at hr
   rw [fW]
   simp only [bndD,nJ h,bM,fS h,bnoS,w_at h (show t.L.length ≤ 1000000 by omega)]
   by_cases hn:n.Parent=id
   · rw [if_pos hn] at hr
     rw [decide_eq_true hn,bM,kX (by simp; omega) (by simp; omega),bnoS]
     exact hr
   · rw [if_neg hn] at hr
     rw [decide_eq_false hn,bD]
     exact hr
theorem aD9 {t:T19} (hl:t.L.length ≤ 1000) (id:Int):mA t id=some (sV t.L id) :=
 aD8 hl t.L [] fuel rfl (eU (by omega))
theorem wo_L {l:List Int} {x:Int} (hl:l.length ≤ 1000):∀ (r p:List Int) (f:Nat),l=p ++ r → r.length < f → gT l x f (p.filter fun y=>!decide (y=x)) (p.length:Int)=some (l.filter fun y=>!decide (y=x))
 | [],p,f + 1,h,_=>by
   rw [List.append_nil] at h
   rw [gT]
   simp only [bndD,h,lY,bD]
 | y :: r,p,f + 1,h,hf=>by
   have hr:=wo_L (x:=x) hl r (p ++ [y]) f (kE h) (by simpa using hf)
   have hk:(p.filter fun y=>!decide (y=x)).length ≤ 1000:=by
    have:=List.length_filter_le (fun y=>!decide (y=x)) p
    rw [h] at hl; simp at hl; omega
   rw [List.filter_append] at hr
   rw [gT]
   simp only [bndD,nJ h,bM,fS h,bnoS,w_at h (show l.length ≤ 1000000 by omega)]
   by_cases e:y=x
   · rw [show [y].filter (fun y=>!decide (y=x))=[] by simp [e],List.append_nil] at hr
     rw [decide_eq_true e]
     exact hr
   · rw [show [y].filter (fun y=>!decide (y=x))=[y] by simp [e]] at hr
     rw [decide_eq_false e]
     show bno (app 8 (p.filter fun y=>!decide (y=x)) [y]) _=_
     rw [kX (by simp; omega) (by simp; omega),bnoS]
     exact hr
theorem wo19 {l:List Int} {x:Int} (hl:l.length ≤ 1000):lQ l x=some (l.filter fun y=>!decide (y=x)):=wo_L hl l [] fuel rfl (eU (by omega))
theorem aBn {t:T19} (hl:t.L.length ≤ 1000) {A C:List Nd} {y z:Nd} (h:t.L=A ++ y :: C) (e:y.ID=z.ID) (ha:∀ a ∈ A,a.ID ≠ z.ID):eD t z=some ⟨t.Room,t.Keep,A ++ z :: C,t.Closed⟩:=by
 unfold eD
 rw [kX (by simp; omega) (by simp; omega),bnoS,List.nil_append,xG hl h e ha,bnoS,fS h,bnoS,qK h,bnoS,bndD]
 rw [show t.L.set ((A.length:Nat):Int).toNat z=A ++ z :: C by rw [h]; exact tL]
end Go.Fn
open Go Go.IL
namespace Go.Fn
def tY (n:Nd):Bool:=decide (n.ID < 1) || decide (1048576 < n.ID) || decide (n.Weight < 1) || decide (256 < n.Weight)
def aAk (N:List Nd) (n:Nd):Bool:=!decide (n.Parent=0) && !(N.any fun m=>decide (m.ID=n.Parent))
def xE (N:List Nd) (k:Nat) (n:Nd):Bool:=decide (n.ID ∈ fO N k n.ID)
def ordB (x:Nd):List Nd → Bool
 | []=>true
 | n :: r=>decide (x.ID < n.ID) && ordB n r
def aAT (E:List Int) (n:Nd):Bool:=n.Closed == decide (n.ID ∈ E)
def endB (N:List Nd) (E:List Int):Bool:=N.all (aAT E) && decide ((N.filter (·.Closed)).length=E.length)
def aBP (st:Fs) (k:Nat):Int:=bif st.Nodes.any (aAk st.Nodes) then 6 else bif st.Nodes.any (xE st.Nodes k) then 4 else bif endB st.Nodes st.Ended then 0 else 9
def ordN:List Nd → Bool
 | []=>true
 | x :: r=>ordB x r
def vJ (st:Fs):Bool:=decide (st.Room < 1) || decide (24 < st.Room) || decide (st.Keep < 0) || decide (st.Room < st.Keep)
def aBK (st:Fs) (k:Nat):Int:=bif vJ st || st.Nodes.any tY then 8 else bif decide (st.Room < (st.Nodes.length:Int)) || decide (st.Keep < (st.Ended.length:Int)) then 7 else bif ordN st.Nodes then aBP st k else 10
theorem aA6 (x n:Nd) (r:List Nd):ordB x (n :: r)=(decide (x.ID < n.ID) && ordB n r):=rfl
theorem natdec (a b:Nat):decide ((a:Int)=(b:Int))=decide (a=b):=by rw [Bool.eq_iff_iff]; simp; omega
theorem aD6:∀ (r:List Nd) (x:Nd),ordB x r=true → (x :: r).Pairwise (fun a b=>a.ID < b.ID)
 | [],x,_=>List.pairwise_singleton _ _
 | n :: r,x,h=>by
   have h:(decide (x.ID < n.ID) && ordB n r)=true:=h
   rw [Bool.and_eq_true,decide_eq_true_iff] at h
   have ih:=aD6 r n h.2
   refine List.pairwise_cons.2 ⟨fun m hm=>?_,ih⟩
   rcases List.mem_cons.1 hm with e | hm
   · rw [e]; exact h.1
   · have:=(List.pairwise_cons.1 ih).1 m hm; omega
theorem ordN_pw {N:List Nd} (h:ordN N=true):N.Pairwise (fun a b=>a.ID < b.ID):=by
 cases N with
 | nil=>exact .nil
 | cons x r=>exact aD6 r x h
theorem zF {N:List Nd} {p:Int}:(N.any fun m=>decide (m.ID=p))=true ↔ ∃ m ∈ N,m.ID=p:=by
 rw [List.any_eq_true]; simp
section
variable {st:Fs}
theorem wrongC (hl:st.Nodes.length ≤ 1000):cH st.Nodes=some (st.Nodes.any tY):=by
 unfold cH dU
 exact cmem (P:=oK) (q:=tY) (I:=cF st.Nodes) (l:=st.Nodes) (fun n hn=>rfl) (fun f v=>rfl) (by omega)
theorem lostC (h:Ok34 st.Nodes):bY st.Nodes st=some (st.Nodes.any (aAk st.Nodes)):=by
 have hln:=h.ln
 unfold bY eB
 refine cmem (P:=fun y=>mJ st y) (q:=aAk st.Nodes) (I:=cI st.Nodes st) (l:=st.Nodes) (fun n hn=>?_) (fun f v=>rfl) (by omega)
 obtain ⟨r,h1,h2⟩:=aBI h (id:=n.Parent) (h.pa n hn)
 unfold mJ aAk
 rw [h1,bnoS,bndD,bndD]
 cases h2 with
 | yes A y C hN he hA hC=>rw [zF.2 ⟨y,by rw [hN]; simp,he⟩]
 | no p hp hno _ =>
   have hf:(st.Nodes.any fun m=>decide (m.ID=n.Parent))=false:=Bool.eq_false_iff.2 (fun hh=>by obtain ⟨m,hm,e⟩:=zF.1 hh; exact hno m hm e)
   rw [hf]
theorem roundC (h:Ok34 st.Nodes):bX st.Nodes st=some (st.Nodes.any (xE st.Nodes st.Nodes.length)):=by
 have hln:=h.ln
 unfold bX dV
 refine cmem (P:=fun y=>lT st y) (q:=xE st.Nodes st.Nodes.length) (I:=cG st.Nodes st) (l:=st.Nodes) (fun n hn=>?_) (fun f v=>rfl) (by omega)
 have hp:=uS st.Nodes st.Nodes.length n.ID
 have hr:=h.ra n hn
 unfold lT
 rw [path34 h ⟨by omega,by omega⟩,bnoS,cint (by omega),bnoS]; rfl
theorem endC (hl:st.Nodes.length ≤ 1000) (he:st.Ended.length ≤ 1000):∀ (r p:List Nd) (f:Nat),st.Nodes=p ++ r → r.length < f → dS st f ((p.filter (·.Closed)).length:Int) (p.length:Int)=some (r.all (aAT st.Ended) && decide ((st.Nodes.filter (·.Closed)).length=st.Ended.length))
 | [],p,f + 1,hN,_=>by
   rw [List.append_nil] at hN
   rw [dS]
   simp only [bndD,hN,lY,bD,List.all_nil,Bool.true_and,natdec]
 | n :: r,p,f + 1,hN,hf=>by
   have hpl:p.length ≤ 1000:=by rw [hN] at hl; simp at hl; omega
   have hfl:=List.length_filter_le (·.Closed) p
   have hrec:=endC hl he r (p ++ [n]) f (kE hN) (by simpa using hf)
   have hcon:=cint (l:=st.Ended) (x:=n.ID) (by omega)
   rw [List.filter_append] at hrec
   rw [dS]
   simp only [bndD,nJ hN,bM,fS hN,bnoS,List.all_cons]
   have hJ:∀ v:Int,dS st f v ((p ++ [n]).length:Int)=some (r.all (aAT st.Ended) && decide ((st.Nodes.filter (·.Closed)).length=st.Ended.length)) → iU st (p.length:Int) (dS st f) n v=some ((aAT st.Ended n && r.all (aAT st.Ended)) && decide ((st.Nodes.filter (·.Closed)).length=st.Ended.length)):=fun v hv=>by
    unfold iU
    rw [hcon,bnoS,bndD]
    show (bif !(aAT st.Ended n) then _ else _)=_
    cases aAT st.Ended n
    · rfl
    · simp only [Bool.not_true,bD,bndD,w_at hN (show st.Nodes.length ≤ 1000000 by omega),Bool.true_and]
      exact hv
   cases hC:n.Closed
   · rw [show [n].filter (·.Closed)=[] by simp [hC],List.append_nil] at hrec
     simp only [bD]
     exact hJ _ hrec
   · rw [show [n].filter (·.Closed)=[n] by simp [hC],List.length_append,List.length_singleton] at hrec
     simp only [bM,w64 (show -9223372036854775808 ≤ ((p.filter (·.Closed)).length:Int) + 1 by omega) (by omega)]
     exact hJ _ hrec
theorem endedC (hl:st.Nodes.length ≤ 1000) (he:st.Ended.length ≤ 1000):kO st=some (endB st.Nodes st.Ended) :=
 endC hl he st.Nodes [] fuel rfl (eU (by omega))
theorem tailF (h:Ok34 st.Nodes) (he:st.Ended.length ≤ 1000):(bno (bY st.Nodes st) fun x40 =>
 bif x40 then (some 6) else (
  bno (bX st.Nodes st) fun x42 =>
  bif x42 then (some 4) else (
   bno (kO st) fun x44 =>
   bif (!x44) then (some 9) else (some 0))))=some (aBP st st.Nodes.length):=by
 rw [lostC h,bnoS,roundC h,endedC h.ln he]
 unfold aBP
 cases st.Nodes.any (aAk st.Nodes)
 · rw [bD,bnoS]
   cases st.Nodes.any (xE st.Nodes st.Nodes.length)
   · rw [bD,bnoS]
     cases endB st.Nodes st.Ended <;> rfl
   · rfl
 · rfl
theorem ord_L (hl:st.Nodes.length ≤ 1000) (T:Int) (hT:ordN st.Nodes=true → (bno (bY st.Nodes st) fun x40 =>
 bif x40 then (some 6) else (
  bno (bX st.Nodes st) fun x42 =>
  bif x42 then (some 4) else (
   bno (kO st) fun x44 =>
   bif (!x44) then (some 9) else (some 0))))=some T):∀ (r p:List Nd) (x:Nd) (f:Nat),st.Nodes=(p ++ [x]) ++ r → (ordB x r=true → ordN st.Nodes=true) → r.length < f → iX st f ((p ++ [x]).length:Int)=some (bif ordB x r then T else 10)
 | [],p,x,f + 1,hN,ho,_=>by
   rw [List.append_nil] at hN
   rw [iX]
   rw [← hN]
   simp only [bndD,lY,bD]
   exact hT (ho rfl)
 | n :: r,p,x,f + 1,hN,ho,hf=>by
   have hpl:(p ++ [x]).length ≤ 1000:=by rw [hN] at hl; simp at hl ⊢; omega
   have e1:((p ++ [x]).length:Int) - 1=(p.length:Int):=by rw [List.length_append,List.length_singleton]; omega
   have hg1:gix st.Nodes (p.length:Int)=some x:=fS (l:=st.Nodes) (r:=n :: r) (by rw [hN,List.append_assoc]; rfl)
   rw [iX]
   simp only [bndD,nJ hN,bM,e1,w64 (show -9223372036854775808 ≤ (p.length:Int) by omega) (by rw [List.length_append] at hpl; omega),hg1,fS hN,bnoS,w_at hN (show st.Nodes.length ≤ 1000000 by omega)]
   by_cases h:x.ID < n.ID
   · have hrec:=ord_L hl T hT r (p ++ [x]) n f (by rw [hN]; simp) (fun h2=>ho (by rw [aA6,decide_eq_true h,h2]; rfl)) (by simpa using hf)
     rw [decide_eq_false (show ¬ n.ID ≤ x.ID by omega),bD,hrec]
     rw [aA6,decide_eq_true h,Bool.true_and]
   · rw [decide_eq_true (show n.ID ≤ x.ID by omega),bM]
     rw [aA6,decide_eq_false h]; rfl
theorem aED (hl:st.Nodes.length ≤ 1000) (he:st.Ended.length ≤ 1000) (hp:∀ n ∈ st.Nodes,I64 n.Parent):jR st=some (aBK st st.Nodes.length):=by
 have hL:st.Nodes.any tY=false → iX st fuel 1=some (bif ordN st.Nodes then aBP st st.Nodes.length else 10):=fun hw=>by
  have hok:ordN st.Nodes=true → Ok34 st.Nodes:=fun ho=>⟨hl,fun n hn=>by
   have:=List.any_eq_false.1 hw n hn
   unfold tY at this
   simp at this; omega,ordN_pw ho,hp⟩
  cases hN:st.Nodes with
  | nil =>
    obtain ⟨m,hm⟩:∃ m,fuel=m + 1:=⟨2 ^ 64 - 1,by show 2 ^ 64=_; omega⟩
    have ht:=tailF (hok (by rw [hN]; rfl)) he
    rw [hN] at ht
    rw [hm,iX]
    rw [hN]
    simp only [bndD,List.length_nil,show decide ((1:Int) < ((0:Nat):Int))=false from rfl,bD]
    exact ht
  | cons x r =>
    have:=ord_L hl (aBP st st.Nodes.length) (fun ho=>tailF (hok ho) he) r [] x fuel hN (fun h=>by rw [hN]; exact h) (eU (by rw [hN] at hl; simp at hl; omega))
    rw [hN] at this
    exact this
 unfold jR aBK
 simp only [bndD]
 show bno (gd ((vJ st) == false) _ _) _=_
 cases hr:vJ st
 · show bno (cH st.Nodes) _=_
   rw [wrongC hl,bnoS]
   show (bif (vJ st || _) then _ else _)=_
   rw [hr,Bool.false_or]
   cases hw:st.Nodes.any tY
   · rw [bD]
     cases hf:(decide (st.Room < (st.Nodes.length:Int)) || decide (st.Keep < (st.Ended.length:Int)))
     · rw [bD,hL hw]; rfl
     · rfl
   · rfl
 · show bno (some (default:Bool)) _=_
   rw [bnoS]
   show (bif (vJ st || _) then _ else _)=_
   rw [hr]; rfl
def tre (st:Fs):T19:=⟨st.Room,st.Keep,st.Nodes,st.Ended⟩
end
end Go.Fn
open Go Go.IL
namespace Go.Fn
section
variable {N:List Nd}
end
structure GV (st:Fs):Prop where
 rm:1 ≤ st.Room ∧ st.Room ≤ 24
 kp:0 ≤ st.Keep ∧ st.Keep ≤ st.Room
 ln:(st.Nodes.length:Int) ≤ st.Room
 el:(st.Ended.length:Int) ≤ st.Keep
 fv:FV 24 ⟨24,24,st.Nodes,st.Ended⟩
end Go.Fn
open Go Go.IL
namespace Go.Fn
def sel (h:Nd → Nd) (ks:List Int) (n:Nd):Nd:=if n.ID ∈ ks then h n else n
theorem aAy {h:Nd → Nd} (hid:∀ n,(h n).ID=n.ID) (ks:List Int) (n:Nd):(sel h ks n).ID=n.ID:=by unfold sel; split; exact hid n; rfl
theorem vF {h:Nd → Nd} (N:List Nd):N.map (sel h [])=N:=by
 conv=>rhs; rw [← List.map_id N]
 exact List.map_congr_left (fun n _=>by unfold sel; simp)
section
variable {N:List Nd} {R K:Int} {E:List Int}
theorem sH {h:Nd → Nd} (hid:∀ n,(h n).ID=n.ID) (hs:N.Pairwise (fun a b=>a.ID < b.ID)) (hl:N.length ≤ 1000) {y:Nd} (hy:y ∈ N) {pre:List Int} (hp:y.ID ∉ pre) :
 ∃ A C,N.map (sel h pre)=A ++ y :: C ∧ bR ⟨R,K,N.map (sel h pre),E⟩ y.ID=some (A.length:Int) ∧ ∀ z:Nd,z.ID=y.ID → z=h y → eD ⟨R,K,N.map (sel h pre),E⟩ z=some ⟨R,K,N.map (sel h (pre ++ [y.ID])),E⟩:=by
 obtain ⟨A,C,hN⟩:=List.append_of_mem hy
 have hs2:=hs
 rw [hN] at hs2
 obtain ⟨hA,hC⟩:=qL hs2
 have hys:sel h pre y=y:=by unfold sel; rw [if_neg hp]
 have hsame:∀ n,n.ID ≠ y.ID → sel h (pre ++ [y.ID]) n=sel h pre n:=fun n hn=>by
  unfold sel
  have:n.ID ∈ pre ++ [y.ID] ↔ n.ID ∈ pre:=by simp [hn]
  simp only [this]
 have h1:N.map (sel h pre)=A.map (sel h pre) ++ y :: C.map (sel h pre):=by
  rw [hN,List.map_append,List.map_cons,hys]
 have h2:N.map (sel h (pre ++ [y.ID]))=A.map (sel h pre) ++ h y :: C.map (sel h pre):=by
  rw [hN,List.map_append,List.map_cons,List.map_congr_left (fun n hn=>hsame n (hA n hn)),List.map_congr_left (fun n hn=>hsame n (hC n hn))]
  congr 2
  unfold sel
  rw [if_pos (by simp)]
 have hA2:∀ a ∈ A.map (sel h pre),a.ID ≠ y.ID:=fun a ha=>by
  obtain ⟨n,hn,e⟩:=List.mem_map.1 ha
  rw [← e,aAy hid]
  exact hA n hn
 have hl2:(⟨R,K,N.map (sel h pre),E⟩:T19).L.length ≤ 1000:=by show (N.map (sel h pre)).length ≤ 1000; rw [List.length_map]; exact hl
 refine ⟨_,_,h1,xG hl2 h1 rfl hA2,fun z hz1 hz2=>?_⟩
 rw [aBn hl2 h1 hz1.symm (fun a ha=>by rw [hz1]; exact hA2 a ha),h2,hz2]
end
def wS:List Nd → Int
 | []=>0
 | n :: r=>n.Weight + wS r
theorem aDz:∀ a b:List Nd,wS (a ++ b)=wS a + wS b
 | [],b=>by show wS b=0 + wS b; omega
 | n :: a,b=>by
   have:=aDz a b
   show n.Weight + wS (a ++ b)=n.Weight + wS a + wS b
   omega
theorem aBq (id:Int):∀ N:List Nd,wS (N.filter fun n=>decide (n.Parent=id))=sumS N id
 | []=>rfl
 | n :: N=>by
   have:=aBq id N
   have e:sumS (n :: N) id=(if n.Parent=id then n.Weight else 0) + sumS N id:=rfl
   rw [e]
   by_cases h:n.Parent=id
   · rw [List.filter_cons_of_pos (by simp [h]),if_pos h]
     show n.Weight + wS _=_
     rw [this]
   · rw [List.filter_cons_of_neg (by simp [h]),if_neg h,this]; omega
theorem wS_bd:∀ {M:List Nd},(∀ n ∈ M,1 ≤ n.Weight ∧ n.Weight ≤ 256) → 0 ≤ wS M ∧ wS M ≤ 256 * M.length
 | [],_=>⟨Int.le_refl _,Int.le_refl _⟩
 | n :: M,h=>by
   have h1:=wS_bd (M:=M) (fun x hx=>h x (by simp [hx]))
   have h2:=h n (by simp)
   show 0 ≤ n.Weight + wS M ∧ n.Weight + wS M ≤ 256 * ((M.length + 1:Nat):Int)
   omega
section
variable {N:List Nd} {R K:Int} {E:List Int}
theorem aA8 {M p r:List Nd} {n:Nd} (h:M=p ++ n :: r):M.map (·.ID)=p.map (·.ID) ++ n.ID :: r.map (·.ID):=by rw [h]; simp
theorem aB9 (hs:N.Pairwise (fun a b=>a.ID < b.ID)) (hl:N.length ≤ 1000) (hw:∀ n ∈ N,1 ≤ n.Weight ∧ n.Weight ≤ 256) {id:Int} {x2:Nd} {M:List Nd} (hM:∀ n ∈ M,n ∈ N) (hml:M.length ≤ 1000) {res:Option T19} (hres:gH id x2 (M.map (·.ID)) (wS M) fuel 0 R K N E=res):∀ (r p:List Nd) (f:Nat),M=p ++ r → r.length < f → iC ⟨R,K,N,E⟩ id x2 (M.map (·.ID)) f (wS p) (p.length:Int)=res
 | [],p,f + 1,h,_=>by
   rw [List.append_nil] at h
   subst h
   rw [iC]
   have:decide ((M.length:Int) < ((M.map (·.ID)).length:Int))=false:=by rw [List.length_map]; exact lY
   simp only [bndD,this,bD]
   exact hres
 | n :: r,p,f + 1,h,hf=>by
   have hrec:=aB9 hs hl hw hM hml hres r (p ++ [n]) f (kE h) (by simpa using hf)
   have hn:=hM n (by rw [h]; simp)
   have hwn:=hw n hn
   have hpb:=wS_bd (M:=p) (fun x hx=>hw x (hM x (by rw [h]; simp [hx])))
   have hpl:p.length ≤ 1000:=by rw [h] at hml; simp at hml; omega
   have hmp:=aA8 h
   have hlen:(p.map (·.ID)).length=p.length:=List.length_map ..
   obtain ⟨A,C,hA,hpl2,_⟩:=sH (h:=fun n=>n) (fun _=>rfl) hs hl (R:=R) (K:=K) (E:=E) hn (pre:=[]) List.not_mem_nil
   rw [vF] at hA hpl2
   have h1:=nJ hmp
   have h2:=fS hmp
   have h3:=w_at hmp (by rw [List.length_map]; omega)
   rw [hlen] at h1 h2 h3
   rw [List.length_append,hlen,← hlen,← List.length_append] at h3
   have h3:IntKind.wrap .i64 ((p.length:Int) + 1)=((p ++ [n]).length:Int):=w_at h (by omega)
   rw [aDz,show wS [n]=n.Weight + 0 from rfl,Int.add_zero] at hrec
   rw [iC]
   simp only [bndD,h1,bM,h2,bnoS,hpl2,fS hA,w64 (show -9223372036854775808 ≤ wS p + n.Weight by omega) (by omega),h3]
   exact hrec
theorem aB7 {id:Int} (hl:N.length ≤ 1000) (he:E.length ≤ 1000):∀ (r p:List Nd) (f:Nat),N=p ++ r → r.length < f → gG id R K N E f (p.filter fun n=>!decide (n.ID=id)) (p.length:Int)=some ⟨R,K,N.filter fun n=>!decide (n.ID=id),E.filter fun y=>!decide (y=id)⟩
 | [],p,f + 1,h,_=>by
   rw [List.append_nil] at h
   rw [gG]
   simp only [bndD,h,lY,bD,wo19 he,bnoS]
 | n :: r,p,f + 1,h,hf=>by
   have hr:=aB7 (id:=id) hl he r (p ++ [n]) f (kE h) (by simpa using hf)
   have hk:(p.filter fun n=>!decide (n.ID=id)).length ≤ 1000:=by
    have:=List.length_filter_le (fun n:Nd=>!decide (n.ID=id)) p
    rw [h] at hl; simp at hl; omega
   rw [List.filter_append] at hr
   rw [gG]
   simp only [bndD,nJ h,bM,fS h,bnoS,w_at h (show N.length ≤ 1000000 by omega)]
   by_cases e:n.ID=id
   · rw [show [n].filter (fun n:Nd=>!decide (n.ID=id))=[] by simp [e],List.append_nil] at hr
     rw [decide_eq_true e]
     exact hr
   · rw [show [n].filter (fun n:Nd=>!decide (n.ID=id))=[n] by simp [e]] at hr
     rw [decide_eq_false e]
     show bno (app 32 (p.filter fun n=>!decide (n.ID=id)) [n]) _=_
     rw [kX (by rw [List.length_singleton]; omega) (by rw [List.length_singleton]; omega),bnoS]
     exact hr
def goN (y:Nd) (S:Int) (n:Nd):Nd:=⟨n.ID,y.Parent,max 1 (y.Weight * n.Weight / S),n.Closed⟩
theorem aB8 (hs:N.Pairwise (fun a b=>a.ID < b.ID)) (hl:N.length ≤ 1000) (he:E.length ≤ 1000) (hw:∀ n ∈ N,1 ≤ n.Weight ∧ n.Weight ≤ 256) {id:Int} {y:Nd} (hy:1 ≤ y.Weight ∧ y.Weight ≤ 256) {M:List Nd} (hM:∀ n ∈ M,n ∈ N) (hml:M.length ≤ 1000) {S:Int} (hS:∀ n ∈ M,n.Weight ≤ S) (hnd:(M.map (·.ID)).Nodup):∀ (r p:List Nd) (f:Nat),M=p ++ r → r.length < f → gH id y (M.map (·.ID)) S f (p.length:Int) R K (N.map (sel (goN y S) (p.map (·.ID)))) E=some ⟨R,K,(N.map (sel (goN y S) (M.map (·.ID)))).filter fun n=>!decide (n.ID=id),E.filter fun y=>!decide (y=id)⟩
 | [],p,f + 1,h,_=>by
   rw [List.append_nil] at h
   subst h
   rw [gH]
   have:decide ((M.length:Int) < ((M.map (·.ID)).length:Int))=false:=by rw [List.length_map]; exact lY
   simp only [bndD,this,bD]
   exact aB7 (by rw [List.length_map]; exact hl) he _ [] fuel rfl (eU (by rw [List.length_map]; omega))
 | n :: r,p,f + 1,h,hf=>by
   have hrec:=aB8 hs hl he hw (id:=id) hy hM hml hS hnd r (p ++ [n]) f (kE h) (by simpa using hf)
   have hnM:n ∈ M:=by rw [h]; simp
   have hn:=hM n hnM
   have hwn:=hw n hn
   have hSn:=hS n hnM
   have hmp:=aA8 h
   have hlen:(p.map (·.ID)).length=p.length:=List.length_map ..
   have hnp:n.ID ∉ p.map (·.ID):=fun hh=>by
    rw [hmp] at hnd
    exact (List.nodup_append.1 hnd).2.2 n.ID hh n.ID (by simp) rfl
   obtain ⟨A,C,hA,hpl2,hwith⟩:=sH (h:=goN y S) (fun _=>rfl) hs hl (R:=R) (K:=K) (E:=E) hn hnp
   have h1:=nJ hmp
   have h2:=fS hmp
   rw [hlen] at h1 h2
   have h3:IntKind.wrap .i64 ((p.length:Int) + 1)=((p ++ [n]).length:Int):=w_at h (by omega)
   have g1:1 ≤ y.Weight * n.Weight:=by
    have:=Int.mul_le_mul hy.1 hwn.1 (by decide) (by omega)
    simpa using this
   have g2:y.Weight * n.Weight ≤ 65536:=by
    have:=Int.mul_le_mul hy.2 hwn.2 (by omega) (by decide)
    simpa using this
   have hd0:0 ≤ y.Weight * n.Weight / S:=Int.ediv_nonneg (by omega) (by omega)
   have hd1:y.Weight * n.Weight / S ≤ y.Weight * n.Weight:=Int.ediv_le_self _ (by omega)
   have hquo:quoI .i64 (y.Weight * n.Weight) S=some (y.Weight * n.Weight / S):=by
    unfold quoI
    rw [if_neg (by omega),Int.tdiv_eq_ediv_of_nonneg (by omega),w64 (by omega) (by omega)]
   have hwi:=hwith ⟨n.ID,y.Parent,max 1 (y.Weight * n.Weight / S),n.Closed⟩ rfl rfl
   rw [List.map_append,show [n].map (·.ID)=[n.ID] from rfl] at hrec
   rw [gH]
   simp only [bndD,h1,bM,h2,bnoS,hpl2,fS hA,w64 (show -9223372036854775808 ≤ y.Weight * n.Weight by omega) (by omega),hquo,hwi,h3]
   exact hrec
theorem aD1 (hs:N.Pairwise (fun a b=>a.ID < b.ID)) (hl:N.length ≤ 1000) (he:E.length ≤ 1000) (hw:∀ n ∈ N,1 ≤ n.Weight ∧ n.Weight ≤ 256) {A C:List Nd} {y:Nd} (hN:N=A ++ y :: C) (hp:y.Parent ≠ y.ID):dJ ⟨R,K,N,E⟩ y.ID=some ⟨R,K,offS A y C,E.filter fun e=>!decide (e=y.ID)⟩:=by
 have hy:y ∈ N:=by rw [hN]; simp
 have hs2:=hs
 rw [hN] at hs2
 obtain ⟨hA,hC⟩:=qL hs2
 have hM:∀ n ∈ N.filter (fun n=>decide (n.Parent=y.ID)),n ∈ N:=fun n hn=>(List.mem_filter.1 hn).1
 have hml:(N.filter fun n=>decide (n.Parent=y.ID)).length ≤ 1000:=by
  have:=List.length_filter_le (fun n:Nd=>decide (n.Parent=y.ID)) N
  omega
 have hsum:sumS N y.ID=sumS (A ++ C) y.ID:=by
  rw [hN,tK,tK]
  have e:sumS (y :: C) y.ID=(if y.Parent=y.ID then y.Weight else 0) + sumS C y.ID:=rfl
  rw [e,if_neg hp]; omega
 have hS:∀ n ∈ N.filter (fun n=>decide (n.Parent=y.ID)),n.Weight ≤ sumS (A ++ C) y.ID:=fun n hn=>by
  obtain ⟨h1,h2⟩:=List.mem_filter.1 hn
  have h2:n.Parent=y.ID:=of_decide_eq_true h2
  have:=xA hw h1
  rw [h2,hsum] at this
  exact this
 have hnd:=tA (List.Pairwise.sublist (List.filter_sublist (p:=fun n=>decide (n.Parent=y.ID))) hs)
 have h1:=aB8 (R:=R) (K:=K) hs hl he hw (id:=y.ID) (hw y hy) hM hml hS hnd (N.filter fun n=>decide (n.Parent=y.ID)) [] fuel rfl (eU (by omega))
 rw [show List.map (fun x:Nd=>x.ID) []=[] from rfl,vF] at h1
 have hwk:=aBq y.ID N
 rw [hsum] at hwk
 rw [← hwk] at h1
 have h0:=aB9 (R:=R) (K:=K) (E:=E) hs hl hw hM hml h1 (N.filter fun n=>decide (n.Parent=y.ID)) [] fuel rfl (eU (by omega))
 have hfin:(N.map (sel (goN y (wS (N.filter fun n=>decide (n.Parent=y.ID)))) ((N.filter fun n=>decide (n.Parent=y.ID)).map (·.ID)))).filter (fun n=>!decide (n.ID=y.ID))=offS A y C:=by
  rw [hwk]
  generalize hg:sel (goN y (sumS (A ++ C) y.ID)) ((N.filter fun n=>decide (n.Parent=y.ID)).map (·.ID))=g
  have hgid:∀ n,(g n).ID=n.ID:=fun n=>by rw [← hg]; exact aAy (h:=goN y (sumS (A ++ C) y.ID)) (fun _=>rfl) _ n
  have hgo:∀ n ∈ N,g n=offN y (sumS (A ++ C) y.ID) n:=fun n hn=>by
   rw [← hg]
   unfold sel offN goN
   have:n.ID ∈ (N.filter fun n=>decide (n.Parent=y.ID)).map (·.ID) ↔ n.Parent=y.ID:=by
    constructor
    · intro hh
      obtain ⟨m,hm,e⟩:=List.mem_map.1 hh
      obtain ⟨hm1,hm2⟩:=List.mem_filter.1 hm
      have:m=n:=nZ hs hm1 hn e
      rw [← this]; exact of_decide_eq_true hm2
    · intro hh
      exact List.mem_map.2 ⟨n,List.mem_filter.2 ⟨hn,decide_eq_true hh⟩,rfl⟩
   simp only [this,Int.max_comm]
  have hkeep:∀ B:List Nd,(∀ b ∈ B,b ∈ N) → (∀ b ∈ B,b.ID ≠ y.ID) → (B.map g).filter (fun n=>!decide (n.ID=y.ID))=B.map (offN y (sumS (A ++ C) y.ID)):=fun B hB hne=>by
   rw [List.map_congr_left (fun b hb=>hgo b (hB b hb))]
   refine List.filter_eq_self.2 (fun n hn=>?_)
   obtain ⟨b,hb,e⟩:=List.mem_map.1 hn
   rw [← e,qF,decide_eq_false (hne b hb)]; rfl
  unfold offS
  conv=>lhs; rw [hN]
  rw [List.map_append,List.map_cons,List.filter_append,List.filter_cons_of_neg (by rw [hgid]; simp),hkeep A (fun b hb=>by rw [hN]; simp [hb]) hA,hkeep C (fun b hb=>by rw [hN]; simp [hb]) hC,List.map_append]
 rw [hfin] at h0
 unfold dJ
 rw [xG (t:=⟨R,K,N,E⟩) hl hN rfl hA,bnoS]
 show bno (gix N (A.length:Int)) _=_
 rw [fS hN,bnoS,aD9 (t:=⟨R,K,N,E⟩) hl,bnoS]
 exact h0
end
end Go.Fn
open Go Go.IL
namespace Go.Fn
def aAK (N:List Nd) (x d w:Int) (o b:Bool) (p:Int):List Nd:=bif b then (N.map (mvN d p)).map (iJ x d w o) else N.map (iJ x d w o)
section
variable {N:List Nd} {R K:Int} {E:List Int}
theorem mv_so (hs:N.Pairwise (fun a b=>a.ID < b.ID)) (d p:Int):(N.map (mvN d p)).Pairwise (fun a b=>a.ID < b.ID):=by
 rw [List.pairwise_map]
 exact hs.imp (fun hab=>by rw [lE,lE]; exact hab)
theorem hangE (h:Ok34 N) {op:Fo} (h64:I64 op.Dep) {A C:List Nd} {y:Nd} (hN:N=A ++ y :: C) (hyx:y.ID=op.ID) {d w:Int} {o:Bool} (hd:(op.Dep=0 ∨ ∃ n ∈ N,n.ID=op.Dep) ∧ d=op.Dep ∧ w=op.Weight ∧ o=op.Only ∨ (op.Dep ≠ 0 ∧ ∀ n ∈ N,n.ID ≠ op.Dep) ∧ d=0 ∧ w=16 ∧ o=false) :
 iT R K op N E=some (R,K,aAK N op.ID d w o (decide (op.ID ∈ fO N N.length d)) y.Parent,E):=by
 have hln:=h.ln
 have hs:=h.so
 have hs2:=hs
 rw [hN] at hs2
 obtain ⟨hA,hC⟩:=qL hs2
 have hy:y ∈ N:=by rw [hN]; simp
 have hyr:=h.ra y hy
 obtain ⟨A',y',C',hN',hyx',hfy'⟩:=aAt (R:=R) (K:=K) (E:=E) h (id:=op.ID) ⟨y,hy,hyx⟩
 have e1:y'=y:=nZ hs (by rw [hN']; simp) hy (hyx'.trans hyx.symm)
 subst e1
 have hn0:∀ n ∈ N,n.ID ≠ 0:=fun n hn=>by have:=h.ra n hn; omega
 have hp0:fO N N.length 0=[]:=by
  cases N.length with
  | zero=>rfl
  | succ k=>unfold fO; rw [xH hn0]
 obtain ⟨q,hq1,hq2⟩:=wI (R:=R) (K:=K) (E:=E) h (id:=op.Dep) h64
 unfold iT
 rw [hq1,bnoS,bndD,bndD]
 cases hq2 with
 | no p hp hno _ =>
   rcases hd with ⟨hd1,rfl,rfl,rfl⟩ | ⟨hd1,rfl,rfl,rfl⟩
   · have h0:op.Dep=0:=hd1.resolve_right (fun ⟨n,hn,e⟩=>hno n hn e)
     have e:((!false) && !decide (op.Dep=0))=false:=by rw [decide_eq_true h0]; rfl
     show (bif ((!false) && !decide (op.Dep=0)) then _ else _)=_
     rw [e,bD]
     unfold gP
     rw [hfy',bnoS]
     show (bif false then _ else _)=_
     rw [bD,bndD,h0,hp0]
     have:=uX (R:=R) (K:=K) (op:=op) (E:=E) (v6:=op.Dep) (v7:=op.Weight) (v8:=op.Only) hN' hs hln hyx'
     rw [h0] at this
     exact this
   · have e:((!false) && !decide (op.Dep=0))=true:=by rw [decide_eq_false hd1.1]; rfl
     show (bif ((!false) && !decide (op.Dep=0)) then _ else _)=_
     rw [e,bM]
     unfold gP
     rw [hfy',bnoS]
     show (bif false then _ else _)=_
     rw [bD,bndD,hp0]
     exact uX (R:=R) (K:=K) (op:=op) (E:=E) (v6:=0) (v7:=16) (v8:=false) hN' hs hln hyx'
 | yes B k D hB hk _ _ =>
   have hkm:k ∈ N:=by rw [hB]; simp
   rcases hd with ⟨hd1,rfl,rfl,rfl⟩ | ⟨hd1,rfl,rfl,rfl⟩
   · have hpl:=uS N N.length op.Dep
     have hmem:=cint (l:=fO N N.length op.Dep) (x:=op.ID) (by omega)
     have hp34:=path34b (a0:=R) (a1:=K) (E:=E) h (id:=op.Dep) h64
     have e0:((!true) && !decide (op.Dep=0))=false:=rfl
     show (bif ((!true) && !decide (op.Dep=0)) then _ else _)=_
     rw [e0,bD]
     unfold gP
     rw [hfy',bnoS]
     show (bif true then _ else _)=_
     rw [bM,hp34,bnoS,hmem,bnoS,bndD]
     show (bif decide (op.ID ∈ fO N N.length op.Dep) then _ else _)=_
     cases decide (op.ID ∈ fO N N.length op.Dep)
     · rw [bD]
       exact uX hN' hs hln hyx'
     · have hs3:=hs
       rw [hB] at hs3
       have hset:N.set ((B.length:Nat):Int).toNat (⟨k.ID,y'.Parent,k.Weight,k.Closed⟩:Nd)=N.map (mvN k.ID y'.Parent):=by
        conv=>lhs; rw [hB]
        rw [tL,← map_mv hs3,← hB]
       have hN1:N.map (mvN k.ID y'.Parent)=A'.map (mvN k.ID y'.Parent) ++ mvN k.ID y'.Parent y' :: C'.map (mvN k.ID y'.Parent):=by
        conv=>lhs; rw [hN']
        rw [List.map_append,List.map_cons]
       have hend:=uX (R:=R) (K:=K) (op:=op) (E:=E) (v6:=op.Dep) (v7:=op.Weight) (v8:=op.Only) hN1 (mv_so hs _ _) (by rw [List.length_map]; exact hln) ((lE _ _ _).trans hyx')
       rw [List.length_map] at hend
       rw [bM,fS hN',bnoS,qK hN',bnoS,fS hB,bnoS]
       show bno (N[((B.length:Nat):Int).toNat]?) _=_
       rw [qK hB,bnoS,bndD]
       show gO R K op E op.Dep op.Weight op.Only ((A'.length:Int),true) (N.set ((B.length:Nat):Int).toNat (⟨k.ID,y'.Parent,k.Weight,k.Closed⟩:Nd))=_
       rw [hset,hend,hk]; rfl
   · exact absurd hk (hd1.2 k hkm)
def tkN (x:Int) (n:Nd):Nd:=⟨n.ID,x,n.Weight,n.Closed⟩
def atN (d w:Int) (n:Nd):Nd:=⟨n.ID,d,w,n.Closed⟩
theorem aCH (hs:N.Pairwise (fun a b=>a.ID < b.ID)) (hl:N.length ≤ 1000) {x d w:Int} {y z:Nd} (hz:z ∈ N) (hzx:z.ID=x) (hyx:y.ID=x) (hc:y.Closed=z.Closed):eD ⟨R,K,N,E⟩ (⟨y.ID,d,w,y.Closed⟩:Nd)=some ⟨R,K,N.map (sel (atN d w) [x]),E⟩:=by
 obtain ⟨A,C,hA,_,hwi⟩:=sH (h:=atN d w) (fun _=>rfl) hs hl (R:=R) (K:=K) (E:=E) hz (pre:=[]) List.not_mem_nil
 rw [vF] at hwi
 have:=hwi ⟨y.ID,d,w,y.Closed⟩ (hyx.trans hzx.symm) (by show _=(⟨z.ID,d,w,z.Closed⟩:Nd); rw [hyx,hzx,hc])
 rw [this,List.nil_append,hzx]
theorem aD3 (hs:N.Pairwise (fun a b=>a.ID < b.ID)) (hl:N.length ≤ 1000) {x d w:Int} {o:Bool} {y z:Nd} (hz:z ∈ N) (hzx:z.ID=x) (hyx:y.ID=x) (hc:y.Closed=z.Closed) {M:List Nd} (hM:∀ n ∈ M,n ∈ N) (hml:M.length ≤ 1000) (hnd:(M.map (·.ID)).Nodup) (hxm:x ∉ M.map (·.ID)) (ho:o=true):∀ (r p:List Nd) (f:Nat),M=p ++ r → r.length < f → gF x d w o y (M.map (·.ID)) f (p.length:Int) R K (N.map (sel (tkN x) (p.map (·.ID)))) E=some ⟨R,K,(N.map (sel (tkN x) (M.map (·.ID)))).map (sel (atN d w) [x]),E⟩
 | [],p,f + 1,h,_=>by
   rw [List.append_nil] at h
   subst h
   have hso:(N.map (sel (tkN x) (M.map (·.ID)))).Pairwise (fun a b=>a.ID < b.ID):=by
    rw [List.pairwise_map]
    exact hs.imp (fun hab=>by rw [aAy (h:=tkN x) (fun _=>rfl),aAy (h:=tkN x) (fun _=>rfl)]; exact hab)
   have hzs:sel (tkN x) (M.map (·.ID)) z=z:=by unfold sel; rw [if_neg (by rw [hzx]; exact hxm)]
   have hend:=aCH (R:=R) (K:=K) (E:=E) (d:=d) (w:=w) hso (by rw [List.length_map]; exact hl) (List.mem_map.2 ⟨z,hz,hzs⟩) hzx hyx hc
   rw [gF]
   have:decide ((M.length:Int) < ((M.map (·.ID)).length:Int))=false:=by rw [List.length_map]; exact lY
   simp only [bndD,this,Bool.false_and,bD,hend,bnoS]
 | n :: r,p,f + 1,h,hf=>by
   have hrec:=aD3 hs hl (d:=d) (w:=w) hz hzx hyx hc hM hml hnd hxm ho r (p ++ [n]) f (kE h) (by simpa using hf)
   have hnM:n ∈ M:=by rw [h]; simp
   have hn:=hM n hnM
   have hmp:=aA8 h
   have hlen:(p.map (·.ID)).length=p.length:=List.length_map ..
   have hnp:n.ID ∉ p.map (·.ID):=fun hh=>by
    rw [hmp] at hnd
    exact (List.nodup_append.1 hnd).2.2 n.ID hh n.ID (by simp) rfl
   obtain ⟨A,C,hA,hpl2,hwith⟩:=sH (h:=tkN x) (fun _=>rfl) hs hl (R:=R) (K:=K) (E:=E) hn hnp
   have h1:=nJ hmp
   have h2:=fS hmp
   rw [hlen] at h1 h2
   have h3:IntKind.wrap .i64 ((p.length:Int) + 1)=((p ++ [n]).length:Int):=w_at h (by omega)
   have hwi:=hwith ⟨n.ID,x,n.Weight,n.Closed⟩ rfl rfl
   rw [List.map_append,show [n].map (·.ID)=[n.ID] from rfl] at hrec
   rw [gF]
   simp only [bndD,h1,ho,Bool.and_self,bM,h2,bnoS,hpl2,fS hA,hwi,h3]
   rw [ho] at hrec
   exact hrec
theorem aD4 (hs:N.Pairwise (fun a b=>a.ID < b.ID)) (hl:N.length ≤ 1000) {x d w:Int} {o:Bool} {y z:Nd} (hz:z ∈ N) (hzx:z.ID=x) (hyx:y.ID=x) (hc:y.Closed=z.Closed):jK x d w o y R K N E=some ⟨R,K,N.map (iJ x d w o),E⟩:=by
 have hkl:(sV N d).length ≤ 1000:=by
  unfold sV
  rw [List.length_map]
  have:=List.length_filter_le (fun n:Nd=>decide (n.Parent=d)) N
  omega
 have hks:(sV N d).filter (fun e=>!decide (e=x))=((N.filter fun n=>decide (n.Parent=d)).filter fun n=>!decide (n.ID=x)).map (·.ID):=by
  unfold sV
  rw [List.filter_map]; rfl
 have hpt:∀ (g:Nd → Nd),(∀ n ∈ N,g n=iJ x d w o n) → N.map g=N.map (iJ x d w o):=fun g hg=>List.map_congr_left hg
 unfold jK
 rw [aD9 (t:=⟨R,K,N,E⟩) hl,bnoS]
 show bno (lQ (sV N d) x) _=_
 rw [wo19 hkl,bnoS,hks]
 have hM:∀ n ∈ (N.filter fun n=>decide (n.Parent=d)).filter (fun n=>!decide (n.ID=x)),n ∈ N ∧ n.Parent=d ∧ n.ID ≠ x:=fun n hn=>by
  obtain ⟨h1,h2⟩:=List.mem_filter.1 hn
  obtain ⟨h3,h4⟩:=List.mem_filter.1 h1
  exact ⟨h3,of_decide_eq_true h4,by simpa using h2⟩
 have hin:∀ n ∈ N,n.ID ∈ ((N.filter fun n=>decide (n.Parent=d)).filter fun n=>!decide (n.ID=x)).map (·.ID) ↔ n.Parent=d ∧ n.ID ≠ x:=fun n hn=>by
  constructor
  · intro hh
    obtain ⟨m,hm,e⟩:=List.mem_map.1 hh
    obtain ⟨a,b,c⟩:=hM m hm
    have:m=n:=nZ hs a hn e
    rw [← this]; exact ⟨b,c⟩
  · intro ⟨a,b⟩
    exact List.mem_map.2 ⟨n,List.mem_filter.2 ⟨List.mem_filter.2 ⟨hn,decide_eq_true a⟩,by simp [b]⟩,rfl⟩
 have hnd:(((N.filter fun n=>decide (n.Parent=d)).filter fun n=>!decide (n.ID=x)).map (·.ID)).Nodup:=tA (List.Pairwise.sublist List.filter_sublist (List.Pairwise.sublist List.filter_sublist hs))
 have hml:((N.filter fun n=>decide (n.Parent=d)).filter fun n=>!decide (n.ID=x)).length ≤ 1000:=by
  have h1:=List.length_filter_le (fun n:Nd=>!decide (n.ID=x)) (N.filter fun n=>decide (n.Parent=d))
  have h2:=List.length_filter_le (fun n:Nd=>decide (n.Parent=d)) N
  omega
 have hxm:x ∉ ((N.filter fun n=>decide (n.Parent=d)).filter fun n=>!decide (n.ID=x)).map (·.ID):=fun hh=>by
  obtain ⟨m,hm,e⟩:=List.mem_map.1 hh
  exact (hM m hm).2.2 e
 generalize hMM:(N.filter fun n=>decide (n.Parent=d)).filter (fun n=>!decide (n.ID=x))=M at *
 cases ho:o
 · obtain ⟨j,hj⟩:∃ j,fuel=j + 1:=⟨2 ^ 64 - 1,by show 2 ^ 64=_; omega⟩
   rw [hj,gF]
   simp only [bndD,Bool.and_false,bD,aCH (R:=R) (K:=K) (E:=E) (d:=d) (w:=w) hs hl hz hzx hyx hc,bnoS]
   rw [← ho,hpt _ (fun n hn=>?_)]
   unfold sel iJ atN
   rw [ho]
   by_cases e:n.ID=x <;> simp [e]
 · have hL2:=aD3 (R:=R) (K:=K) (E:=E) (d:=d) (w:=w) hs hl hz hzx hyx hc (fun n hn=>(hM n hn).1) hml hnd hxm ho M [] fuel rfl (eU (by omega))
   rw [show List.map (fun x:Nd=>x.ID) []=[] from rfl,vF,ho] at hL2
   refine hL2.trans ?_
   rw [List.map_map,← ho,hpt _ (fun n hn=>?_)]
   have hi:=hin n hn
   show sel (atN d w) [x] (sel (tkN x) (M.map (·.ID)) n)=_
   by_cases e:n.ID=x
   · have h1:sel (tkN x) (M.map (·.ID)) n=n:=by unfold sel; rw [if_neg (fun hh=>(hi.1 hh).2 e)]
     rw [h1]
     unfold sel iJ
     rw [if_pos (by simp [e]),if_pos e]; rfl
   · by_cases e2:n.Parent=d
     · have h1:sel (tkN x) (M.map (·.ID)) n=tkN x n:=by unfold sel; rw [if_pos (hi.2 ⟨e2,e⟩)]
       rw [h1]
       unfold sel iJ
       rw [if_neg (by show n.ID ∉ [x]; simp [e]),if_neg e,if_pos ⟨ho,e2⟩]; rfl
     · have h1:sel (tkN x) (M.map (·.ID)) n=n:=by unfold sel; rw [if_neg (fun hh=>e2 (hi.1 hh).1)]
       rw [h1]
       unfold sel iJ
       rw [if_neg (by simp [e]),if_neg e,if_neg (fun hh=>e2 hh.2)]
theorem aCI (hs:N.Pairwise (fun a b=>a.ID < b.ID)) (hl:N.length ≤ 1000) (h0:∀ n ∈ N,n.ID ≠ 0) {x d w:Int} {o:Bool} {A C:List Nd} {y:Nd} (hN:N=A ++ y :: C) (hyx:y.ID=x):jL ⟨R,K,N,E⟩ x d w o=some ⟨R,K,aAK N x d w o (decide (x ∈ fO N (N.length + 1) d)) y.Parent,E⟩:=by
 have hs2:=hs
 rw [hN] at hs2
 obtain ⟨hA,hC⟩:=qL hs2
 have hy:y ∈ N:=by rw [hN]; simp
 have hpl:=uS N (N.length + 1) d
 unfold jL
 rw [xG (t:=⟨R,K,N,E⟩) hl hN hyx (fun a ha=>by rw [← hyx]; exact hA a ha),bnoS]
 show bno (gix N (A.length:Int)) _=_
 rw [fS hN,bnoS,rpath (t:=⟨R,K,N,E⟩) hl h0,bnoS]
 show bno (pH (fO N (N.length + 1) d) x) _=_
 rw [in19 (by omega),bnoS]
 by_cases hb:x ∈ fO N (N.length + 1) d
 · rw [decide_eq_true hb,bM]
   have hk:∃ k ∈ N,k.ID=d:=by
    cases hp:oI N d with
    | none=>unfold fO at hb; rw [hp] at hb; exact absurd hb List.not_mem_nil
    | some p=>obtain ⟨n,hn,e,_⟩:=yI hp; exact ⟨n,hn,e⟩
   obtain ⟨k,hkm,rfl⟩:=hk
   obtain ⟨B,D,hB,hplk,hwi⟩:=sH (h:=tkN y.Parent) (fun _=>rfl) hs hl (R:=R) (K:=K) (E:=E) hkm (pre:=[]) List.not_mem_nil
   rw [vF] at hB hplk hwi
   rw [hplk,bnoS]
   show bno (gix N (B.length:Int)) _=_
   rw [fS hB,bnoS,hwi ⟨k.ID,y.Parent,k.Weight,k.Closed⟩ rfl rfl,bnoS,List.nil_append]
   have hmv:N.map (sel (tkN y.Parent) [k.ID])=N.map (mvN k.ID y.Parent):=List.map_congr_left (fun n _=>by
    unfold sel mvN tkN
    simp only [List.mem_singleton])
   rw [hmv]
   exact aD4 (mv_so hs _ _) (by rw [List.length_map]; exact hl) (z:=mvN k.ID y.Parent y) (List.mem_map.2 ⟨y,hy,rfl⟩) ((lE _ _ _).trans hyx) hyx (by unfold mvN; split <;> rfl)
 · rw [decide_eq_false hb,bD]
   exact aD4 hs hl hy hyx hyx rfl
theorem aDP (hs:N.Pairwise (fun a b=>a.ID < b.ID)) (hl:N.length ≤ 1000) (h0:∀ n ∈ N,n.ID ≠ 0) {x dep wt:Int} {only:Bool} {A C:List Nd} {y:Nd} (hN:N=A ++ y :: C) (hyx:y.ID=x) {d w:Int} {o:Bool} (hd:(dep=0 ∨ ∃ n ∈ N,n.ID=dep) ∧ d=dep ∧ w=wt ∧ o=only ∨ (dep ≠ 0 ∧ ∀ n ∈ N,n.ID ≠ dep) ∧ d=0 ∧ w=16 ∧ o=false):dY ⟨R,K,N,E⟩ x dep wt only=some ⟨R,K,aAK N x d w o (decide (x ∈ fO N (N.length + 1) d)) y.Parent,E⟩:=by
 obtain ⟨i,hi,hp⟩:=vN (t:=⟨R,K,N,E⟩) hl dep
 have hp:Pl N dep i:=hp
 have hneg:i < 0 ↔ ∀ n ∈ N,n.ID ≠ dep:=by
  cases hp with
  | yes B k D hB e _=>exact ⟨fun h=>by omega,fun h=>absurd e (h k (by rw [hB]; simp))⟩
  | no hno=>exact ⟨fun _=>hno,fun _=>by decide⟩
 unfold dY
 rcases hd with ⟨hd1,rfl,rfl,rfl⟩ | ⟨hd1,rfl,rfl,rfl⟩
 · by_cases hz:d=0
   · simp only [bndD,decide_eq_true hz,Bool.not_true,ft,gdff,bnoS,Bool.false_and,bD]
     exact aCI hs hl h0 hN hyx
   · obtain ⟨n,hn,e⟩:=hd1.resolve_left hz
     have hi2:¬ i < 0:=fun hh=>hneg.1 hh n hn e
     simp only [bndD,decide_eq_false hz,Bool.not_false,beq_self_eq_true,gdtt,hi,bnoS,decide_eq_false hi2,Bool.and_false,bD]
     exact aCI hs hl h0 hN hyx
 · simp only [bndD,decide_eq_false hd1.1,Bool.not_false,beq_self_eq_true,gdtt,hi,bnoS,decide_eq_true (hneg.2 hd1.2),Bool.and_self,bM]
   exact aCI hs hl h0 hN hyx
end
end Go.Fn
open Go Go.IL
namespace Go.Fn
section
variable {N:List Nd} {R K:Int} {E:List Int}
theorem yJ {x:Int} (h:∀ n ∈ N,n.ID ≠ x → n.Parent ≠ x):∀ (k:Nat) (z:Int),z ≠ x → x ∉ fO N k z
 | 0,_,_,hh=>List.not_mem_nil hh
 | k + 1,z,hz,hh=>by
   unfold fO at hh
   cases hp:oI N z with
   | none=>rw [hp] at hh; exact List.not_mem_nil hh
   | some p =>
     rw [hp] at hh
     obtain ⟨n,hn,e1,e2⟩:=yI hp
     have hpx:p ≠ x:=by rw [← e2]; exact h n hn (by rw [e1]; exact hz)
     by_cases h0:p=0
     · simp only [h0,if_true] at hh; exact List.not_mem_nil hh
     · simp only [if_neg h0] at hh
       rcases List.mem_cons.1 hh with e | hh
       · exact hpx e.symm
       · exact yJ h k p hpx hh
theorem aCN (h0:∀ n ∈ N,n.ID ≠ 0):∀ k,fO N k 0=[]
 | 0=>rfl
 | k + 1=>by unfold fO; rw [xH h0]
theorem aDj (N:List Nd) (x d w:Int) (o b:Bool) (p:Int):(aAK N x d w o b p).length=N.length:=by
 unfold aAK
 cases b <;> simp
theorem aBp (N:List Nd) (op:Fo):∃ (d w:Int) (o:Bool),((op.Dep=0 ∨ ∃ n ∈ N,n.ID=op.Dep) ∧ d=op.Dep ∧ w=op.Weight ∧ o=op.Only ∨ (op.Dep ≠ 0 ∧ ∀ n ∈ N,n.ID ≠ op.Dep) ∧ d=0 ∧ w=16 ∧ o=false):=by
 by_cases h:op.Dep=0 ∨ ∃ n ∈ N,n.ID=op.Dep
 · exact ⟨_,_,_,.inl ⟨h,rfl,rfl,rfl⟩⟩
 · refine ⟨_,_,_,.inr ⟨⟨fun e=>h (.inl e),fun n hn e=>h (.inr ⟨n,hn,e⟩)⟩,rfl,rfl,rfl⟩⟩
theorem hang_eq {a b:Int} (h:FV 24 ⟨a,b,N,E⟩) {op:Fo} (h64:I64 op.Dep) (hx:∃ n ∈ N,n.ID=op.ID):∃ M,iT R K op N E=some (R,K,M,E) ∧ dY ⟨R,K,N,E⟩ op.ID op.Dep op.Weight op.Only=some ⟨R,K,M,E⟩ ∧ M.length=N.length:=by
 have hok:Ok34 N:=h.ok
 have hso:N.Pairwise (fun a b=>a.ID < b.ID):=h.so
 have hn0:∀ n ∈ N,n.ID ≠ 0:=fun n hn=>by have:=hok.ra n hn; omega
 obtain ⟨y,hy,hyx⟩:=hx
 obtain ⟨A,C,hN⟩:=List.append_of_mem hy
 obtain ⟨d,w,o,hd⟩:=aBp N op
 obtain ⟨r,hrk⟩:=h.rk
 have hrk:∀ n ∈ N,n.Parent ≠ 0 → r n.Parent < r n.ID:=hrk
 have hpa:∀ n ∈ N,n.Parent=0 ∨ ∃ m ∈ N,m.ID=n.Parent:=h.pa
 have he:fO N (N.length + 1) d=fO N N.length d:=by
  by_cases h0:d=0
  · rw [h0,aCN hn0,aCN hn0]
  · rcases hd with ⟨h1,h2,_⟩ | ⟨_,h2,_⟩
    · exact sL hso hrk hpa (by rw [h2]; exact h1.resolve_left (by rw [← h2]; exact h0)) 1
    · exact absurd h2 h0
 have h1:=hangE (R:=R) (K:=K) (E:=E) hok h64 hN hyx hd
 have h2:=aDP (R:=R) (K:=K) (E:=E) hso hok.ln hn0 hN hyx hd
 rw [he] at h2
 exact ⟨_,h1,h2,aDj ..⟩
theorem aCA {x dep w:Int} {o:Bool} {A C:List Nd} (hN:N=A ++ C) (hl:N.length ≤ 1000) (hA:∀ a ∈ A,a.ID < x) (hC:∀ c ∈ C,x < c.ID):∀ (r p:List Nd) (f:Nat),A=p ++ r → r.length < f → gL x dep w o R K N E f (p.length:Int)=bno (dY ⟨R,K,A ++ [(⟨x,-1,16,false⟩:Nd)] ++ C,E⟩ x dep w o) fun x43=>some (x43,0)
 | [],p,f + 1,h,_=>by
   rw [List.append_nil] at h
   subst h
   have hal:A.length ≤ 1000:=by rw [hN] at hl; simp at hl; omega
   have hcl:C.length ≤ 1000:=by rw [hN] at hl; simp at hl; omega
   have hgo:(bno (cut N 0 (A.length:Int)) fun x38 =>
    bno (app 32 ([]:(List aH)) x38) fun x39 =>
    bno (app 32 x39 (([(⟨x,(-1),16,false⟩:aH)]:(List aH)))) fun x40 =>
    bno (cut N (A.length:Int) (N.length:Int)) fun x41 =>
    bno (app 32 x40 x41) fun x42 =>
    bno (dY (⟨R,K,x42,E⟩:aW) x dep w o) fun x43 =>
    some (x43,(0:Int)))=bno (dY ⟨R,K,A ++ [(⟨x,-1,16,false⟩:Nd)] ++ C,E⟩ x dep w o) fun x43=>some (x43,0):=by
    rw [aC6 hN,bnoS,kX (by simp; omega) (by simp; omega),bnoS,List.nil_append,kX (by simp; omega) (by simp; omega),bnoS,aDp hN,bnoS,kX (by simp; omega) (by simp; omega),bnoS]
   rw [gL]
   cases C with
   | nil =>
     have hlt:decide ((A.length:Int) < (N.length:Int))=false:=by rw [hN,List.append_nil]; exact lY
     simp only [bndD,hlt,ft,gdff,bnoS,Bool.false_and,bD]
     exact hgo
   | cons c C =>
     have hc:=hC c (by simp)
     simp only [bndD,nJ hN,beq_self_eq_true,gdtt,fS hN,bnoS,decide_eq_false (show ¬ c.ID < x by omega),Bool.and_false,bD]
     exact hgo
 | n :: r,p,f + 1,h,hf=>by
   have hrec:=aCA (dep:=dep) (w:=w) (o:=o) hN hl hA hC r (p ++ [n]) f (kE h) (by simpa using hf)
   have hN2:N=p ++ n :: (r ++ C):=by rw [hN,h]; simp
   have hn:=hA n (by rw [h]; simp)
   rw [gL]
   simp only [bndD,nJ hN2,beq_self_eq_true,gdtt,fS hN2,bnoS,decide_eq_true hn,Bool.and_self,bM,w_at hN2 (show N.length ≤ 1000000 by omega)]
   exact hrec
theorem aEA {a b:Int} (h:FV 24 ⟨a,b,N,E⟩) {op:Fo} (hm:may34 op) (hno:∀ n ∈ N,n.ID ≠ op.ID):∃ M,fJ op R K N E=some (R,K,M,E,0) ∧ dT op.ID op.Dep op.Weight op.Only R K N E=some (⟨R,K,M,E⟩,0) ∧ M.length ≤ 100:=by
 obtain ⟨hid,hw,hdp,hne⟩:=hm
 have hok:Ok34 N:=h.ok
 have hso:N.Pairwise (fun a b=>a.ID < b.ID):=h.so
 have hln:N.length ≤ 24:=h.ln
 have hpa:∀ n ∈ N,n.Parent=0 ∨ ∃ m ∈ N,m.ID=n.Parent:=h.pa
 obtain ⟨q,hq1,hq2⟩:=wI (R:=R) (K:=K) (E:=E) hok (id:=op.ID) ⟨by omega,by omega⟩
 cases hq2 with
 | yes A y C hN he _ _=>exact absurd he (hno y (by rw [hN]; simp))
 | no p hp _ hsp =>
   obtain ⟨h1,h2⟩:=hsp (by omega) (by omega)
   have hN:N.take p ++ N.drop p=N:=List.take_append_drop p N
   have hins:eY (p:Int) ([(⟨op.ID,op.ID,16,false⟩:Nd)]) N=some (N.take p ++ [(⟨op.ID,op.ID,16,false⟩:Nd)] ++ N.drop p):=by
    unfold eY
    rw [insS_ok (by omega) (by omega) (by simp; omega) (by simp; omega),Int.toNat_natCast]
   generalize hA:N.take p=A at *
   generalize hC:N.drop p=C at *
   have hmem:∀ (q:Int) n,n ∈ A ++ [(⟨op.ID,q,16,false⟩:Nd)] ++ C → n=⟨op.ID,q,16,false⟩ ∨ n ∈ N:=fun q n hn=>by
    rw [← hN]
    simp only [List.mem_append,List.mem_singleton] at hn ⊢
    rcases hn with (a | a) | a
    · exact .inr (.inl a)
    · exact .inl a
    · exact .inr (.inr a)
   have hlen:A.length + C.length=N.length:=by rw [← hN,List.length_append]
   have hsoq:∀ q:Int,(A ++ [(⟨op.ID,q,16,false⟩:Nd)] ++ C).Pairwise (fun a b=>a.ID < b.ID):=fun q=>by
    rw [← hN] at hso
    have hpw:=List.pairwise_append.1 hso
    refine List.pairwise_append.2 ⟨List.pairwise_append.2 ⟨hpw.1,List.pairwise_singleton _ _,fun a ha b hb=>by rw [List.mem_singleton.1 hb]; exact h1 a ha⟩,hpw.2.1,fun a ha b hb=>?_⟩
    rcases List.mem_append.1 ha with ha | ha
    · exact hpw.2.2 a ha b hb
    · rw [List.mem_singleton.1 ha]; exact h2 b hb
   have hlq:∀ q:Int,(A ++ [(⟨op.ID,q,16,false⟩:Nd)] ++ C).length ≤ 1000:=fun q=>by
    rw [List.length_append,List.length_append,List.length_singleton]; omega
   have hraq:∀ (q:Int),∀ n ∈ A ++ [(⟨op.ID,q,16,false⟩:Nd)] ++ C,1 ≤ n.ID ∧ n.ID ≤ 1048576:=fun q n hn=>by
    rcases hmem q n hn with e | hn
    · rw [e]; exact hid
    · exact hok.ra n hn
   have hokf:Ok34 (A ++ [(⟨op.ID,op.ID,16,false⟩:Nd)] ++ C):=⟨hlq _,hraq _,hsoq _,fun n hn=>by
    rcases hmem _ n hn with e | hn
    · rw [e]; exact ⟨by show -9223372036854775808 ≤ op.ID; omega,by show op.ID ≤ _; omega⟩
    · exact hok.pa n hn⟩
   have hnp:∀ (q:Int),∀ n ∈ A ++ [(⟨op.ID,q,16,false⟩:Nd)] ++ C,n.ID ≠ op.ID → n.Parent ≠ op.ID:=fun q n hn hx=>by
    rcases hmem q n hn with e | hn
    · rw [e] at hx; exact absurd rfl hx
    · rcases hpa n hn with e | ⟨m,hm,e⟩
      · omega
      · rw [← e]; exact hno m hm
   have hsame:∀ (q:Int) (d w:Int) (o:Bool),(A ++ [(⟨op.ID,q,16,false⟩:Nd)] ++ C).map (iJ op.ID d w o)=A.map (iJ op.ID d w o) ++ [(⟨op.ID,d,w,false⟩:Nd)] ++ C.map (iJ op.ID d w o):=fun q d w o=>by
    rw [List.map_append,List.map_append]
    congr 2
    show [iJ op.ID d w o ⟨op.ID,q,16,false⟩]=_
    unfold iJ
    rw [if_pos rfl]
   obtain ⟨d,w,o,hd⟩:=aBp (A ++ [(⟨op.ID,op.ID,16,false⟩:Nd)] ++ C) op
   have hd2:(op.Dep=0 ∨ ∃ n ∈ A ++ [(⟨op.ID,-1,16,false⟩:Nd)] ++ C,n.ID=op.Dep) ∧ d=op.Dep ∧ w=op.Weight ∧ o=op.Only ∨ (op.Dep ≠ 0 ∧ ∀ n ∈ A ++ [(⟨op.ID,-1,16,false⟩:Nd)] ++ C,n.ID ≠ op.Dep) ∧ d=0 ∧ w=16 ∧ o=false:=by
    have hx:∀ q q':Int,(∃ n ∈ A ++ [(⟨op.ID,q,16,false⟩:Nd)] ++ C,n.ID=op.Dep) → ∃ n ∈ A ++ [(⟨op.ID,q',16,false⟩:Nd)] ++ C,n.ID=op.Dep:=fun q q' ⟨n,hn,e⟩=>by
     simp only [List.mem_append,List.mem_singleton] at hn
     rcases hn with (a | a) | a
     · exact ⟨n,by simp [a],e⟩
     · rw [a] at e; exact absurd e.symm hne
     · exact ⟨n,by simp [a],e⟩
    rcases hd with ⟨g1,g2⟩ | ⟨g1,g2⟩
    · exact .inl ⟨g1.imp id (hx _ _),g2⟩
    · exact .inr ⟨⟨g1.1,fun n hn e=>by obtain ⟨m,hm,e2⟩:=hx (-1) op.ID ⟨n,hn,e⟩; exact g1.2 m hm e2⟩,g2⟩
   have hdx:d ≠ op.ID:=by
    rcases hd with ⟨_,g,_⟩ | ⟨_,g,_⟩
    · rw [g]; exact hne
    · omega
   have hap:∀ q:Int,A ++ [(⟨op.ID,q,16,false⟩:Nd)] ++ C=A ++ (⟨op.ID,q,16,false⟩:Nd) :: C:=fun q=>by simp
   have f1:=hangE (R:=R) (K:=K) (E:=E) hokf (op:=op) ⟨by omega,by omega⟩ (hap _) rfl hd
   have f2:=aDP (R:=R) (K:=K) (E:=E) (hsoq (-1)) (hlq _) (fun n hn=>by have:=hraq _ n hn; omega) (hap (-1)) rfl hd2
   rw [decide_eq_false (yJ (hnp _) _ _ hdx)] at f1 f2
   have hr:=aCA (R:=R) (K:=K) (E:=E) (x:=op.ID) (dep:=op.Dep) (w:=op.Weight) (o:=op.Only) hN.symm (by omega) h1 h2 A [] fuel rfl (eU (by omega))
   refine ⟨A.map (iJ op.ID d w o) ++ [(⟨op.ID,d,w,false⟩:Nd)] ++ C.map (iJ op.ID d w o),?_,?_,by simp only [List.length_append,List.length_map,List.length_singleton]; omega⟩
   · unfold fJ
     rw [hq1,bnoS,hins,bnoS,f1,bnoS]
     show some (R,K,List.map _ _,E,(0:Int))=_
     rw [hsame]
   · unfold dT
     refine hr.trans ?_
     rw [f2,bnoS]
     show some ((⟨R,K,List.map _ _,E⟩:T19),(0:Int))=_
     rw [hsame]
end
def tG (id dep w:Int):Int:=if decide (id < 1) || decide (1048576 < id) || decide (dep < 0) || decide (1048576 < dep) || decide (w < 1) || decide (256 < w) then 8 else if id=dep then 4 else 0
theorem pL (id dep w:Int):mK id dep w=some (tG id dep w):=by
 unfold mK tG
 simp only [bndD]
 cases (decide (id < 1) || decide (1048576 < id) || decide (dep < 0) || decide (1048576 < dep) || decide (w < 1) || decide (256 < w))
 · rw [bD]
   by_cases h:id=dep
   · rw [decide_eq_true h]; simp [h]
   · rw [decide_eq_false h]; simp [h]
 · rfl
section
variable {st:Fs}
theorem GV.ok (h:GV st):Ok34 st.Nodes:=h.fv.ok
theorem aCU (h:GV st) {N:List Nd} {E:List Int} (hf:FV 24 ⟨24,24,N,E⟩) {id:Int} (hid:∃ n ∈ N,n.ID=id):∃ M F,fN st.Room st.Keep id N E=some (st.Room,st.Keep,M,F) ∧ dJ ⟨st.Room,st.Keep,N,E⟩ id=some ⟨st.Room,st.Keep,M,F⟩ ∧ FV 24 ⟨24,24,M,F⟩ ∧ ∀ m ∈ M,∃ n ∈ N,n.ID=m.ID:=by
 obtain ⟨A,y,C,hN,hyx,hoff⟩:=off_any hf st.Room st.Keep (id:=id) hid
 have hN:N=A ++ y :: C:=hN
 have hfv:=aCy hf hN
 have hy:y ∈ N:=by rw [hN]; simp
 have hne:y.Parent ≠ y.ID:=fun e=>by
  obtain ⟨r,hr⟩:=hf.rk
  have h1:=(hf.ra y hy).1
  have:=hr y hy (by omega)
  rw [e] at this; omega
 have hln:N.length ≤ 24:=hf.ln
 have hel:(E.length:Int) ≤ 24:=hf.el
 have hr:=aD1 (R:=st.Room) (K:=st.Keep) (E:=E) (N:=N) hf.so (by omega) (by omega) (fun n hn=>(hf.ra n hn).2) hN hne
 rw [hyx] at hr hfv
 refine ⟨_,_,hoff,hr,hfv,fun m hm=>?_⟩
 obtain ⟨n,hn,e⟩:=List.mem_map.1 hm
 refine ⟨n,?_,by rw [← e,qF]⟩
 rw [hN]
 rcases List.mem_append.1 hn with hn | hn <;> simp [hn]
theorem rest_eq (h:GV st) {op:Fo} (hm:may34 op) (hno:∀ n ∈ st.Nodes,n.ID ≠ op.ID):∃ M F e,dC st.Room st.Keep op st.Nodes st.Ended false=some (st.Room,st.Keep,M,F,e) ∧ dM (tre st) op.ID op.Dep op.Weight op.Only=some (⟨st.Room,st.Keep,M,F⟩,e) ∧ M.length ≤ 100 ∧ F.length ≤ 100:=by
 have hel:(st.Ended.length:Int) ≤ 24:=h.fv.el
 have hidm:=hm.1
 have hln:=h.fv.ln
 have hln:st.Nodes.length ≤ 24:=hln
 obtain ⟨q,hq1,hq2⟩:=wI (R:=st.Room) (K:=st.Keep) (E:=st.Ended) h.ok (id:=op.ID) ⟨by omega,by omega⟩
 have hpl:=aDQ (t:=tre st) (by show st.Nodes.length ≤ 1000; omega) hno
 have hch:tG op.ID op.Dep op.Weight=0:=by
  obtain ⟨h1,h2,h3,h4⟩:=hm
  unfold tG
  rw [decide_eq_false (show ¬ op.ID < 1 by omega),decide_eq_false (show ¬ 1048576 < op.ID by omega),decide_eq_false (show ¬ op.Dep < 0 by omega),decide_eq_false (show ¬ 1048576 < op.Dep by omega),decide_eq_false (show ¬ op.Weight < 1 by omega),decide_eq_false (show ¬ 256 < op.Weight by omega)]
  simp only [Bool.or_self,Bool.false_eq_true,if_false,if_neg (show ¬ op.ID=op.Dep from fun e=>h4 e.symm)]
 have hF:dC st.Room st.Keep op st.Nodes st.Ended false=bif decide (st.Room ≤ (st.Nodes.length:Int)) then (bif decide ((st.Ended.length:Int)=0) then some (st.Room,st.Keep,st.Nodes,st.Ended,7) else bno (gix st.Ended 0) fun x33=>bno (st.Ended[((0:Int)).toNat]?) fun x34=>bno (fN st.Room st.Keep x34 st.Nodes st.Ended) fun x35=>fJ op x35.1 x35.2.1 x35.2.2.1 x35.2.2.2) else fJ op st.Room st.Keep st.Nodes st.Ended:=by
  unfold dC
  rw [bD,bndD,decide_eq_false (show ¬ op.ID=op.Dep from fun e=>hm.2.2.2 e.symm),bD,hq1,bnoS]
  cases hq2 with
  | yes A y C hN he _ _=>exact absurd he (hno y (by rw [hN]; simp))
  | no p hp _ _ =>
    show (bif false then _ else _)=_
    rw [bD,bndD,bndD]
 have hI:dM (tre st) op.ID op.Dep op.Weight op.Only=bif (decide (st.Room ≤ (st.Nodes.length:Int)) && decide ((st.Ended.length:Int)=0)) then some (tre st,7) else bif decide (st.Room ≤ (st.Nodes.length:Int)) then (bno (gix st.Ended 0) fun x46=>bno (dJ ⟨st.Room,st.Keep,st.Nodes,st.Ended⟩ x46) fun x47=>dT op.ID op.Dep op.Weight op.Only x47.Room x47.Keep x47.L x47.Closed) else dT op.ID op.Dep op.Weight op.Only st.Room st.Keep st.Nodes st.Ended:=by
  unfold dM
  simp only [pL,hch,bnoS,hpl,bndD,decide_true,Bool.not_true,bD,show decide (0 ≤ (-1:Int))=false from rfl]
  rfl
 rw [hF,hI]
 by_cases hf:st.Room ≤ (st.Nodes.length:Int)
 · rw [decide_eq_true hf,bM,Bool.true_and,bM]
   cases hE:st.Ended with
   | nil=>exact ⟨_,_,_,rfl,by show some (tre st,(7:Int))=_; unfold tre; rw [hE],by omega,Nat.zero_le _⟩
   | cons z F =>
     have hz:decide (((z :: F).length:Int)=0)=false:=decide_eq_false (by simp only [List.length_cons]; omega)
     have hg:gix (z :: F) 0=some z:=rfl
     have hg2:(z :: F)[((0:Int)).toNat]? = some z:=rfl
     rw [hz,bD,bD,hg,bnoS,hg2,bnoS,bnoS,← hE]
     obtain ⟨M,F',o1,o2,o3,o4⟩:=aCU h h.fv (id:=z) (h.fv.es z (by show z ∈ st.Ended; rw [hE]; simp))
     obtain ⟨M2,i1,i2,i3⟩:=aEA (R:=st.Room) (K:=st.Keep) o3 hm (fun m hm2 e=>by
      obtain ⟨n,hn,e2⟩:=o4 m hm2
      exact hno n hn (e2.trans e))
     rw [o1,o2,bnoS,bnoS]
     have o5:(F'.length:Int) ≤ 24:=o3.el
     exact ⟨M2,F',0,i1,i2,i3,by omega⟩
 · rw [decide_eq_false hf,bD,Bool.false_and,bD,bD]
   obtain ⟨M2,i1,i2,i3⟩:=aEA (R:=st.Room) (K:=st.Keep) h.fv hm hno
   exact ⟨M2,st.Ended,0,i1,i2,i3,by omega⟩
theorem bad_chk {op:Fo} (h:tG op.ID op.Dep op.Weight=0):may34 op:=by
 unfold tG at h
 split at h
 · omega
 · rename_i hb
   split at h
   · omega
   · rename_i hne
     simp at hb
     exact ⟨by omega,by omega,by omega,fun e=>hne e.symm⟩
theorem aA3 (h:GV st) {op:Fo} (h64:I64 op.ID ∧ I64 op.Dep):∃ M F e,fF st.Room st.Keep op st.Nodes st.Ended=some (st.Room,st.Keep,M,F,e) ∧ (op.Kind=0 → dM (tre st) op.ID op.Dep op.Weight op.Only=some (⟨st.Room,st.Keep,M,F⟩,e)) ∧ (op.Kind ≠ 0 → gA (tre st) op.ID op.Dep op.Weight op.Only=some (⟨st.Room,st.Keep,M,F⟩,e)) ∧ M.length ≤ 100 ∧ F.length ≤ 100:=by
 have hel:(st.Ended.length:Int) ≤ 24:=h.fv.el
 have hln:st.Nodes.length ≤ 24:=h.fv.ln
 have hbad:∀ b,b=true → dC st.Room st.Keep op st.Nodes st.Ended b=some (st.Room,st.Keep,st.Nodes,st.Ended,8):=fun b hb=>by rw [hb]; rfl
 have hfront:fF st.Room st.Keep op st.Nodes st.Ended=dC st.Room st.Keep op st.Nodes st.Ended (decide (op.ID < 1) || decide (1048576 < op.ID) || decide (op.Weight < 1) || decide (256 < op.Weight) || decide (op.Dep < 0) || decide (1048576 < op.Dep)):=by
  unfold fF
  rw [wrong34,bnoS]
  show (bif (decide (op.ID < 1) || decide (1048576 < op.ID) || decide (op.Weight < 1) || decide (256 < op.Weight)) then _ else _)=_
  cases (decide (op.ID < 1) || decide (1048576 < op.ID) || decide (op.Weight < 1) || decide (256 < op.Weight))
  · rw [bD,bndD]
    cases decide (op.Dep < 0)
    · rw [bD,bndD]; rfl
    · rfl
  · rfl
 by_cases hc:tG op.ID op.Dep op.Weight=0
 · have hm:=bad_chk hc
   have hnb:(decide (op.ID < 1) || decide (1048576 < op.ID) || decide (op.Weight < 1) || decide (256 < op.Weight) || decide (op.Dep < 0) || decide (1048576 < op.Dep))=false:=by
    obtain ⟨h1,h2,h3,h4⟩:=hm
    rw [decide_eq_false (show ¬ op.ID < 1 by omega),decide_eq_false (show ¬ 1048576 < op.ID by omega),decide_eq_false (show ¬ op.Dep < 0 by omega),decide_eq_false (show ¬ 1048576 < op.Dep by omega),decide_eq_false (show ¬ op.Weight < 1 by omega),decide_eq_false (show ¬ 256 < op.Weight by omega)]; rfl
   rw [hfront,hnb]
   by_cases hx:∃ n ∈ st.Nodes,n.ID=op.ID
   · obtain ⟨q,hq1,hq2⟩:=wI (R:=st.Room) (K:=st.Keep) (E:=st.Ended) h.ok (id:=op.ID) h64.1
     obtain ⟨M,f1,f2,f3⟩:=hang_eq (R:=st.Room) (K:=st.Keep) (E:=st.Ended) h.fv (op:=op) h64.2 hx
     have f2:dY (tre st) op.ID op.Dep op.Weight op.Only=some ⟨st.Room,st.Keep,M,st.Ended⟩:=f2
     obtain ⟨i,hi,hp⟩:=vN (t:=tre st) (by show st.Nodes.length ≤ 1000; omega) op.ID
     have hi0:0 ≤ i:=by
      cases hp with
      | yes A y C _ _ _=>omega
      | no hno=>obtain ⟨n,hn,e⟩:=hx; exact absurd e (hno n hn)
     unfold dC
     rw [bD,bndD,decide_eq_false (show ¬ op.ID=op.Dep from fun e=>hm.2.2.2 e.symm),bD,hq1,bnoS]
     have hq:q.2=true:=by
      cases hq2 with
      | yes A y C _ _ _ _=>rfl
      | no p _ hno _=>obtain ⟨n,hn,e⟩:=hx; exact absurd e (hno n hn)
     rw [hq,bM,bndD]
     by_cases hk:op.Kind=0
     · rw [decide_eq_true hk,bM]
       refine ⟨_,_,_,rfl,fun _=>?_,fun hh=>absurd hk hh,by omega,by omega⟩
       unfold dM
       simp only [pL,hc,bnoS,hi,bndD,decide_true,Bool.not_true,bD,decide_eq_true hi0,bM]
       rfl
     · rw [decide_eq_false hk,bD,f1,bnoS]
       refine ⟨_,_,_,rfl,fun hh=>absurd hh hk,fun _=>?_,by show M.length ≤ 100; omega,by show st.Ended.length ≤ 100; omega⟩
       unfold gA
       simp only [pL,hc,bnoS,hi,bndD,decide_true,Bool.not_true,bD,decide_eq_false (show ¬ i < 0 by omega),f2]
   · have hno:∀ n ∈ st.Nodes,n.ID ≠ op.ID:=fun n hn e=>hx ⟨n,hn,e⟩
     have hpl:=aDQ (t:=tre st) (by show st.Nodes.length ≤ 1000; omega) hno
     obtain ⟨M,F,e,r1,r2,r3⟩:=rest_eq h hm hno
     refine ⟨M,F,e,r1,fun _=>r2,fun _=>?_,r3⟩
     unfold gA
     simp only [pL,hc,bnoS,hpl,bndD,decide_true,Bool.not_true,bD,show decide ((-1:Int) < 0)=true from rfl,bM,r2]
 · have hI:dM (tre st) op.ID op.Dep op.Weight op.Only=some (tre st,tG op.ID op.Dep op.Weight):=by
    unfold dM
    simp only [pL,bnoS,bndD,decide_eq_false hc,Bool.not_false,bM]
   have hMv:gA (tre st) op.ID op.Dep op.Weight op.Only=some (tre st,tG op.ID op.Dep op.Weight):=by
    unfold gA
    simp only [pL,bnoS,bndD,decide_eq_false hc,Bool.not_false,bM]
   refine ⟨st.Nodes,st.Ended,tG op.ID op.Dep op.Weight,?_,fun _=>hI,fun _=>hMv,by omega,by omega⟩
   rw [hfront]
   cases hb:(decide (op.ID < 1) || decide (1048576 < op.ID) || decide (op.Weight < 1) || decide (256 < op.Weight) || decide (op.Dep < 0) || decide (1048576 < op.Dep))
   · have hnb:(decide (op.ID < 1) || decide (1048576 < op.ID) || decide (op.Dep < 0) || decide (1048576 < op.Dep) || decide (op.Weight < 1) || decide (256 < op.Weight))=false:=by
      simp only [Bool.or_eq_false_iff] at hb ⊢
      simp [hb]
     unfold tG at hc ⊢
     rw [hnb] at hc ⊢
     simp only [Bool.false_eq_true,if_false] at hc ⊢
     by_cases he:op.ID=op.Dep
     · rw [if_pos he]
       unfold dC
       rw [bD,bndD,decide_eq_true he,bM]
     · rw [if_neg he] at hc; exact absurd rfl hc
   · rw [hbad _ rfl]
     have hnb:(decide (op.ID < 1) || decide (1048576 < op.ID) || decide (op.Dep < 0) || decide (1048576 < op.Dep) || decide (op.Weight < 1) || decide (256 < op.Weight))=true:=by
      simp only [Bool.or_eq_true] at hb ⊢
      rcases hb with ((((a | a) | a) | a) | a) | a <;> simp [a]
     unfold tG
     rw [hnb]; rfl
end
end Go.Fn
open Go Go.IL
namespace Go.Fn
section
variable {st:Fs}
theorem shut_eq (h:GV st) {id:Int} (h64:I64 id):∃ M F e,gZ st.Room st.Keep id st.Nodes st.Ended=some (st.Room,st.Keep,M,F,e) ∧ iI (tre st) id=some (⟨st.Room,st.Keep,M,F⟩,e) ∧ M.length ≤ 100 ∧ F.length ≤ 100:=by
 have hln:st.Nodes.length ≤ 24:=h.fv.ln
 have hel:(st.Ended.length:Int) ≤ 24:=h.fv.el
 by_cases hx:∃ n ∈ st.Nodes,n.ID=id
 · obtain ⟨y,hy,rfl⟩:=hx
   obtain ⟨A,y',C,hN,hyx,hf⟩:=aAt (R:=st.Room) (K:=st.Keep) (E:=st.Ended) h.ok (id:=y.ID) ⟨y,hy,rfl⟩
   have e1:y'=y:=nZ h.fv.so (by show y' ∈ st.Nodes; rw [hN]; simp) hy hyx
   subst e1
   have hso:st.Nodes.Pairwise (fun a b=>a.ID < b.ID):=h.fv.so
   have hs2:=hso
   rw [hN] at hs2
   obtain ⟨hA,hC⟩:=qL hs2
   have hpl:=xG (t:=tre st) (by show st.Nodes.length ≤ 1000; omega) hN rfl hA
   have hwi:=aBn (t:=tre st) (by show st.Nodes.length ≤ 1000; omega) hN (z:=⟨y'.ID,y'.Parent,y'.Weight,true⟩) rfl hA
   have hwi:eD (tre st) ⟨y'.ID,y'.Parent,y'.Weight,true⟩=some ⟨st.Room,st.Keep,A ++ (⟨y'.ID,y'.Parent,y'.Weight,true⟩:Nd) :: C,st.Ended⟩:=hwi
   have hg:gix (tre st).L (A.length:Int)=some y':=fS hN
   have hmap:=aD7 hs2
   rw [← hN] at hmap
   unfold gZ iI
   rw [hf,bnoS,hpl,bnoS,bndD,decide_eq_false (show ¬ (A.length:Int) < 0 by omega),bD,hg,bnoS]
   show ∃ M F e,(bif false then _ else _)=some (st.Room,st.Keep,M,F,e) ∧ (bif y'.Closed then some (tre st,(9:Int)) else _)=some ((⟨st.Room,st.Keep,M,F⟩:T19),e) ∧ M.length ≤ 100 ∧ F.length ≤ 100
   rw [bD,fS hN,bnoS]
   show ∃ M F e,bno (st.Nodes[((A.length:Nat):Int).toNat]?) _=some (st.Room,st.Keep,M,F,e) ∧ (bif y'.Closed then some (tre st,(9:Int)) else _)=some ((⟨st.Room,st.Keep,M,F⟩:T19),e) ∧ M.length ≤ 100 ∧ F.length ≤ 100
   rw [qK hN,bnoS]
   cases hc:y'.Closed
   · rw [bD,bD,bnoS,bnoS,bndD,hwi,bnoS]
     have hset:st.Nodes.set ((A.length:Nat):Int).toNat (⟨y'.ID,y'.Parent,y'.Weight,true⟩:Nd)=A ++ (⟨y'.ID,y'.Parent,y'.Weight,true⟩:Nd) :: C:=by
      conv=>lhs; rw [hN]
      rw [tL]
     obtain ⟨v1,v2⟩:=aAr h.fv hy hc
     have v1:FV 24 ⟨24,24,st.Nodes.map (clN y'.ID),st.Ended ++ [y'.ID]⟩:=v1
     rw [hmap] at v1
     show ∃ M F e,bno (app 8 st.Ended [y'.ID]) (fun x9=>bnd (decide (st.Keep < (x9.length:Int))) fun x10=>bif x10 then (bno (gix x9 0) fun x12=>bno (x9[((0:Int)).toNat]?) fun x13=>bno (fN st.Room st.Keep x13 (st.Nodes.set ((A.length:Nat):Int).toNat (⟨y'.ID,y'.Parent,y'.Weight,true⟩:Nd)) x9) fun x14=>some (x14.1,x14.2.1,x14.2.2.1,x14.2.2.2,(0:Int))) else some (st.Room,st.Keep,st.Nodes.set ((A.length:Nat):Int).toNat (⟨y'.ID,y'.Parent,y'.Weight,true⟩:Nd),x9,0))=some (st.Room,st.Keep,M,F,e) ∧ bno (app 8 ([]:List Int) st.Ended) (fun x7=>bno (app 8 x7 [y'.ID]) fun x8=>bnd (decide (st.Keep < (x8.length:Int))) fun x9=>bif x9 then (bno (gix x8 0) fun x11=>bno (dJ (⟨st.Room,st.Keep,A ++ (⟨y'.ID,y'.Parent,y'.Weight,true⟩:Nd) :: C,x8⟩:T19) x11) fun x12=>some (x12,(0:Int))) else some ((⟨st.Room,st.Keep,A ++ (⟨y'.ID,y'.Parent,y'.Weight,true⟩:Nd) :: C,x8⟩:T19),0))=some ((⟨st.Room,st.Keep,M,F⟩:T19),e) ∧ M.length ≤ 100 ∧ F.length ≤ 100
     rw [hset,kX (l:=([]:List Int)) (by simp; omega) (by simp; omega),bnoS,List.nil_append,kX (by rw [List.length_singleton]; omega) (by rw [List.length_singleton]; omega),bnoS,bnoS,bndD,bndD]
     cases decide (st.Keep < ((st.Ended ++ [y'.ID]).length:Int))
     · have hAC:A.length + C.length + 1 ≤ 24:=by rw [hN] at hln; simp at hln; omega
       exact ⟨_,_,_,rfl,rfl,by simp only [List.length_append,List.length_cons]; omega,by rw [List.length_append,List.length_singleton]; omega⟩
     · rw [bM,bM]
       cases hE:st.Ended ++ [y'.ID] with
       | nil=>simp at hE
       | cons z F =>
         have hg:gix (z :: F) 0=some z:=rfl
         have hg2:(z :: F)[((0:Int)).toNat]? = some z:=rfl
         rw [hg,bnoS,hg2,bnoS,bnoS]
         rw [hE] at v1
         obtain ⟨M,F',o1,o2,o3,o4⟩:=aCU h v1 (id:=z) (v1.es z (by show z ∈ z :: F; simp))
         rw [o1,o2,bnoS,bnoS]
         have o5:M.length ≤ 24:=o3.ln
         have o6:(F'.length:Int) ≤ 24:=o3.el
         exact ⟨_,_,_,rfl,rfl,by show M.length ≤ 100; omega,by show F'.length ≤ 100; omega⟩
   · rw [bM,bM]
     exact ⟨_,_,_,rfl,rfl,by show st.Nodes.length ≤ 100; omega,by show st.Ended.length ≤ 100; omega⟩
 · have hno:∀ n ∈ st.Nodes,n.ID ≠ id:=fun n hn e=>hx ⟨n,hn,e⟩
   have hpl:=aDQ (t:=tre st) (by show st.Nodes.length ≤ 1000; omega) hno
   obtain ⟨q,hq1,hq2⟩:=wI (R:=st.Room) (K:=st.Keep) (E:=st.Ended) h.ok h64
   refine ⟨st.Nodes,st.Ended,6,?_,?_,by omega,by omega⟩
   · unfold gZ
     rw [hq1,bnoS]
     cases hq2 with
     | yes A y C hN he _ _=>exact absurd he (hno y (by rw [hN]; simp))
     | no p _ _ _=>rfl
   · unfold iI
     rw [hpl,bnoS,bndD]; rfl
theorem aCB (h:GV st) {id:Int} (h64:I64 id):∃ M F e,(bno (dA ⟨st.Room,st.Keep,st.Nodes,st.Ended⟩ id) fun x16 =>
        bif (!x16.2) then some (st,(6:Int)) else (
         bno (fN st.Room st.Keep id st.Nodes st.Ended) fun x18 =>
         some ((⟨x18.1,x18.2.1,x18.2.2.1,x18.2.2.2⟩:Fs),0)))=some (⟨st.Room,st.Keep,M,F⟩,e) ∧ jM (tre st) id=some (⟨st.Room,st.Keep,M,F⟩,e) ∧ M.length ≤ 100 ∧ F.length ≤ 100:=by
 have hel:(st.Ended.length:Int) ≤ 24:=h.fv.el
 have hln:st.Nodes.length ≤ 24:=h.fv.ln
 obtain ⟨q,hq1,hq2⟩:=wI (R:=st.Room) (K:=st.Keep) (E:=st.Ended) h.ok h64
 obtain ⟨i,hi,hp⟩:=vN (t:=tre st) (by show st.Nodes.length ≤ 1000; omega) id
 unfold jM
 rw [hq1,bnoS,hi,bnoS,bndD]
 by_cases hx:∃ n ∈ st.Nodes,n.ID=id
 · have hq:q.2=true:=by
    cases hq2 with
    | yes A y C _ _ _ _=>rfl
    | no p _ hno _=>obtain ⟨n,hn,e⟩:=hx; exact absurd e (hno n hn)
   have hi0:¬ i < 0:=by
    cases hp with
    | yes A y C _ _ _=>omega
    | no hno=>obtain ⟨n,hn,e⟩:=hx; exact absurd e (hno n hn)
   obtain ⟨M,F,o1,o2,o3,_⟩:=aCU h h.fv (id:=id) hx
   have o5:M.length ≤ 24:=o3.ln
   have o6:(F.length:Int) ≤ 24:=o3.el
   have o2:dJ (tre st) id=some ⟨st.Room,st.Keep,M,F⟩:=o2
   rw [hq,Bool.not_true,bD,o1,bnoS,decide_eq_false hi0,bD,o2,bnoS]
   exact ⟨_,_,_,rfl,rfl,by show M.length ≤ 100; omega,by show F.length ≤ 100; omega⟩
 · have hq:q.2=false:=by
    cases hq2 with
    | yes A y C hN e _ _=>exact absurd ⟨y,by rw [hN]; simp,e⟩ hx
    | no p _ hno _=>rfl
   have hi0:i < 0:=by
    cases hp with
    | yes A y C hN e _=>exact absurd ⟨y,by have hN:st.Nodes=_:=hN; rw [hN]; simp,e⟩ hx
    | no hno=>decide
   rw [hq,Bool.not_false,bM,decide_eq_true hi0,bM]
   exact ⟨st.Nodes,st.Ended,6,rfl,rfl,by omega,by omega⟩
end
theorem rneq34 {l m:List Nd} (hl:l.length ≤ 1000000):jB l m=some (decide (l=m)):=by
 have heq:∀ x y:Nd,(decide (x.ID=y.ID) && (decide (x.Parent=y.Parent) && (decide (x.Weight=y.Weight) && ((x.Closed == y.Closed) && true))))=decide (x=y):=fun x y=>by
  obtain ⟨a,b,c,d⟩:=x; obtain ⟨e,f,g,i⟩:=y; rw [Bool.eq_iff_iff]; simp
 have:=aAR (L:=eJ l m) (m:=m) (z:=true) hl (fun p x r s y t f h k e=>by
  rw [eJ]
  simp only [bndD,nJ h,bM,fS h,show gix m (p.length:Int)=some y by rw [e]; exact fS k,bnoS,heq,w_at h hl]) (fun _ f=>by
  rw [eJ]
  simp only [bndD,lY,bD])
 rw [Bool.and_true] at this
 exact this
theorem rieq34 {l m:List Int} (hl:l.length ≤ 1000000):gM l m=some (decide (l=m)):=by
 have:=aAR (L:=eP l m) (m:=m) (z:=true) hl (fun p x r s y t f h k e=>by
  rw [eP]
  simp only [bndD,nJ h,bM,fS h,show gix m (p.length:Int)=some y by rw [e]; exact fS k,bnoS,w_at h hl]) (fun _ f=>by
  rw [eP]
  simp only [bndD,lY,bD])
 rw [Bool.and_true] at this
 exact this
end Go.Fn
open Go Go.IL
namespace Go.Fn
def gv (v:List Int) (i:Int):Int:=v.getD i.toNat 0
structure Sw (v:List Int) (i j:Int) (w:List Int):Prop where
 len:w.length=v.length
 at_i:gv w i=gv v j
 at_j:gv w j=gv v i
 at_o:∀ k,0 ≤ k → k ≠ i → k ≠ j → gv w k=gv v k
 pm:w.Perm v
section
variable {α:Type} {Q:α → Prop} {l:List Int}
end
structure Pr (a b:Int) (v w:List Int):Prop where
 pm:w.Perm v
 out:∀ k,0 ≤ k → k < a ∨ b ≤ k → gv w k=gv v k
 inn:∀ k,a ≤ k → k < b → ∃ j,a ≤ j ∧ j < b ∧ gv w k=gv v j
def Sd (a b:Int) (v:List Int):Prop:=∀ p q,a ≤ p → p < q → q < b → gv v p ≤ gv v q
section
variable {a b:Int} {u v w:List Int}
theorem Pr.len (h:Pr a b v w):w.length=v.length:=h.pm.length_eq
end
section
variable {n:Nat}
end
end Go.Fn
open Go Go.IL
namespace Go.Fn
structure PaQ (a b:Int) (v0:List Int) (r:Int × Bool × List Int):Prop where
 lo:a ≤ r.1
 hi:r.1 < b
 pr:Pr a b v0 r.2.2
 le:∀ k,a ≤ k → k < r.1 → gv r.2.2 k ≤ gv r.2.2 r.1
 ge:∀ k,r.1 < k → k < b → gv r.2.2 r.1 ≤ gv r.2.2 k
section
variable {n:Nat} {a b:Int} {v0:List Int}
end
end Go.Fn
open Go Go.IL
namespace Go.Fn
section
variable {n:Nat}
end
end Go.Fn
open Go Go.IL
namespace Go.Fn
section
variable {n:Nat}
end
def Bd (a b:Int) (v:List Int):Prop:=∀ q,0 < a → a ≤ q → q < b → gv v (a - 1) ≤ gv v q
structure SS (n:Nat) (a b:Int) (v:List Int):Prop where
 len:v.length=n
 nd:v.Nodup
 bd:Bd a b v
def Qs (a b:Int) (v w:List Int):Prop:=Pr a b v w ∧ Sd a b w
section
variable {n:Nat} {rec0:Int → Int → Int → List Int → Option (List Int)} {kk:List Int → Int → Int → Int → Bool → Bool → Option (List Int)} {a b lim:Int} {c d:Bool}
end
section
variable {n:Nat} {rec0:Int → Int → Int → List Int → Option (List Int)}
end
end Go.Fn
open Go Go.IL
namespace Go.Fn
end Go.Fn
open Go Go.IL
namespace Go.Fn
section
variable {st:Fs}
end
end Go.Fn
open Go Go.IL
namespace Go.Fn
section
variable {N:List Nd} {R K:Int} {E:List Int}
theorem aAq {x:Int} {w:Ws} (h0:∀ n ∈ N,n.ID ≠ 0) {y:Nd} (hy:y ∈ N) (hyx:y.ID=x) (hso:N.Pairwise (fun a b=>a.ID < b.ID)) {r:Int → Nat} (hr:∀ n ∈ N,n.Parent ≠ 0 → r n.Parent < r n.ID) (hpa:∀ n ∈ N,n.Parent=0 ∨ ∃ m ∈ N,m.ID=n.Parent) :
 mV N x w=aAK N x (mR N w).dep (mR N w).weight (mR N w).only (decide (x ∈ fO N (N.length + 1) (mR N w).dep)) y.Parent:=by
 have hpar:oI N x=some y.Parent:=by rw [← hyx]; exact vO hso hy
 unfold mV upN aAK
 by_cases hd:(mR N w).dep=0
 · rw [if_neg (fun hh=>hh.1 hd),hd,aCN h0,decide_eq_false (by intro h; cases h),bD]
 · have hex:∃ n ∈ N,n.ID=(mR N w).dep:=by
    refine Classical.byContradiction fun hn=>?_
    unfold mR at hd hn
    by_cases hc:w.dep ≠ 0 ∧ ∀ m ∈ N,m.ID ≠ w.dep
    · rw [if_pos hc] at hd; exact hd rfl
    · rw [if_neg hc] at hd hn
      exact hc ⟨hd,fun m hm e=>hn ⟨m,hm,e⟩⟩
   have hp:=sL hso hr hpa hex 1
   rw [hp]
   by_cases hx:x ∈ fO N N.length (mR N w).dep
   · rw [if_pos ⟨hd,hx⟩,decide_eq_true hx,bM,hpar]; rfl
   · rw [if_neg (fun hh=>hx hh.2),decide_eq_false hx,bD]
theorem wY (w:Ws):(w.dep=0 ∨ ∃ n ∈ N,n.ID=w.dep) ∧ (mR N w).dep=w.dep ∧ (mR N w).weight=w.weight ∧ (mR N w).only=w.only ∨ (w.dep ≠ 0 ∧ ∀ n ∈ N,n.ID ≠ w.dep) ∧ (mR N w).dep=0 ∧ (mR N w).weight=16 ∧ (mR N w).only=false:=by
 unfold mR
 by_cases h:w.dep ≠ 0 ∧ ∀ m ∈ N,m.ID ≠ w.dep
 · rw [if_pos h]; exact .inr ⟨h,rfl,rfl,rfl⟩
 · rw [if_neg h]
   refine .inl ⟨?_,rfl,rfl,rfl⟩
   by_cases h0:w.dep=0
   · exact .inl h0
   · exact .inr (Classical.byContradiction fun hn=>h ⟨h0,fun m hm e=>hn ⟨m,hm,e⟩⟩)
theorem rput {a b:Int} (h:FV a ⟨24,b,N,E⟩) {x:Int} (hx:∃ n ∈ N,n.ID=x) (w:Ws):dY ⟨R,K,N,E⟩ x w.dep w.weight w.only=some ⟨R,K,mV N x w,E⟩:=by
 have hok:Ok34 N:=h.ok
 have hn0:∀ n ∈ N,n.ID ≠ 0:=fun n hn=>by have:=hok.ra n hn; omega
 obtain ⟨y,hy,hyx⟩:=hx
 obtain ⟨A,C,hN⟩:=List.append_of_mem hy
 obtain ⟨r,hrk⟩:∃ r:Int → Nat,∀ n ∈ N,n.Parent ≠ 0 → r n.Parent < r n.ID:=h.rk
 have:=aDP (R:=R) (K:=K) (E:=E) h.so hok.ln hn0 hN hyx (wY (N:=N) w)
 rw [this,← aAq hn0 hy hyx h.so hrk h.pa]
theorem aDk {A C:List Nd} {x q d w:Int} {o:Bool}:(A ++ (⟨x,q,16,false⟩:Nd) :: C).map (iJ x d w o)=(A ++ (⟨x,0,16,false⟩:Nd) :: C).map (iJ x d w o):=by
 rw [List.map_append,List.map_append,List.map_cons,List.map_cons]
 congr 2
 unfold iJ
 rw [if_pos rfl,if_pos rfl]
theorem rins {a b:Int} (h:FV a ⟨24,b,N,E⟩) {x:Int} (hid:1 ≤ x ∧ x ≤ 1048576) (hno:∀ n ∈ N,n.ID ≠ x) {w:Ws} (hne:w.dep ≠ x) (hd:0 ≤ w.dep):dT x w.dep w.weight w.only R K N E=some (⟨R,K,mV (newS N x) x w,E⟩,0):=by
 have hok:Ok34 N:=h.ok
 have hso:N.Pairwise (fun a b=>a.ID < b.ID):=h.so
 have hln:N.length ≤ 24:=h.ln
 have hsp:=sS hso hno
 have hnew:newS N x=lowN N x ++ (⟨x,0,16,false⟩:Nd) :: aAL N x:=rfl
 have hA:∀ a ∈ lowN N x,a.ID < x:=fun a ha=>of_decide_eq_true (List.mem_filter.1 ha).2
 have hC:∀ c ∈ aAL N x,x < c.ID:=fun c hc=>of_decide_eq_true (List.mem_filter.1 hc).2
 have hmA:∀ a ∈ lowN N x,a ∈ N:=fun a ha=>(List.mem_filter.1 ha).1
 have hmC:∀ c ∈ aAL N x,c ∈ N:=fun c hc=>(List.mem_filter.1 hc).1
 generalize hAe:lowN N x=A at *
 generalize hCe:aAL N x=C at *
 have hlen:A.length + C.length=N.length:=by rw [hsp,List.length_append]
 have hsoq:∀ q:Int,(A ++ (⟨x,q,16,false⟩:Nd) :: C).Pairwise (fun a b=>a.ID < b.ID):=fun q=>by
  rw [hsp] at hso
  obtain ⟨s1,s2,s3⟩:=List.pairwise_append.1 hso
  refine List.pairwise_append.2 ⟨s1,List.pairwise_cons.2 ⟨fun c hc=>hC c hc,s2⟩,fun a ha c hc=>?_⟩
  rcases List.mem_cons.1 hc with rfl | hc
  · exact hA a ha
  · exact s3 a ha c hc
 have hmq:∀ (q:Int) n,n ∈ A ++ (⟨x,q,16,false⟩:Nd) :: C → n=⟨x,q,16,false⟩ ∨ n ∈ N:=fun q n hn=>by
  rcases List.mem_append.1 hn with hn | hn
  · exact .inr (hmA n hn)
  · rcases List.mem_cons.1 hn with rfl | hn
    · exact .inl rfl
    · exact .inr (hmC n hn)
 have hr:=aCA (R:=R) (K:=K) (E:=E) (x:=x) (dep:=w.dep) (w:=w.weight) (o:=w.only) hsp (by omega) hA hC A [] fuel rfl (eU (by omega))
 have hlq:(A ++ (⟨x,-1,16,false⟩:Nd) :: C).length ≤ 1000:=by rw [List.length_append,List.length_cons]; omega
 have h0q:∀ n ∈ A ++ (⟨x,-1,16,false⟩:Nd) :: C,n.ID ≠ 0:=fun n hn=>by
  rcases hmq _ n hn with rfl | hn
  · show x ≠ 0; omega
  · have:=hok.ra n hn; omega
 have hws:mR (A ++ (⟨x,-1,16,false⟩:Nd) :: C) w=mR (newS N x) w:=by
  rw [hnew]
  unfold mR
  have:(w.dep ≠ 0 ∧ ∀ m ∈ A ++ (⟨x,-1,16,false⟩:Nd) :: C,m.ID ≠ w.dep) ↔ (w.dep ≠ 0 ∧ ∀ m ∈ A ++ (⟨x,0,16,false⟩:Nd) :: C,m.ID ≠ w.dep):=by
   simp only [List.mem_append,List.mem_cons]
   constructor
   · rintro ⟨g1,g2⟩
     refine ⟨g1,fun m hm=>?_⟩
     rcases hm with hm | rfl | hm
     · exact g2 m (.inl hm)
     · exact fun e=>hne e.symm
     · exact g2 m (.inr (.inr hm))
   · rintro ⟨g1,g2⟩
     refine ⟨g1,fun m hm=>?_⟩
     rcases hm with hm | rfl | hm
     · exact g2 m (.inl hm)
     · exact fun e=>hne e.symm
     · exact g2 m (.inr (.inr hm))
  by_cases hc:w.dep ≠ 0 ∧ ∀ m ∈ A ++ (⟨x,-1,16,false⟩:Nd) :: C,m.ID ≠ w.dep
  · rw [if_pos hc,if_pos (this.1 hc)]
  · rw [if_neg hc,if_neg (fun hh=>hc (this.2 hh))]
 have hdx:(mR (newS N x) w).dep ≠ x:=by
  unfold mR
  split
  · show (0:Int) ≠ x; omega
  · exact hne
 have hnp:∀ q:Int,q ≠ x → ∀ n ∈ A ++ (⟨x,q,16,false⟩:Nd) :: C,n.ID ≠ x → n.Parent ≠ x:=fun q hq n hn hx=>by
  rcases hmq q n hn with rfl | hn
  · exact absurd rfl hx
  · rcases h.pa n hn with e | ⟨m,hm,e⟩
    · rw [e]; omega
    · rw [← e]; exact hno m hm
 have hput:=aDP (R:=R) (K:=K) (E:=E) (hsoq (-1)) hlq h0q (A:=A) (C:=C) (y:=⟨x,-1,16,false⟩) rfl rfl (wY (N:=A ++ (⟨x,-1,16,false⟩:Nd) :: C) w)
 rw [hws,decide_eq_false (yJ (hnp (-1) (by omega)) _ _ hdx)] at hput
 have hg:mV (newS N x) x w=(newS N x).map (iJ x (mR (newS N x) w).dep (mR (newS N x) w).weight (mR (newS N x) w).only):=by
  unfold mV upN
  rw [if_neg]
  rintro ⟨_,hh⟩
  rw [hnew] at hh hdx
  exact yJ (hnp 0 (by omega)) _ _ hdx hh
 unfold dT
 refine hr.trans ?_
 rw [List.append_assoc]
 show bno (dY ⟨R,K,A ++ (⟨x,-1,16,false⟩:Nd) :: C,E⟩ x w.dep w.weight w.only) _=_
 rw [hput,bnoS,hg]
 unfold aAK
 rw [bD,aDk,← hnew]
theorem vA (id:Int) (w:Ws):tG id w.dep w.weight=sE id w:=by
 unfold tG sE
 by_cases h:fitW id w
 · obtain ⟨h1,h2,h3⟩:=h
   have hf:fitW id w:=⟨h1,h2,h3⟩
   rw [decide_eq_false (show ¬ id < 1 by omega),decide_eq_false (show ¬ 1048576 < id by omega),decide_eq_false (show ¬ w.dep < 0 by omega),decide_eq_false (show ¬ 1048576 < w.dep by omega),decide_eq_false (show ¬ w.weight < 1 by omega),decide_eq_false (show ¬ 256 < w.weight by omega)]
   simp only [Bool.or_self,Bool.false_eq_true,if_false,if_pos hf]
 · simp only [if_neg h]
   rw [if_pos]
   by_cases c1:id < 1 <;> by_cases c2:1048576 < id <;> by_cases c3:w.dep < 0 <;> by_cases c4:1048576 < w.dep <;> by_cases c5:w.weight < 1 <;> by_cases c6:256 < w.weight <;> simp [c1,c2,c3,c4,c5,c6]
   exact h ⟨⟨by omega,by omega⟩,⟨by omega,by omega⟩,⟨by omega,by omega⟩⟩
theorem roff {a b:Int} (h:FV a ⟨24,b,N,E⟩) {id:Int} (hid:∃ n ∈ N,n.ID=id):dJ ⟨R,K,N,E⟩ id=some ⟨R,K,offT N id,E.filter fun y=>!decide (y=id)⟩:=by
 obtain ⟨y,hy,rfl⟩:=hid
 obtain ⟨A,C,hN⟩:=List.append_of_mem hy
 have hln:N.length ≤ 24:=h.ln
 have hel:(E.length:Int) ≤ a:=h.el
 have ha:a ≤ 24:=h.kp.2.2
 obtain ⟨r,hrk⟩:∃ r:Int → Nat,∀ n ∈ N,n.Parent ≠ 0 → r n.Parent < r n.ID:=h.rk
 have hne:y.Parent ≠ y.ID:=fun e=>by
  have h1:=(h.ra y hy).1
  have:=hrk y hy (by omega)
  rw [e] at this; omega
 have hso:N.Pairwise (fun a b=>a.ID < b.ID):=h.so
 rw [aD1 (R:=R) (K:=K) (E:=E) hso (by omega) (by omega) (fun n hn=>(h.ra n hn).2) hN hne,aCV hso hN rfl]
theorem vM {a b:Int} (h:FV a ⟨24,b,N,E⟩) (id:Int):∃ i,bR ⟨R,K,N,E⟩ id=some i ∧ (hasN N id → 0 ≤ i) ∧ (¬ hasN N id → i = -1):=by
 have hln:N.length ≤ 24:=h.ln
 obtain ⟨i,hi,hp⟩:=vN (t:=⟨R,K,N,E⟩) (by show N.length ≤ 1000; omega) id
 refine ⟨i,hi,?_⟩
 have hp:Pl N id i:=hp
 cases hp with
 | yes A y C hN e _=>exact ⟨fun _=>by omega,fun hn=>absurd ⟨y,by rw [hN]; simp,e⟩ hn⟩
 | no hno=>exact ⟨fun ⟨m,hm,e⟩=>absurd e (hno m hm),fun _=>rfl⟩
theorem aDD {a b:Int} (h:FV a ⟨24,b,N,E⟩) (id:Int) (w:Ws):dM ⟨R,K,N,E⟩ id w.dep w.weight w.only=some (⟨R,K,(pN R N E id w).2.1,(pN R N E id w).2.2⟩,(pN R N E id w).1):=by
 obtain ⟨i,hi,hi1,hi2⟩:=vM (R:=R) (K:=K) h id
 unfold dM pN
 by_cases hc:sE id w=0
 · obtain ⟨w1,w2,w3,w4⟩:=sD hc
   rw [if_pos hc]
   simp only [pL,vA,hc,bnoS,hi,bndD,decide_true,Bool.not_true,bD]
   by_cases hx:hasN N id
   · rw [if_pos hx,decide_eq_true (hi1 hx),bM]
   · have hno:∀ m ∈ N,m.ID ≠ id:=fun m hm e=>hx ⟨m,hm,e⟩
     rw [if_neg hx,hi2 hx,show decide (0 ≤ (-1:Int))=false from rfl,bD]
     unfold insS
     by_cases hlt:(N.length:Int) < R
     · rw [if_pos hlt,decide_eq_false (show ¬ R ≤ (N.length:Int) by omega),Bool.false_and,bD,bD]
       exact rins h w1 hno w2 w3
     · rw [if_neg hlt,decide_eq_true (show R ≤ (N.length:Int) by omega),Bool.true_and,bM]
       cases E with
       | nil=>rfl
       | cons z F =>
         have hz:decide (((z :: F).length:Int)=0)=false:=decide_eq_false (by simp only [List.length_cons]; omega)
         have hg:gix (z :: F) 0=some z:=rfl
         have hzN:∃ n ∈ N,n.ID=z:=h.es z (by show z ∈ z :: F; simp)
         obtain ⟨y,hy,hyz⟩:=hzN
         obtain ⟨A,C,hN⟩:=List.append_of_mem hy
         have hoff:=aCy h hN
         have hT:offS A y C=offT N z:=aCV h.so hN hyz
         rw [hT,hyz] at hoff
         rw [hz,bD,hg,bnoS,roff h ⟨y,hy,hyz⟩,bnoS]
         refine rins hoff w1 (fun m hm e=>?_) w2 w3
         rw [← hT] at hm
         obtain ⟨n,hn,rfl⟩:=List.mem_map.1 hm
         rw [qF] at e
         refine hno n ?_ e
         rw [hN]
         rcases List.mem_append.1 hn with hn | hn
         · exact List.mem_append.2 (.inl hn)
         · exact List.mem_append.2 (.inr (List.mem_cons_of_mem _ hn))
 · rw [if_neg hc]
   simp only [pL,vA,bnoS,bndD,decide_eq_false hc,Bool.not_false,bM]
theorem MoveR {a b:Int} (h:FV a ⟨24,b,N,E⟩) (id:Int) (w:Ws):gA ⟨R,K,N,E⟩ id w.dep w.weight w.only=some (⟨R,K,(zH R N E id w).2.1,(zH R N E id w).2.2⟩,(zH R N E id w).1):=by
 obtain ⟨i,hi,hi1,hi2⟩:=vM (R:=R) (K:=K) h id
 have hI:=aDD (R:=R) (K:=K) h id w
 unfold gA zH
 by_cases hc:sE id w=0
 · rw [if_pos hc]
   simp only [pL,vA,hc,bnoS,hi,bndD,decide_true,Bool.not_true,bD]
   by_cases hx:hasN N id
   · rw [if_pos hx,decide_eq_false (show ¬ i < 0 by have:=hi1 hx; omega),bD,rput h hx,bnoS]
   · rw [if_neg hx,hi2 hx,show decide ((-1:Int) < 0)=true from rfl,bM,hI]
     unfold pN
     rw [if_pos hc,if_neg hx,bnoS]
 · rw [if_neg hc]
   simp only [pL,vA,bnoS,bndD,decide_eq_false hc,Bool.not_false,bM]
theorem RemoveR {a b:Int} (h:FV a ⟨24,b,N,E⟩) (id:Int):jM ⟨R,K,N,E⟩ id=some (⟨R,K,(qM N E id).2.1,(qM N E id).2.2⟩,(qM N E id).1):=by
 obtain ⟨i,hi,hi1,hi2⟩:=vM (R:=R) (K:=K) h id
 unfold jM qM
 rw [hi,bnoS,bndD]
 by_cases hx:hasN N id
 · rw [if_pos hx,decide_eq_false (show ¬ i < 0 by have:=hi1 hx; omega),bD,roff h hx,bnoS]
 · rw [if_neg hx,hi2 hx,show decide ((-1:Int) < 0)=true from rfl,bM]
end
end Go.Fn
open Go Go.IL
namespace Go.Fn
section
variable {N:List Nd} {R K:Int} {E:List Int}
theorem CloseR {a b:Int} (h:FV a ⟨24,b,N,E⟩) (id:Int):iI ⟨R,K,N,E⟩ id=some (⟨R,K,(tI K N E id).2.1,(tI K N E id).2.2⟩,(tI K N E id).1):=by
 have hln:N.length ≤ 24:=h.ln
 have hel:(E.length:Int) ≤ a:=h.el
 have ha:a ≤ 24:=h.kp.2.2
 have hb:b=a:=h.kp.1
 subst hb
 have hso:N.Pairwise (fun a b=>a.ID < b.ID):=h.so
 unfold iI tI
 by_cases hx:hasN N id
 · obtain ⟨y,hy,rfl⟩:=hx
   obtain ⟨A,C,hN⟩:=List.append_of_mem hy
   have hs2:=hso
   rw [hN] at hs2
   obtain ⟨hA,hC⟩:=qL hs2
   have hpl:=xG (t:=⟨R,K,N,E⟩) (by show N.length ≤ 1000; omega) hN rfl hA
   have hwi:=aBn (t:=⟨R,K,N,E⟩) (by show N.length ≤ 1000; omega) hN (z:=⟨y.ID,y.Parent,y.Weight,true⟩) rfl hA
   have hg:gix N (A.length:Int)=some y:=fS hN
   have hmap:=aD7 hs2
   rw [← hN] at hmap
   have hsh:aB1 N y.ID ↔ y.Closed=true:=by
    constructor
    · rintro ⟨m,hm,e1,e2⟩
      rw [← nZ hso hm hy e1]; exact e2
    · exact fun hc=>⟨y,hy,rfl,hc⟩
   rw [if_pos ⟨y,hy,rfl⟩,hpl,bnoS,bndD,decide_eq_false (show ¬ (A.length:Int) < 0 by omega),bD,hg,bnoS]
   by_cases hc:y.Closed=true
   · rw [hc,bM,if_pos (hsh.2 hc)]
   · have hcf:y.Closed=false:=Bool.not_eq_true _ |>.mp hc
     rw [hcf,bD,if_neg (fun hh=>hc (hsh.1 hh)),hwi,bnoS]
     show bno (app 8 ([]:List Int) E) (fun x7=>bno (app 8 x7 [y.ID]) fun x8=>bnd (decide (K < (x8.length:Int))) fun x9=>bif x9 then (bno (gix x8 0) fun x11=>bno (dJ (⟨R,K,A ++ (⟨y.ID,y.Parent,y.Weight,true⟩:Nd) :: C,x8⟩:aW) x11) fun x12=>some (x12,(0:Int))) else some ((⟨R,K,A ++ (⟨y.ID,y.Parent,y.Weight,true⟩:Nd) :: C,x8⟩:aW),0))=_
     rw [kX (l:=([]:List Int)) (by simp; omega) (by simp; omega),bnoS,List.nil_append,kX (by rw [List.length_singleton]; omega) (by rw [List.length_singleton]; omega),bnoS,bndD]
     show (bif decide (K < ((E ++ [y.ID]).length:Int)) then (bno (gix (E ++ [y.ID]) 0) fun x11=>bno (dJ (⟨R,K,A ++ (⟨y.ID,y.Parent,y.Weight,true⟩:Nd) :: C,E ++ [y.ID]⟩) x11) fun x12=>some (x12,(0:Int))) else some ((⟨R,K,A ++ (⟨y.ID,y.Parent,y.Weight,true⟩:Nd) :: C,E ++ [y.ID]⟩:aW),0))=_
     rw [← hmap]
     by_cases hk:K < ((E ++ [y.ID]).length:Int)
     · rw [decide_eq_true hk,bM,if_pos hk]
       obtain ⟨v1,v2⟩:=aAr (uY h (K':=24) (by omega) (by omega)) hy hcf
       have v1:FV 24 ⟨24,24,N.map (clN y.ID),E ++ [y.ID]⟩:=v1
       cases hE:E ++ [y.ID] with
       | nil=>simp at hE
       | cons z F =>
         rw [hE] at v1
         have hg0:gix (z :: F) 0=some z:=rfl
         rw [hg0,bnoS,roff v1 (v1.es z (by show z ∈ z :: F; simp)),bnoS]; rfl
     · rw [decide_eq_false hk,bD,if_neg hk]
 · have hno:∀ m ∈ N,m.ID ≠ id:=fun m hm e=>hx ⟨m,hm,e⟩
   rw [if_neg hx,aDQ (t:=⟨R,K,N,E⟩) (by show N.length ≤ 1000; omega) hno,bnoS,bndD,show decide ((-1:Int) < 0)=true from rfl,bM]
end
end Go.Fn
open Go Go.IL
namespace Go.Fn
section
variable {N:List Nd} {R K:Int} {E:List Int}
theorem aCP:∀ (r:List Nd) (x:Nd),(x :: r).Pairwise (fun a b=>a.ID < b.ID) → ordB x r=true
 | [],_,_=>rfl
 | n :: r,x,h=>by
   obtain ⟨h1,h2⟩:=List.pairwise_cons.1 h
   rw [aA6,aCP r n h2,decide_eq_true (h1 n (by simp))]; rfl
theorem aBE {st:Fs} (h:GV st):aBK st st.Nodes.length=0:=by
 have hrm:=h.rm
 have hkp:=h.kp
 have hln:=h.ln
 have hel:=h.el
 obtain ⟨rk,hrk⟩:=h.fv.rk
 have h1:vJ st=false:=by
  unfold vJ
  rw [decide_eq_false (show ¬ st.Room < 1 by omega),decide_eq_false (show ¬ 24 < st.Room by omega),decide_eq_false (show ¬ st.Keep < 0 by omega),decide_eq_false (show ¬ st.Room < st.Keep by omega)]; rfl
 have h2:st.Nodes.any tY=false:=List.any_eq_false.2 fun n hn=>by
  obtain ⟨⟨g1,g2⟩,g3,g4⟩:=h.fv.ra n hn
  unfold tY
  rw [decide_eq_false (show ¬ n.ID < 1 by omega),decide_eq_false (show ¬ 1048576 < n.ID by omega),decide_eq_false (show ¬ n.Weight < 1 by omega),decide_eq_false (show ¬ 256 < n.Weight by omega)]; decide
 have h3:ordN st.Nodes=true:=by
  have hs:st.Nodes.Pairwise (fun a b=>a.ID < b.ID):=h.fv.so
  cases hN:st.Nodes with
  | nil=>rfl
  | cons x r=>rw [hN] at hs; exact aCP r x hs
 have h4:st.Nodes.any (aAk st.Nodes)=false:=List.any_eq_false.2 fun n hn=>by
  unfold aAk
  rcases h.fv.pa n hn with e | e
  · rw [decide_eq_true e]; simp
  · rw [zF.2 e]; simp
 have h5:st.Nodes.any (xE st.Nodes st.Nodes.length)=false:=List.any_eq_false.2 fun n hn hm=>by
  unfold xE at hm
  have:=sK hrk _ _ _ (of_decide_eq_true hm)
  omega
 have h6:endB st.Nodes st.Ended=true:=by
  have hc:(st.Nodes.filter (·.Closed)).length=st.Ended.length:=xS (st:=⟨24,24,st.Nodes,st.Ended⟩) h.fv
  unfold endB
  rw [decide_eq_true hc,Bool.and_true]
  refine List.all_eq_true.2 fun n hn=>?_
  unfold aAT
  rw [beq_iff_eq,Bool.eq_iff_iff,decide_eq_true_iff]
  exact h.fv.en n hn
 unfold aBK aBP
 rw [h1,h2,h3,h4,h5,h6,decide_eq_false (show ¬ st.Room < (st.Nodes.length:Int) by omega),decide_eq_false (show ¬ st.Keep < (st.Ended.length:Int) by omega)]; rfl
theorem ts_gv {A:AS} {ns:List Nk} {first:Int} {cl:List Int} (h:TS A ns first cl R K N E) (h1:1 ≤ R) (h2:K ≤ R):GV ⟨R,K,N,E⟩:=by
 have hr:=h.rm
 have hk:0 ≤ K ∧ K ≤ 24:=h.fv.kp.2
 have hel:(E.length:Int) ≤ K:=h.fv.el
 exact ⟨⟨h1,hr⟩,⟨hk.1,h2⟩,h.ln,hel,uY h.fv (K':=24) (by omega) (by show (E.length:Int) ≤ 24; omega)⟩
def FoS (R K:Int) (N:List Nd) (E:List Int) (a:Fo):Int × List Nd × List Int :=
 if a.Kind=0 then pN R N E a.ID ⟨a.Dep,a.Weight,a.Only⟩ else if a.Kind=1 then zH R N E a.ID ⟨a.Dep,a.Weight,a.Only⟩ else if a.Kind=2 then tI K N E a.ID else qM N E a.ID
theorem foldS (h:GV ⟨R,K,N,E⟩) {op:Fo} (h64:I64 op.ID ∧ I64 op.Dep) (hk:0 ≤ op.Kind ∧ op.Kind ≤ 3) :
 tW ⟨R,K,N,E⟩ op=some (⟨R,K,(FoS R K N E op).2.1,(FoS R K N E op).2.2⟩,(FoS R K N E op).1):=by
 have hln:N.length ≤ 24:=h.fv.ln
 have hel:(E.length:Int) ≤ 24:=h.fv.el
 have hown:lU ⟨R,K,N,E⟩=some (R,K,N,E):=by
  unfold lU
  show (bno (dE N) fun x1=>bno (gS E) fun x2=>some (R,K,x1,x2))=_
  rw [nclone (by omega),bnoS,eclone (by omega),bnoS]
 have hcF:jR ⟨R,K,N,E⟩=some 0:=by
  rw [aED (st:=⟨R,K,N,E⟩) (by show N.length ≤ 1000; omega) (by show E.length ≤ 1000; omega) (fun n hn=>h.ok.pa n hn),aBE h]
 have i1:=aDD (R:=R) (K:=K) h.fv op.ID ⟨op.Dep,op.Weight,op.Only⟩
 have m1:=MoveR (R:=R) (K:=K) h.fv op.ID ⟨op.Dep,op.Weight,op.Only⟩
 have c1:=CloseR (R:=R) (K:=K) h.fv op.ID
 have r1:=RemoveR (R:=R) (K:=K) h.fv op.ID
 unfold tW FoS
 simp only [hown,hcF,bnoS,bndD,decide_true,Bool.not_true,bD]
 have hlate:op.Kind=0 ∨ op.Kind=1 ∨ op.Kind=2 ∨ op.Kind=3:=by omega
 rcases hlate with k | k | k | k
 · obtain ⟨M,F,e,q1,q2,_,_,_⟩:=aA3 h h64
   have q1:fF R K op N E=some (R,K,M,F,e):=q1
   have q2:_=some ((⟨R,K,M,F⟩:aW),e):=(i1.symm.trans (q2 k))
   injection q2 with q2
   injection q2 with q2 q3
   injection q2 with _ _ q4 q5
   rw [decide_eq_true k,bM,if_pos k,q3,q4,q5]
   unfold nG
   rw [bM]
   show bno (fF R K op N E) _=_
   rw [q1,bnoS]
 · obtain ⟨M,F,e,q1,_,q2,_,_⟩:=aA3 h h64
   have q1:fF R K op N E=some (R,K,M,F,e):=q1
   have q2:_=some ((⟨R,K,M,F⟩:aW),e):=(m1.symm.trans (q2 (by omega)))
   injection q2 with q2
   injection q2 with q2 q3
   injection q2 with _ _ q4 q5
   rw [decide_eq_false (show ¬ op.Kind=0 by omega),bD,decide_eq_true k,if_neg (show ¬ op.Kind=0 by omega),if_pos k,q3,q4,q5]
   unfold nG
   rw [bM]
   show bno (fF R K op N E) _=_
   rw [q1,bnoS]
 · obtain ⟨M,F,e,q1,q2,_,_⟩:=shut_eq h h64.1
   have q1:gZ R K op.ID N E=some (R,K,M,F,e):=q1
   have q2:_=some ((⟨R,K,M,F⟩:aW),e):=(c1.symm.trans q2)
   injection q2 with q2
   injection q2 with q2 q3
   injection q2 with _ _ q4 q5
   rw [decide_eq_false (show ¬ op.Kind=0 by omega),bD,decide_eq_false (show ¬ op.Kind=1 by omega),if_neg (show ¬ op.Kind=0 by omega),if_neg (show ¬ op.Kind=1 by omega),if_pos k,q3,q4,q5]
   unfold nG
   rw [bD,bndD,decide_eq_true k,bM]
   show bno (gZ R K op.ID N E) _=_
   rw [q1,bnoS]
 · obtain ⟨M,F,e,q1,q2,_,_⟩:=aCB h h64.1
   have q2:_=some ((⟨R,K,M,F⟩:aW),e):=(r1.symm.trans q2)
   injection q2 with q2
   injection q2 with q2 q3
   injection q2 with _ _ q4 q5
   rw [decide_eq_false (show ¬ op.Kind=0 by omega),bD,decide_eq_false (show ¬ op.Kind=1 by omega),if_neg (show ¬ op.Kind=0 by omega),if_neg (show ¬ op.Kind=1 by omega),if_neg (show ¬ op.Kind=2 by omega),q3,q4,q5]
   unfold nG
   rw [bD,bndD,decide_eq_false (show ¬ op.Kind=2 by omega),bD,bndD,decide_eq_true k,bM]
   exact q1
end
end Go.Fn
open Go Go.IL
namespace Go.Fn
theorem zY {l:List Nd} (hl:l.length ≤ 1000):∀ (r q:List Nd) (f:Nat),l=q ++ r → r.length < f → fQ l f q (q.length:Int)=some l
 | _,_,0,_,hf=>absurd hf (by omega)
 | [],q,f + 1,h,_=>by
   rw [List.append_nil] at h
   rw [fQ,bndD,h,decide_eq_false (by omega),bD]
 | n :: r,q,f + 1,h,hf=>by
   have hq:q.length ≤ 1000:=by rw [h] at hl; simp at hl; omega
   rw [fQ,bndD,nJ h,bM,fS h,bnoS,kX (by simp; omega) (by simp; omega),bnoS,w_at h (by omega),bndD]
   exact zY hl r (q ++ [n]) f (by rw [h]; simp) (by simpa using hf)
theorem aBM:jU=some true:=by kernel_rfl
theorem xY {A:AS} {ns:List Nk} {first:Int} {cl:List Int} {R K:Int} {N:List Nd} {E:List Int} (g:TS A ns first cl R K N E) (h1:1 ≤ R) (h2:K ≤ R) {k e:Int} (hk:0 ≤ k ∧ k ≤ 1000) (kk:Int → Int → Int → List aK → Int → Int → List aJ → Int → List Int → Int → Int → List Nd → List Int → Option Bool) :
 eQ k kk (⟨R,K,N,E⟩,e) e R K A.Cells A.Free A.Used ns first cl=kk (k + 1) R K A.Cells A.Free A.Used ns first cl R K N E:=by
 have hg:=ts_gv g h1 h2
 have hln:N.length ≤ 24:=g.fv.ln
 have hel:(E.length:Int) ≤ 24:=hg.fv.el
 have hcF:jR ⟨R,K,N,E⟩=some 0:=by
  rw [aED (st:=⟨R,K,N,E⟩) (by show N.length ≤ 1000; omega) (by show E.length ≤ 1000; omega) (fun n hn=>hg.ok.pa n hn),aBE hg]
 have hn:lK N=some N:=zY (by omega) N [] fuel rfl (eU (by omega))
 have hs1:jB N N=some true:=by rw [rneq34 (by omega),decide_eq_true rfl]
 have hs2:gM E E=some true:=by rw [rieq34 (by omega),decide_eq_true rfl]
 have hw:IntKind.wrap .i64 (k + 1)=k + 1:=w64 (by omega) (by omega)
 unfold eQ
 simp only [decide_true,Bool.not_true,bndD,beq_self_eq_true,gdtt,hcF,bnoS,Bool.or_self,hn,aDv g,hs1,aDF g,hs2,bD,hw]
theorem zK {l:List Fo} (hI:∀ a ∈ l,I64 a.ID ∧ I64 a.Dep) (hk:∀ a ∈ l,0 ≤ a.Kind) (hl:l.length ≤ 60) {R K:Int} (h1:1 ≤ R) (h2:K ≤ R):∀ (r q:List Fo) (f:Nat) {A:AS} {ns:List Nk} {first:Int} {cl:List Int} {N:List Nd} {E:List Int},TS A ns first cl R K N E → l=q ++ r → r.length < f →
 cS l f (q.length:Int) R K A.Cells A.Free A.Used ns first cl R K N E=some true
 | _,_,0,_,_,_,_,_,_,_,_,hf=>absurd hf (by omega)
 | [],q,f + 1,A,ns,first,cl,N,E,h,hN,_=>by
   rw [List.append_nil] at hN
   rw [cS,bndD,hN,decide_eq_false (show ¬ (q.length:Int) < (q.length:Int) by omega),bD,aBM]; rfl
 | d :: r,q,f + 1,A,ns,first,cl,N,E,h,hN,hf=>by
   have hd:=hI d (by rw [hN]; simp)
   have hd0:=hk d (by rw [hN]; simp)
   have hq:q.length ≤ 60:=by rw [hN] at hl; simp at hl; omega
   have hr:remI d.Kind 4=some (d.Kind % 4):=aCC hd0 (by decide)
   have hm:0 ≤ d.Kind % 4 ∧ d.Kind % 4 ≤ 3:=by omega
   generalize hkk:d.Kind % 4=k at *
   have hF:=foldS (ts_gv h h1 h2) (op:=⟨k,d.ID,d.Dep,d.Weight,d.Only⟩) hd hm
   have e1:(q.length:Int) + 1=((q ++ [d]).length:Int):=by simp
   obtain ⟨A1,ns1,f1,cl1,i1,i2⟩:=aDC h d.ID d.Dep d.Weight d.Only
   obtain ⟨A2,ns2,f2,cl2,m1,m2⟩:=Move_ts h d.ID d.Dep d.Weight d.Only
   obtain ⟨A3,ns3,f3,cl3,c1,c2⟩:=aDw h d.ID
   obtain ⟨A4,ns4,f4,cl4,r1,r2⟩:=aDB h d.ID
   have hrec:=fun {A:AS} {ns:List Nk} {first:Int} {cl:List Int} {N:List Nd} {E:List Int} (g:TS A ns first cl R K N E)=>zK hI hk hl h1 h2 r (q ++ [d]) f g (by rw [hN]; simp) (by simpa using hf)
   rw [cS,bndD,nJ hN,bM,fS hN,bnoS,hr,bnoS,hF,bnoS,bndD]
   unfold FoS
   rcases (show k=0 ∨ k=1 ∨ k=2 ∨ k=3 by omega) with e | e | e | e
   · subst e
     rw [if_pos rfl,decide_eq_true rfl,bM,i1,bnoS]
     refine (xY i2 h1 h2 (by omega) _).trans ?_
     rw [e1]; exact hrec i2
   · subst e
     rw [if_neg (show ¬ (1:Int)=0 by decide),if_pos rfl,decide_eq_false (by decide),bD,bndD,decide_eq_true rfl,bM,m1,bnoS]
     refine (xY m2 h1 h2 (by omega) _).trans ?_
     rw [e1]; exact hrec m2
   · subst e
     rw [if_neg (show ¬ (2:Int)=0 by decide),if_neg (show ¬ (2:Int)=1 by decide),if_pos rfl,decide_eq_false (by decide),bD,bndD,decide_eq_false (by decide),bD,bndD,decide_eq_true rfl,bM,c1,bnoS]
     refine (xY c2 h1 h2 (by omega) _).trans ?_
     rw [e1]; exact hrec c2
   · subst e
     rw [if_neg (show ¬ (3:Int)=0 by decide),if_neg (show ¬ (3:Int)=1 by decide),if_neg (show ¬ (3:Int)=2 by decide),decide_eq_false (by decide),bD,bndD,decide_eq_false (by decide),bD,bndD,decide_eq_false (by decide),bD,r1,bnoS]
     refine (xY r2 h1 h2 (by omega) _).trans ?_
     rw [e1]; exact hrec r2
theorem aDn {n:pY} {l:List Fo} (hn:(0 ≤ n.c0 ∧ n.c0 ≤ 255) ∧ 0 ≤ n.c1 ∧ n.c1 ≤ 255) (hI:∀ a ∈ l,I64 a.ID ∧ I64 a.Dep) (hk:∀ a ∈ l,0 ≤ a.Kind):jH n l=some true:=by
 unfold jH
 rw [bndD]
 by_cases h:60 < l.length
 · rw [decide_eq_true (show 60 < (l.length:Int) by omega),bM,aBM]; rfl
 · have hr:remI n.c0 24=some (n.c0 % 24):=aCC hn.1.1 (by decide)
   have hm:0 ≤ n.c0 % 24 ∧ n.c0 % 24 ≤ 23:=by omega
   generalize n.c0 % 24=a at *
   have w1:IntKind.wrap .i64 a=a:=w64 (by omega) (by omega)
   have w2:IntKind.wrap .i64 (1 + a)=1 + a:=w64 (by omega) (by omega)
   have w3:IntKind.wrap .i64 n.c1=n.c1:=w64 (by omega) (by omega)
   have w4:IntKind.wrap .i64 (1 + a + 1)=1 + a + 1:=w64 (by omega) (by omega)
   have hq:remI n.c1 (1 + a + 1)=some (n.c1 % (1 + a + 1)):=aCC hn.2.1 (by omega)
   have b1:=Int.emod_nonneg n.c1 (show 1 + a + 1 ≠ 0 by omega)
   have b2:=Int.emod_lt_of_pos n.c1 (show 0 < 1 + a + 1 by omega)
   generalize n.c1 % (1 + a + 1)=c at *
   rw [decide_eq_false (show ¬ 60 < (l.length:Int) by omega),bD,hr,bnoS,bndD,w1,bndD,w2,bndD,w3,bndD,w4,hq,bnoS,aCq,bnoS,decide_eq_true (show 1 ≤ 1 + a ∧ 1 + a ≤ 24 by omega),show ((!true) == false)=true from rfl,gdtt,aCq,bnoS,decide_eq_true (show 0 ≤ c ∧ c ≤ 1 + a by omega),bndD,show ((!true) || !true)=false from rfl,bD]
   exact zK hI hk (by omega) (by omega) (by omega) l [] fuel (new_ts (R:=1 + a) (K:=c) (by omega) (by omega)) rfl (eU (by omega))
end Go.Fn
open Go.RowKit Go.WideShapes Go.ChangeShapes
namespace Go.IL

def vC (v:Value):Prop:=∀ a n c,v = .slice (some a) n c → a.spot=none
theorem zN {P:Program} {w:World} {r:Reach} {b:Nat} {t:TypeId} {v:Value} (h:Cell.okWide P w r b t v):vC v:=by
 intro a n c e
 subst e
 have h2:Cell.ok P w r b t (.slice (some a) n c):=by
  unfold Cell.okWide at h
  split at h <;> first | exact h | (rename_i h3 _; cases h3) | (rename_i h3; cases h3) | skip
  all_goals first | exact h | simp_all
 unfold Cell.ok at h2
 split at h2 <;> simp_all [World.has]
theorem aDL {P:Program} {w:World} {r:Reach} {b:Nat} {t:TypeId} {v:Value} (h:Value.okWide P w r b t v):∀ u ∈ v.cells.toList,vC u:=by
 have agg:∀ cs:Array Value,Row.okWide P w r b t cs → ∀ u ∈ cs.toList,vC u:=by
  intro cs ⟨ts,_,_,h3⟩ u hu
  obtain ⟨i,hi⟩:=List.getElem?_of_mem hu
  obtain ⟨q,_,hq⟩:=h3 i u (by simpa using hi)
  exact zN hq
 unfold Value.okWide at h
 split at h
 · obtain ⟨cs,rfl,_,h⟩:=h; simpa [Value.cells] using agg cs h
 · obtain ⟨cs,rfl,_,h⟩:=h; simpa [Value.cells] using agg cs h
 · have h2:=zN h
   intro u hu
   cases v with
   | agg cs =>
     exfalso
     unfold Cell.okWide at h
     split at h <;> simp_all [Cell.ok]
   | _=>simp [Value.cells] at hu; subst hu; exact h2

def Env.none (w:World):Env:=⟨w,fun _ _=>False⟩
def OpD (P:Program) (sp:Bool) (t:TypeId) (Q:List D → Prop):Prop :=
 ∀ {H:Type} {enc:TypeId × Value → H} {w:World} {base:Nat} {spare:Nat → Bool} {held:Bool} {fuel:Nat} {cs:List Value} {x:DataW H × List MemPlace},
   DataW.trod enc P w base spare held fuel t cs=some x → (sp=true → ∀ v ∈ cs,vC v) → ∃ ds,RdL (Env.none w) β0 cs ds ∧ Q ds
def qInt (k:IntKind) (ds:List D):Prop:=∃ n:Int,ds=[.int k n] ∧ (k.min ≤ n ∧ n ≤ k.max)
def qBool (ds:List D):Prop:=∃ b:Bool,ds=[.bool b]
def qSlice {α:Type} (f:Enc α) (wf:α → Prop) (ds:List D):Prop:=∃ l:List α,ds=[.slice false (l.map f.d)] ∧ l.length ≤ 9223372036854775807 ∧ ∀ x ∈ l,wf x
def aCG:List (List D → Prop) → List D → Prop
 | [],ds=>ds=[]
 | Q :: Qs,ds=>∃ a b,ds=a ++ b ∧ Q a ∧ aCG Qs b

section
variable {P:Program} {sp:Bool} {t:TypeId}
theorem vS {k:IntKind} (hu:P.underlying t=some (.int k)):OpD P sp t (qInt k):=by
 intro H enc w base spare held fuel cs x h _
 obtain ⟨n,rfl,rfl,hw⟩:=DataW.trod_int hu h
 exact ⟨[.int k n],.cons (.int _ _ _) (.nil _),n,rfl,by simpa [Lit.wf] using hw⟩
theorem aDT (hu:P.underlying t=some .bool):OpD P sp t qBool:=by
 intro H enc w base spare held fuel cs x h _
 obtain ⟨b,rfl,rfl⟩:=DataW.trod_bool hu h
 exact ⟨[.bool b],.cons (.bool _ _) (.nil _),b,rfl⟩
theorem aCR {α:Type} {f:Enc α} {e:TypeId} {wf:α → Prop} (hu:P.underlying t=some (.slice e)) (hc:P.cellsOf e=f.sz) (he:OpD P false e (fun ds=>∃ a,ds=(f.d a).cells ∧ wf a)):OpD P sp t (qSlice f wf):=by
 intro H enc w base spare held fuel cs x h hs
 rcases DataW.trod_slice hu h with ⟨rfl,_⟩ | ⟨a,len,cap,elems,rest,n,_,rfl,rfl,hb,hl,hm,hlen,hel,_,_⟩
 · exact ⟨[.slice false []],.cons (.nslice _ _) (.nil _),[],rfl,by simp,by simp⟩
 · by_cases hl0:len=0
   · subst hl0; exact ⟨[.slice false []],.cons (.eslice _ a cap false (fun h=>by cases h)) (.nil _),[],rfl,by simp,by simp⟩
   have hsp0:a.spot=none:=by
    have h1:=hel 0 (by omega)
    have h2:elems[0]? = some (elems[0]'(by omega)):=List.getElem?_eq_getElem _
    rw [h2,Option.bind_eq_some_iff] at h1
    obtain ⟨vs,h3,_⟩:=h1
    have h7:=World.cells?_some h3
    have hp:=f.pos
    have h8:=h7.2.2 0 (by rw [hc]; exact hp)
    rw [Nat.zero_mul] at h8
    have e0:((a.add 0).add 0)=a:=rfl
    rw [e0] at h8
    cases hsp:a.spot with
    | none=>rfl
    | some q =>
      exfalso
      unfold World.cell? at h8
      rw [hsp] at h8
      split at h8
      · simp at h8; have:=h7.1; simp_all
      · have:=h7.1; simp_all
   have ha:a=⟨a.block,a.off,none⟩:=by cases a; simp_all
   have each:∀ i,i < len → ∃ (vs:List Value) (y:α),(∀ k v,vs[k]? = some v → w.cell? ⟨a.block,a.off + (i * f.sz + k),none⟩=some v) ∧ RdL (Env.none w) β0 vs (f.d y).cells ∧ wf y:=by
    intro i hi
    have h1:=hel i hi
    have h2:elems[i]? = some (elems[i]'(by omega)):=List.getElem?_eq_getElem _
    rw [h2,Option.bind_eq_some_iff] at h1
    obtain ⟨vs,h3,h4⟩:=h1
    obtain ⟨ds,h5,y,rfl,h6⟩:=he h4 (by simp)
    refine ⟨vs,y,fun k v hk=>?_,h5,h6⟩
    have h7:=World.cells?_some h3
    have hk':=(List.getElem?_eq_some_iff.1 hk).1
    have h8:=h7.2.2 k (by omega)
    rw [hk,ha,hc] at h8
    rw [← h8]
    congr 1
    by_cases h9:i * f.sz=0
    · by_cases h10:k=0
      · simp [Addr.add,h9,h10]
      · simp [Addr.add,h9,h10]
    · by_cases h10:k=0
      · simp [Addr.add,h9,h10]
      · simp [Addr.add,h9,h10,Nat.add_assoc]
   have all:∀ m,m ≤ len → ∃ (vs:List Value) (l:List α),l.length=m ∧ (∀ k v,vs[k]? = some v → w.cell? ⟨a.block,a.off + k,none⟩=some v) ∧ RdL (Env.none w) β0 vs (D.flat (l.map f.d)) ∧ ∀ y ∈ l,wf y:=by
    intro m
    induction m with
    | zero=>intro _; exact ⟨[],[],rfl,by simp,.nil _,by simp⟩
    | succ m ih =>
      intro hm'
      obtain ⟨vs,l,h1,h2,h3,h4⟩:=ih (by omega)
      obtain ⟨us,y,h5,h6,h7⟩:=each m (by omega)
      have hvl:vs.length=m * f.sz:=by rw [h3.length,f.flat_len,h1]
      refine ⟨vs ++ us,l ++ [y],by simp [h1],fun k v hk=>?_,?_,?_⟩
      · by_cases hk':k < vs.length
        · exact h2 k v (by rwa [List.getElem?_append_left hk'] at hk)
        · rw [List.getElem?_append_right (by omega)] at hk
          have:=h5 _ _ hk
          rwa [hvl,show m * f.sz + (k - m * f.sz)=k by omega] at this
      · rw [List.map_append]
        have e2:D.flat (l.map f.d ++ [y].map f.d)=D.flat (l.map f.d) ++ (f.d y).cells:=by simp [D.flat]
        rw [e2]; exact h3.append h6
      · intro z hz
        rcases List.mem_append.1 hz with h | h
        · exact h4 z h
        · simp at h; subst h; exact h7
   obtain ⟨vs,l,h1,h2,h3,h4⟩:=all len (Nat.le_refl _)
   refine ⟨[.slice false (l.map f.d)],.cons ?_ (.nil _),l,rfl,by unfold maxLen at hm; omega,h4⟩
   rw [ha]
   exact .slice _ _ _ len cap f.sz false vs _ (by rw [List.length_map,h1]) hl (by simp) (f.len l) f.pos (fun k v hk=>⟨h2 k v hk,fun h=>h⟩) h3

def uZ (P:Program):Nat → List Field → Bool
 | _,[]=>true
 | k,f :: fs=>f.offset == k && uZ P (k + P.cellsOf f.type) fs
inductive OpFs (P:Program) (sp:Bool):List Field → List (List D → Prop) → Prop
 | nil:OpFs P sp [] []
 | cons {f fs Q Qs} (h:OpD P sp f.type Q) (t:OpFs P sp fs Qs):OpFs P sp (f :: fs) (Q :: Qs)
theorem aBY {fs:Array Field} {Qs:List (List D → Prop)} (hu:P.underlying t=some (.struct fs)) (hf:uZ P 0 fs.toList=true) (hn:P.cellsOf t=(fs.toList.map fun f=>P.cellsOf f.type).sum) (h:OpFs P sp fs.toList Qs):OpD P sp t (aCG Qs):=by
 intro H enc w base spare held fuel cs x hx hs
 obtain ⟨xs,n,_,_,hlen,hxl,hfld⟩:=DataW.trod_struct hu hx
 have key:∀ (l:List Field) (Qs:List (List D → Prop)) (k:Nat),OpFs P sp l Qs → uZ P k l=true → k + (l.map fun f=>P.cellsOf f.type).sum=cs.length →
  (∀ f ∈ l,∃ y,DataW.trod enc P w base spare held n f.type ((cs.drop f.offset).take (P.cellsOf f.type))=some y) → ∃ ds,RdL (Env.none w) β0 (cs.drop k) ds ∧ aCG Qs ds:=by
  intro l Qs k ho
  induction ho generalizing k with
  | nil =>
    intro _ h1 _
    refine ⟨[],?_,rfl⟩
    rw [List.drop_of_length_le (by simp at h1; omega)]; exact .nil _
  | @cons f fs Q Qs h t ih =>
    intro h1 h2 h3
    simp only [uZ,Bool.and_eq_true,beq_iff_eq] at h1
    simp only [List.map_cons,List.sum_cons] at h2
    obtain ⟨y,hy⟩:=h3 f (by simp)
    rw [h1.1] at hy
    obtain ⟨ds,h4,h5⟩:=h hy (fun hsp v hv=>hs hsp v (List.mem_of_mem_drop (List.mem_of_mem_take hv)))
    obtain ⟨es,h6,h7⟩:=ih (k + P.cellsOf f.type) h1.2 (by omega) (fun g hg=>h3 g (by simp [hg]))
    refine ⟨ds ++ es,?_,ds,es,rfl,h5,h7⟩
    have:=h4.append h6
    rwa [← List.drop_drop,List.take_append_drop] at this
 have:=key fs.toList Qs 0 h hf (by rw [Nat.zero_add,← hn,hlen]) (fun f hf=>by
  obtain ⟨i,hi⟩:=List.getElem?_of_mem hf
  have h1:=hfld i f (by simpa using hi)
  have h2:i < xs.length:=by rw [hxl]; have:=(List.getElem?_eq_some_iff.1 hi).1; simpa using this
  exact ⟨xs[i],by rw [h1,List.getElem?_eq_getElem h2]⟩)
 rwa [List.drop_zero] at this
theorem OpD.to {Q R:List D → Prop} (h:OpD P sp t Q) (k:∀ ds,Q ds → R ds):OpD P sp t R:=by
 intro H enc w base spare held fuel cs x hx hs
 obtain ⟨ds,h1,h2⟩:=h hx hs
 exact ⟨ds,h1,k ds h2⟩
theorem aCQ {Q:List D → Prop} (h:OpD P true t Q) {H:Type} {enc:TypeId × Value → H} {w:World} {base b0:Nat} {spare:Nat → Bool} {held:Bool} {v:Value} {d:DataW H} {ps:List MemPlace} {r:Reach}
 (hv:Value.okWide P w r b0 t v) (hd:DataW.Trod enc P w base spare held t v d ps):∃ ds,RdL (Env.none w) β0 v.cells.toList ds ∧ Q ds:=by
 obtain ⟨fuel,hf⟩:=hd
 exact h hf (fun _=>aDL hv)
theorem aCD {E:Env} {v:Value} {d:D} (h:RdL E β0 v.cells.toList [d]) (hn:∀ cs,v ≠ .agg cs):Rd E β0 v d:=by
 cases v with
 | agg cs=>exact absurd rfl (hn cs)
 | _=>simp [Value.cells] at h; cases h with | cons h _=>exact h
theorem aCF {E:Env} {cs:Array Value} {ds:List D} (h:RdL E β0 (Value.cells (.agg cs)).toList ds):Rd E β0 (.agg cs) (.agg ds):=by
 have:=Rd.agg (E:=E) β0 cs.toList ds (by simpa [Value.cells] using h)
 simpa using this

section
variable {H:Type} {enc:TypeId × Value → H}
theorem sG (hl:laidOutB P=true) {W W':World} (hb:Below W.heap.size W W') {sp:Nat → Bool}:∀ {ts:List TypeId} {vs:List Value} {ds:List (DataW H)} {ps:List MemPlace},
 (∀ t ∈ ts,P.readableRec t=true ∧ t < P.types.size) → DataW.TrodAll enc P W 0 (fun _=>true) true ts vs ds ps → (∀ x ∈ ps,x.block < W.heap.size) → (∀ x ∈ ps,sp x.block=true) →
 DataW.TrodAll enc P W' 0 sp true ts vs ds ps
 | [],vs,ds,ps,_,h,_,_=>by
   obtain ⟨rfl,rfl,rfl⟩:=trodAll_nil h; exact rfl
 | t :: ts,vs,ds,ps,hr,h,hlt,hsp=>by
   obtain ⟨v,vs',d,ds',p,q,rfl,rfl,rfl,h1,h2⟩:=trodAll_cons h
   refine ⟨p,q,?_,sG hl hb (fun t ht=>hr t (by simp [ht])) h2 (fun x hx=>hlt x (by simp [hx])) (fun x hx=>hsp x (by simp [hx])),rfl⟩
   have hx:∀ x ∈ p,x ∈ p ++ q:=fun x hx=>by simp [hx]
   exact WideElems.Trod_stays hl (hr t (by simp)).1 (hr t (by simp)).2 h1 (fun x hxp=>hb.same (hlt x (hx x hxp))) (fun x hxp=>hsp x (hx x hxp))
theorem yG {f:Func} {s:ChangeSpec} {apart fresh handsOn again:Bool} {W W':World} {args:Array Value} {v:Value} {ds gs:List (DataW H)} {before pa pv:List MemPlace}
 (hW:DataW.Whole enc P f.params.toList s.vars apart W args.toList ds gs before)
 (hres:∀ (b:Nat) (sp:Nat → Bool) (hd:Bool),DataW.TrodAll enc P W' b sp hd f.resultTypes.toList (v.resultList f.resultTypes.size) (s.fn H (ds ++ gs)).results [])
 (hargs:∀ sp:Nat → Bool,(∀ p ∈ before,sp p.block=true) → DataW.TrodAll enc P W' 0 sp true f.params.toList args.toList (s.fn H (ds ++ gs)).args pa)
 (hvars:∀ sp:Nat → Bool,(∀ p ∈ before,sp p.block=true) → DataW.TrodVars enc P W' sp s.vars (s.fn H (ds ++ gs)).vars pv)
 (hps:before=pa ++ pv) (hb:Below W.heap.size W W')
 (hok:∀ (j:Nat) (t:TypeId) (r:Value),f.resultTypes[j]? = some t → (v.resultList f.resultTypes.size)[j]? = some r → Value.okWide P W' .any 0 t r) :
 s.post enc P f apart fresh handsOn again W args v W':=by
 have hlt:∀ p ∈ before,p.block < W.heap.size:=fun p hp=>hW.lt p hp
 have hold:∀ p ∈ before,(fun b=>decide (b < W.heap.size)) p.block=true:=fun p hp=>by simpa using hlt p hp
 refine ⟨ds,gs,before,[],pa,pv,hW,hres _ _ _,hargs _ hold,hvars _ hold,World.keptBut_mono (fun p hp=>⟨hp,?_⟩) (hb.frame (· ∈ before)),fun _=>?_⟩
 · rw [hps,List.mem_append] at hp
   exact Or.inr hp
 · obtain ⟨_,_,_,_,_,hz,hn⟩:=hW
   refine ⟨hok,_,_,([] ++ pa) ++ pv,⟨[] ++ pa,pv,trodAll_append (hargs _ (fun _ _=>rfl)) (hres _ _ _),hvars _ (fun _ _=>rfl),rfl,?_,?_⟩,?_⟩
   · intro b off hp
     have hin:MemPlace.cell b off ∈ before:=by rw [hps]; simpa using hp
     rw [hb.frozen (hlt _ hin)]
     exact hz b off hin
   · intro ha
     have:=hn ha
     rw [hps] at this
     simpa using this
   · intro p hp _
     rw [hps]
     simpa using hp
theorem aDX {f:Func} {s:ChangeSpec} {apart fresh handsOn again:Bool} {W W':World} {args:Array Value} {ds gs:List (DataW H)} {before:List MemPlace} {tb:TypeId}
 (hl:laidOutB P=true) (hr:∀ t ∈ f.params.toList,P.readableRec t=true ∧ t < P.types.size) (hv:s.vars=[]) (hres:f.resultTypes = #[tb]) (hbool:P.underlying tb=some .bool)
 (hfn:s.fn H (ds ++ gs) = { results:=[.lit (.bool true)],args:=ds })
 (hW:DataW.Whole enc P f.params.toList s.vars apart W args.toList ds gs before) (hb:Below W.heap.size W W'):s.post enc P f apart fresh handsOn again W args (.bool true) W':=by
 have hW':=hW
 obtain ⟨p,q,hA,hV,hbef,hfz,hnd⟩:=hW
 rw [hv] at hV
 obtain ⟨rfl,rfl⟩:=trodVars_none hV
 have hlt:∀ x ∈ before,x.block < W.heap.size:=fun x hx=>hW'.lt x hx
 have hsub:∀ x ∈ p,x ∈ before:=fun x hx=>by rw [hbef]; simp [hx]
 refine yG (pa:=p) (pv:=[]) hW' ?_ ?_ ?_ ?_ hb ?_
 · intro b sp hd
   rw [hfn,hres]
   exact trodAll_mk1 (shut_bool hbool true)
 · intro sp hsp
   rw [hfn]
   exact sG hl hb hr hA (fun x hx=>hlt x (hsub x hx)) (fun x hx=>hsp x (hsub x hx))
 · intro sp hsp
   rw [hfn,hv]; exact rfl
 · exact hbef
 · exact ok_one hres rfl (okWide_bool_mk hbool true)
end
end
end Go.IL
namespace Go.IL
theorem aBV {P:Program} {w W:World} {r:Reach} {b:Nat} {t:TypeId} {v:Value} {ds:List D} (hv:Value.okWide P W r b t v) (hg:kM P t=true) (h:RdL (Env.none w) β0 v.cells.toList ds):Rd (Env.none w) β0 v (.agg ds):=by
 unfold kM at hg
 unfold Value.okWide at hv
 split at hv
 · obtain ⟨cs,rfl,_⟩:=hv; exact aCF h
 · obtain ⟨cs,rfl,_⟩:=hv; exact aCF h
 · rename_i h1 h2
   split at hg
   · rename_i h3; exact absurd h3 (h1 _)
   · rename_i h3; exact absurd h3 (h2 _ _)
   · cases hg
theorem aBU {P:Program} {w W:World} {r:Reach} {b:Nat} {t:TypeId} {v:Value} {d:D} (hv:Value.okWide P W r b t v) (hg:kM P t=false) (h:RdL (Env.none w) β0 v.cells.toList [d]):Rd (Env.none w) β0 v d:=by
 refine aCD h fun cs e=>?_
 subst e
 unfold kM at hg
 unfold Value.okWide at hv
 split at hv
 · rename_i h1; rw [h1] at hg; cases hg
 · rename_i h1; rw [h1] at hg; cases hg
 · unfold Cell.okWide at hv
   split at hv <;> simp_all [Cell.ok]
end Go.IL
open Go.RowKit Go.WideShapes Go.ChangeShapes
namespace Go.IL
theorem aCS {P:Program} {sp:Bool} {t e:TypeId} {n:Nat} {Q:List D → Prop} (hu:P.underlying t=some (.array n e)) (hn:P.cellsOf t=n * P.cellsOf e) (he:OpD P sp e Q):OpD P sp t (aCG (List.replicate n Q)):=by
 intro H enc w base spare held fuel cs x hx hs
 obtain ⟨xs,m,_,_,hlen,hxl,hel⟩:=DataW.trod_array hu hx
 have key:∀ (j k:Nat),k + j=n → ∃ ds,RdL (Env.none w) β0 (cs.drop (k * P.cellsOf e)) ds ∧ aCG (List.replicate j Q) ds:=by
  intro j
  induction j with
  | zero =>
    intro k hk
    refine ⟨[],?_,rfl⟩
    rw [List.drop_of_length_le (by rw [hlen,hn,← hk]; simp)]; exact .nil _
  | succ j ih =>
    intro k hk
    obtain ⟨es,h1,h2⟩:=ih (k + 1) (by omega)
    have h3:=hel k (by omega)
    rw [List.getElem?_eq_getElem (by omega)] at h3
    obtain ⟨ds,h4,h5⟩:=he h3 (fun hsp v hv=>hs hsp v (List.mem_of_mem_drop (List.mem_of_mem_take hv)))
    refine ⟨ds ++ es,?_,ds,es,rfl,h5,h2⟩
    have h6:=h4.append h1
    have e1:(k + 1) * P.cellsOf e=k * P.cellsOf e + P.cellsOf e:=by rw [Nat.add_mul,Nat.one_mul]
    rwa [e1,← List.drop_drop,List.take_append_drop] at h6
 have:=key n 0 (by omega)
 rwa [Nat.zero_mul,List.drop_zero] at this
end Go.IL
