/-
  A part of the proof: rules and plain facts. No condition.
-/
import Derived.Test.YtnokcmkfkfeaiaaGreatIlP172
import Derived.Test.YtnokcmkfkfeaiaaGreatIlEq
import Derived.ProofKit
import Derived.OpenShut
set_option linter.all false
open Go Go.IL
namespace Go.Fn
theorem aFe {st:S23} (h:G st) {A B:List Pc} {p:Pc} (hs:st.Pieces=A++[p]++B):(∀ a∈A,before p a=false)∧(∀ b∈B,before p b=true):=by
 have hpw:=h.pw
 rw [hs,List.append_assoc] at hpw
 obtain ⟨w1,w2,w3⟩:=List.pairwise_append.1 hpw
 obtain ⟨w4,w5⟩:=List.pairwise_cons.1 w2
 have hp:=h.pb p (by rw [hs]; simp)
 constructor
 · intro a ha
   have h1:=w3 a ha p (by simp)
   have h2:=h.pb a (by rw [hs]; simp [ha])
   unfold before
   by_cases c:a.From=p.From
   · have e1:a.From=a.To:=by omega
     by_cases d:p.To≤a.To
     · have e2:p.From=p.To:=by omega
       have f1:=h.pf a (by rw [hs]; simp [ha]) e1
       have f2:=h.pf p (by rw [hs]; simp) e2
       have hc:=h.fc
       rw [hs,tU,tU] at hc
       have g2:fins [p]=1:=by simp [fins,f2]
       have g1:1≤fins A:=List.length_pos_iff.2 fun hh=>by
        have:a∈A.filter (·.Fin):=List.mem_filter.2 ⟨ha,f1⟩
        rw [hh] at this; cases this
       split at hc <;> omega
     · rw [decide_eq_false (by omega),decide_eq_false d]; simp
   · rw [decide_eq_false (by omega),decide_eq_false c]; rfl
 · intro b hb
   have h1:=w4 b (by simpa using hb)
   have h2:=h.pb b (by rw [hs]; simp [hb])
   unfold before
   by_cases c:p.From<b.From
   · rw [decide_eq_true c]; rfl
   · rw [decide_eq_false c,decide_eq_true (show b.From=p.From by omega),decide_eq_true (show p.To≤b.To by omega)]; rfl
theorem aGT {l A B:List Pc} {p:Pc} (hl:l.length≤100000) (hs:l=A++B) (hA:∀ a∈A,before p a=false) (hB:∀ b∈B,before p b=true):∀ (r q:List Pc) (f:Nat),A=q++r→r.length<f→fO l p f (q.length:Int)=some (A++[p]++B)
 | _,_,0,_,hf=>absurd hf (by omega)
 | [], q,f+1,hq,_=>by
   rw [List.append_nil] at hq
   subst hq
   have hll:A.length+B.length≤100000:=by rw [hs,List.length_append] at hl; exact hl
   have fin:(bno (cut l 0 (A.length:Int)) fun x38=>bno (app 32 ([]:List Pc) x38) fun x39=>bno (app 32 x39 ([p]:List Pc)) fun x40=>bno (cut l (A.length:Int) (l.length:Int)) fun x41=>bno (app 32 x40 x41) fun x42=>some x42)=some (A++[p]++B):=by
    rw [aBR hs,bnoS,gZ (by simp; omega) (by simp; omega),bnoS,List.nil_append,gZ (by simp; omega) (by simp; omega),bnoS,yY hs,bnoS,gZ (by simp; omega) (by simp; omega),bnoS]
   rw [fO,bndD]
   cases B with
   | nil =>
     rw [jO hs]
     simp only [ft,Bool.false_and,gdff,bnoS,bndD,bC]
     exact fin
   | cons b B =>
     have hb:=hB b (by simp)
     unfold before at hb
     rw [jC hs]
     simp only [beq_self_eq_true,gdtt,dP hs,bnoS,bndD,Bool.true_and]
     rw [Bool.or_eq_true,Bool.and_eq_true,decide_eq_true_iff,decide_eq_true_iff,decide_eq_true_iff] at hb
     rw [decide_eq_false (show ¬b.From<p.From by omega)]
     simp only [beq_self_eq_true,gdtt,bnoS,bndD,Bool.false_or]
     by_cases c:b.From=p.From
     · rw [decide_eq_true c]
       simp only [beq_self_eq_true,gdtt,bnoS,Bool.true_and]
       rw [decide_eq_false (show ¬b.To<p.To by omega),bC]
       exact fin
     · rw [decide_eq_false c]
       simp only [ft,gdff,bnoS,Bool.false_and,bC]
       exact fin
 | a :: r,q,f+1,hq,hf=>by
   have ha:=hA a (by rw [hq]; simp)
   have hs2:l=q++a::(r++B):=by rw [hs,hq]; simp
   have hrec:=aGT hl hs hA hB r (q++[a]) f (by rw [hq]; simp) (by simpa using hf)
   unfold before at ha
   rw [Bool.or_eq_false_iff,Bool.and_eq_false_iff,decide_eq_false_iff_not,decide_eq_false_iff_not,decide_eq_false_iff_not] at ha
   rw [fO,bndD,jC hs2]
   simp only [beq_self_eq_true,gdtt,dP hs2,bnoS,bndD,Bool.true_and]
   by_cases c:a.From<p.From
   · rw [decide_eq_true c]
     simp only [show (true == false)=false from rfl,Bool.false_and,gdff,bnoS,bndD,Bool.true_or,bH,w_at hs2 (show l.length≤1000000 by omega)]
     exact hrec
   · rw [decide_eq_false c]
     have e:a.From=p.From:=by omega
     simp only [beq_self_eq_true,gdtt,bnoS,bndD,Bool.false_or,decide_eq_true e,Bool.true_and]
     rw [decide_eq_true (show a.To<p.To by omega)]
     simp only [bH,bndD,w_at hs2 (show l.length≤1000000 by omega)]
     exact hrec
theorem rput23 {l A B:List Pc} {p:Pc} (hl:l.length≤100000) (hs:l=A++B) (hA:∀ a∈A,before p a=false) (hB:∀ b∈B,before p b=true):pD l p=some (A++[p]++B) :=
 aGT hl hs hA hB A [] fuel rfl (dN (by rw [hs,List.length_append] at hl; omega))
theorem rwent {s:S23} (h:G s) {by_ most limit:Int} {A B:List Pc} {L:List Iv} {N:Int} (hs:s.Pieces=A++B) (hg:G (aAA s (dF s by_ most limit) (tP s (dF s by_ most limit)) A B)) (hk:Pk s (dF s by_ most limit) (tP s (dF s by_ most limit))) (hN:N=max s.Next (dF s by_ most limit).To) (hL:L=tP s (dF s by_ most limit)) :
 fH ⟨s.Base,s.Data,N,s.Pieces,L,s.Closed,s.Sent,s.Again,s.Done⟩ ⟨(dF s by_ most limit).From,(dF s by_ most limit).To,by_,false⟩=some (aAA s (dF s by_ most limit) (tP s (dF s by_ most limit)) A B,dF s by_ most limit,(s.Data.take ((dF s by_ most limit).To-s.Base).toNat).drop ((dF s by_ most limit).From-s.Base).toNat,true):=by
 obtain ⟨n1,n2,n3,n4⟩:=h.num
 have e:endS s=s.Base+(s.Data.length:Int):=rfl
 have k1:=hk.lo; have k2:=hk.le; have k4:=hk.hi
 have hpl:=h.pl
 obtain ⟨b1,b2⟩:=aFe hg (A:=A) (B:=B) (p:=dF s by_ most limit) rfl
 have hput:=rput23 (by omega) hs b1 b2
 have hdue:dueS (⟨s.Base,s.Data,N,s.Pieces,L,s.Closed,s.Sent,s.Again,s.Done⟩:S23)=dueS s:=rfl
 have hend:dE (⟨s.Base,s.Data,N,s.Pieces,L,s.Closed,s.Sent,s.Again,s.Done⟩:S23)=some (endS s):=by
  have:=aAd h
  unfold dE at this ⊢
  exact this
 have hfin:(dF s by_ most limit).Fin=(decide ((dF s by_ most limit).To=endS s)&&dueS s):=hk.fi
 have hJ:∀ v6 v7 v8,v8=(dF s by_ most limit).Fin→v6=(if (dF s by_ most limit).Fin=true then true else s.Sent)→v7=(if (dF s by_ most limit).Fin=true then false else s.Again) →
  gU (⟨s.Base,s.Data,N,s.Pieces,L,s.Closed,s.Sent,s.Again,s.Done⟩:S23) ⟨(dF s by_ most limit).From,(dF s by_ most limit).To,by_,false⟩ v6 v7 v8=some (aAA s (dF s by_ most limit) (tP s (dF s by_ most limit)) A B,dF s by_ most limit,(s.Data.take ((dF s by_ most limit).To-s.Base).toNat).drop ((dF s by_ most limit).From-s.Base).toNat,true):=fun v6 v7 v8 h8 h6 h7=>by
  have ep:(⟨(dF s by_ most limit).From,(dF s by_ most limit).To,by_,v8⟩:Pc)=dF s by_ most limit:=by rw [h8]; rfl
  unfold gU
  dsimp only
  rw [ep,hput,bnoS,bndD,w64 (by omega) (by omega),bndD,w64 (by omega) (by omega),aDs (by omega) (by omega) (by omega),bnoS,h6,h7,hN,hL]
  rfl
 unfold fH
 rw [aEf,hdue,bnoS,hend]
 cases hd:dueS s with
 | true =>
   rw [hd,Bool.and_true] at hfin
   rw [beq_self_eq_true,gdtt,bnoS,bndD,bndD,Bool.true_and,←hfin]
   cases hF:(dF s by_ most limit).Fin with
   | true=>rw [bH]; exact hJ true false true hF.symm (by rw [hF]; rfl) (by rw [hF]; rfl)
   | false=>rw [bC]; exact hJ s.Sent s.Again false hF.symm (by rw [hF]; rfl) (by rw [hF]; rfl)
 | false =>
   rw [hd,Bool.and_false] at hfin
   rw [ft,gdff,bnoS,bndD,bndD,Bool.false_and,bC]
   exact hJ s.Sent s.Again false hfin.symm (by rw [hfin]; rfl) (by rw [hfin]; rfl)
theorem aEc {s:S23} (h:G s) {by_ most limit:Int} (hm:most≤9223372036854775807) (hl:0≤limit∧limit≤4398046511104):fI s by_ most limit=nH s by_ most limit:=by
 obtain ⟨n1,n2,n3,n4⟩:=h.num
 have e:endS s=s.Base+(s.Data.length:Int):=rfl
 have hpl:=h.pl
 have hll:=h.ll
 have hd:=h.dl
 by_cases hb:0≤by_∧by_<4
 · by_cases hm1:most<1
   · rw [aBi h hb hm hl (.inl hm1)]
     unfold fI
     rw [rS h,bnoS]
     simp only [bndD,decide_true,Bool.not_true,decide_eq_false (show ¬by_<0 by omega),decide_eq_false (show ¬4≤by_ by omega),decide_eq_true hm1,Bool.or_true,bH]
   · have hfront:fI s by_ most limit=bnd (decide (0<(s.Lost.length:Int))) fun x10=>bif x10 then (bno (gix s.Lost 0) fun x12=>bnd (min most 4096) fun x13=>bnd (IntKind.wrap .i64 (x12.From+x13)) fun x14=>bnd (min x12.To x14) fun x15=>bno (gK s.Lost (⟨x12.From,x15⟩:Iv)) fun x16=>bno (fH (⟨s.Base,s.Data,s.Next,s.Pieces,x16,s.Closed,s.Sent,s.Again,s.Done⟩:S23) (⟨x12.From,x15,by_,false⟩:Pc)) fun x17=>some (x17.1,x17.2.1,x17.2.2.1,x17.2.2.2)) else (
      bno (dE s) fun x18=>bnd (IntKind.wrap .i64 (x18-s.Next)) fun x19=>bnd (decide (0<x19)) fun x20=>bnd (decide (s.Next<limit)) fun x21=>bnd (x20&&x21) fun x22=>bif x22 then (
       bnd (IntKind.wrap .i64 (limit-s.Next)) fun x24=>bnd (min (min x19 most) x24) fun x25=>bnd (IntKind.wrap .i64 (s.Next+x25)) fun x26=>bnd (IntKind.wrap .i64 (s.Next+x25)) fun x27 =>
       bno (fH (⟨s.Base,s.Data,x27,s.Pieces,s.Lost,s.Closed,s.Sent,s.Again,s.Done⟩:S23) (⟨s.Next,x26,by_,false⟩:Pc)) fun x28=>some (x28.1,x28.2.1,x28.2.2.1,x28.2.2.2)) else (
       bnd (decide (x19=0)) fun x29=>bno (gd (x29 == true) (jE s) default) fun x30=>bnd (x29&&x30) fun x31=>bif x31 then (
        bno (dE s) fun x33=>bno (dE s) fun x34=>bno (fH s (⟨x33,x34,by_,false⟩:Pc)) fun x35=>some (x35.1,x35.2.1,x35.2.2.1,x35.2.2.2)) else (some (s,(⟨0,0,0,false⟩:Pc),[],false)))):=by
      unfold fI
      rw [rS h,bnoS]
      simp only [bndD,decide_true,Bool.not_true,decide_eq_false (show ¬by_<0 by omega),decide_eq_false (show ¬4≤by_ by omega),decide_eq_false hm1,Bool.or_self,bC]
     rw [hfront]
     clear hfront
     have hmm:1≤most∧most≤9223372036854775807:=⟨by omega,hm⟩
     cases his:(gJ s most limit).2 with
     | true =>
       obtain ⟨A,B,p1,p2,p3⟩:=aDd h hb hmm hl his
       have hk:=pk_of h hb hmm hl his
       have hw:=fun {L:List Iv} {N:Int}=>rwent h (by_:=by_) (most:=most) (limit:=limit) (A:=A) (B:=B) (L:=L) (N:=N) p1 p2 hk
       rw [p3]
       have k2:=hk.le
       cases hLost:s.Lost with
       | cons x r =>
         have hx:x∈s.Lost:=by rw [hLost]; simp
         have a1:=h.lv.ne x hx
         have a2:=h.lb x hx
         have en:gJ s most limit=(⟨x.From,x.From+min most (x.To-x.From),0,false⟩,true):=by unfold gJ; rw [hLost]
         have ef:(dF s by_ most limit).From=x.From:=by show (gJ s most limit).1.From=_; rw [en]
         have et:(dF s by_ most limit).To=x.From+min most (x.To-x.From):=by show (gJ s most limit).1.To=_; rw [en]
         have et2:min x.To (x.From+min most 4096)=(dF s by_ most limit).To:=by rw [et]; omega
         have hc:gK (x::r) ⟨x.From,(dF s by_ most limit).To⟩=some (tP s (dF s by_ most limit)):=by
          have hc:=cut06 (s:=s.Lost) (x:=⟨x.From,(dF s by_ most limit).To⟩) (by omega) h.lv (by rw [et]; show 0≤x.From∧x.From≤_∧0≤x.From+min most (x.To-x.From)∧x.From+min most (x.To-x.From)≤_; omega)
          rw [hLost] at hc
          rw [hc]
          unfold tP
          rw [ef,hLost]
         have:=hw (L:=tP s (dF s by_ most limit)) (N:=s.Next) (by rw [et]; omega) rfl
         rw [ef] at this
         rw [bndD,decide_eq_true (show (0:Int)<((x::r).length:Int) by rw [List.length_cons]; omega),bH,show gix (x::r) 0=some x from rfl,bnoS,bndD,bndD,w64 (by omega) (by omega),bndD,et2,hc,bnoS,this,bnoS,ef]
       | nil =>
         have en:gJ s most limit=if 0<endS s-s.Next then (⟨s.Next,s.Next+min (min (endS s-s.Next) most) (max limit s.Next-s.Next),0,false⟩,decide (0<min (min (endS s-s.Next) most) (max limit s.Next-s.Next))) else (⟨s.Next,s.Next,0,false⟩,dueS s):=by unfold gJ; rw [hLost]
         have hls:tP s (dF s by_ most limit)=[]:=by unfold tP; rw [hLost]; split <;> rfl
         rw [bndD,show decide ((0:Int)<(([]:List Iv).length:Int))=false from rfl,bC,aAd h,bnoS,bndD,w64 (by omega) (by omega),bndD,bndD,bndD]
         by_cases c:0<endS s-s.Next
         · rw [if_pos c] at en
           rw [en] at his
           have his:=of_decide_eq_true his
           have ef:(dF s by_ most limit).From=s.Next:=by show (gJ s most limit).1.From=_; rw [en]
           have et:(dF s by_ most limit).To=s.Next+min (min (endS s-s.Next) most) (limit-s.Next):=by
            show (gJ s most limit).1.To=_; rw [en]
            show s.Next+min (min (endS s-s.Next) most) (max limit s.Next-s.Next)=_
            omega
           have:=hw (L:=([]:List Iv)) (N:=(dF s by_ most limit).To) (by rw [et]; omega) hls.symm
           rw [ef] at this
           rw [decide_eq_true c,decide_eq_true (show s.Next<limit by omega),show (true&&true)=true from rfl,bH,bndD,w64 (by omega) (by omega),bndD,bndD,w64 (by omega) (by omega),bndD,←et,this,bnoS,ef]
         · rw [if_neg c] at en
           rw [en] at his
           have his:dueS s=true:=his
           have ef:(dF s by_ most limit).From=s.Next:=by show (gJ s most limit).1.From=_; rw [en]
           have et:(dF s by_ most limit).To=s.Next:=by show (gJ s most limit).1.To=_; rw [en]
           have ee:endS s=s.Next:=by omega
           have:=hw (L:=([]:List Iv)) (N:=s.Next) (by rw [et]; omega) hls.symm
           rw [ef,et,←hLost] at this
           have es:(⟨s.Base,s.Data,s.Next,s.Pieces,s.Lost,s.Closed,s.Sent,s.Again,s.Done⟩:S23)=s:=rfl
           rw [es] at this
           rw [decide_eq_false c,Bool.false_and,bC,bndD,decide_eq_true (show endS s-s.Next=0 by omega),beq_self_eq_true,gdtt,aEf,his,bnoS,bndD,show (true&&true)=true from rfl,bH,bnoS,bnoS,ee,this,bnoS,ef,et]
     | false =>
       rw [aBi h hb hm hl (.inr his)]
       cases hLost:s.Lost with
       | cons x r =>
         have en:gJ s most limit=(⟨x.From,x.From+min most (x.To-x.From),0,false⟩,true):=by unfold gJ; rw [hLost]
         rw [en] at his; cases his
       | nil =>
         have en:gJ s most limit=if 0<endS s-s.Next then (⟨s.Next,s.Next+min (min (endS s-s.Next) most) (max limit s.Next-s.Next),0,false⟩,decide (0<min (min (endS s-s.Next) most) (max limit s.Next-s.Next))) else (⟨s.Next,s.Next,0,false⟩,dueS s):=by unfold gJ; rw [hLost]
         rw [bndD,show decide ((0:Int)<(([]:List Iv).length:Int))=false from rfl,bC,aAd h,bnoS,bndD,w64 (by omega) (by omega),bndD,bndD,bndD]
         by_cases c:0<endS s-s.Next
         · rw [if_pos c] at en
           rw [en] at his
           have his:=of_decide_eq_false his
           rw [decide_eq_true c,decide_eq_false (show ¬s.Next<limit by omega),show (true&&false)=false from rfl,bC,bndD,decide_eq_false (show ¬endS s-s.Next=0 by omega),ft,gdff,bnoS,bndD,Bool.false_and,bC]
         · rw [if_neg c] at en
           rw [en] at his
           have his:dueS s=false:=his
           rw [decide_eq_false c,Bool.false_and,bC,bndD,decide_eq_true (show endS s-s.Next=0 by omega),beq_self_eq_true,gdtt,aEf,his,bnoS,bndD,show (true&&false)=false from rfl,bC]
 · have hP:nE by_=some false:=by
    unfold nE
    by_cases c:0≤by_
    · rw [bndD,decide_eq_true c,bndD,decide_eq_false (show ¬by_<4 by omega)]; rfl
    · rw [bndD,decide_eq_false c]; rfl
   unfold nH fI
   rw [aCQ (by omega) (by omega),bnoS,hP,bnoS,rS h,bnoS]
   have hbad:(decide (by_<0)||decide (4≤by_))=true:=by
    by_cases c:by_<0
    · rw [decide_eq_true c]; rfl
    · rw [decide_eq_true (show 4≤by_ by omega),Bool.or_true]
   simp only [bndD,decide_true,Bool.not_true,Bool.false_or,hbad,Bool.true_or,bH,Bool.not_false,show (true == false)=false from rfl,gdff,bnoS]
end Go.Fn
open Go Go.IL
namespace Go.Fn
abbrev St25:=aH
abbrev Lg:=aY
theorem aDT:lO=some true:=by kernel_rfl
def LgOk (l:Lg):Prop:=0≤l.Read∧l.Read≤l.Used∧l.Used≤l.Limit∧l.Limit≤1000000∧1≤l.Window∧l.Window≤4096
structure SG (st:St25) (W:List UInt8) (I:List Iv) (k:Int):Prop where
 id:st.ID=5
 mi : -1≤st.Mine∧st.Mine≤255
 he : -1≤st.Hers∧st.Hers≤255
 oo:LgOk st.Out
 io:LgOk st.In
 g:G st.Send
 rq:RQ W I st.Recv.Recv
 hi:aBX st.Recv.Recv.Base I k
 en:st.Recv.End = -1∨(k≤st.Recv.End∧st.Recv.End≤1000000)
 ou:st.Out.Used=st.Send.Next
 iu:st.In.Used=max st.Recv.End k
 ir:st.In.Read=st.Recv.Recv.Base-st.Recv.Recv.Ready.length
 il:st.In.Limit≤st.In.Read+st.In.Window
def qO (st:St25):Bool:=!decide (st.Mine = -1) || !decide (st.Hers = -1)
theorem ptsame {l m:List Pt} (hl:l.length≤1000000):eJ l m=some (decide (l=m)):=by
 have heq:∀ x y:Pt,(decide (x.At=y.At)&&(decide (x.Data=y.Data)&&true))=decide (x=y):=fun x y=>by
  obtain ⟨a,b⟩:=x; obtain ⟨e,f⟩:=y; rw [Bool.eq_iff_iff]; simp
 have:=tD (L:=cO l m) (m:=m) (z:=true) hl (fun p x r s y t f h k e=>by
  rw [cO]
  simp only [bndD,jC h,bH,dP h,show gix m (p.length:Int)=some y by rw [e]; exact dP k,bnoS,heq,w_at h hl]) (fun _ f=>by
  rw [cO]
  simp only [bndD,rX,bC])
 rw [Bool.and_true] at this
 exact this
end Go.Fn
open Go Go.IL
namespace Go.Fn
section
variable {st:St25} {W:List UInt8} {I:List Iv} {k:Int}
end
end Go.Fn
open Go Go.IL
namespace Go.Fn
structure LO (l:Lg):Prop where
 r0:0≤l.Read
 ru:l.Read≤l.Used
 ul:l.Used≤l.Limit
 lm:l.Limit≤1099511627776
 w1:1≤l.Window
 w2:l.Window≤1048576
theorem LO.ck {l:Lg} (h:LO l):gF l=some 0:=by
 have a:=h.r0; have b:=h.ru; have c:=h.ul; have d:=h.lm; have e:=h.w1; have f:=h.w2
 unfold gF
 simp only [bndD,decide_eq_true a,decide_eq_true b,decide_eq_true c,decide_eq_true d,decide_eq_false (show ¬l.Window<1 by omega),decide_eq_false (show ¬1048576<l.Window by omega),Bool.and_self,Bool.not_true,Bool.or_self,bC]
theorem LO.rk {l:Lg} (h:LO l):dM l=some 0:=by
 have a:=h.r0; have b:=h.ru; have c:=h.ul; have d:=h.lm; have e:=h.w1; have f:=h.w2
 unfold dM
 simp only [bndD,decide_eq_false (show ¬l.Window<1 by omega),decide_eq_false (show ¬1048576<l.Window by omega),decide_eq_false (show ¬l.Limit<0 by omega),decide_eq_false (show ¬1099511627776<l.Limit by omega),decide_eq_false (show ¬l.Used<0 by omega),decide_eq_false (show ¬l.Limit<l.Used by omega),decide_eq_false (show ¬l.Read<0 by omega),decide_eq_false (show ¬l.Used<l.Read by omega),Bool.or_self,bC]
def aDb (l:Lg) (u:Int):Lg:=⟨l.Window,l.Limit,max l.Used u,l.Read⟩
theorem creach {l:Lg} (h:LO l) {u:Int} (hu:u≤9223372036854775807):qJ l u=some (if u<0∨l.Limit<u then (l,0,false) else (aDb l u,max l.Used u-l.Used,true)):=by
 have a:=h.r0; have b:=h.ru; have c:=h.ul; have d:=h.lm
 unfold qJ
 rw [bndD,bndD,bndD]
 by_cases c1:u<0∨l.Limit<u
 · have:(decide (u<0)||decide (l.Limit<u))=true:=by simpa using c1
   rw [this,show (true == false)=false from rfl,gdff,bnoS,bndD,bndD,Bool.true_or,bH,if_pos c1]
 · have:(decide (u<0)||decide (l.Limit<u))=false:=by simpa using c1
   rw [this,show (false == false)=true from rfl,gdtt,h.ck,bnoS,bndD,decide_eq_true rfl,bndD,show (false || !true)=false from rfl,bC,bndD,w64 (by omega) (by omega),bndD,if_neg c1]
   rfl
theorem rreach {l:Lg} (h:LO l) {u:Int} (hu:u≤9223372036854775807):lF l u=some (if u<0∨l.Limit<u then (l,0,false) else (aDb l u,max l.Used u-l.Used,true)):=by
 have a:=h.r0; have b:=h.ru; have c:=h.ul; have d:=h.lm
 unfold lF
 rw [h.rk,bnoS,bndD,decide_eq_true rfl,bndD,bndD,show (!true)=false from rfl,Bool.false_or,bndD,bndD]
 by_cases c1:u<0∨l.Limit<u
 · have:(decide (u<0)||decide (l.Limit<u))=true:=by simpa using c1
   rw [this,bH,if_pos c1]
 · have:(decide (u<0)||decide (l.Limit<u))=false:=by simpa using c1
   have e1:max 0 (u-l.Used)=max l.Used u-l.Used:=by omega
   rw [this,bC,bndD,w64 (by omega) (by omega),bndD,e1,w64 (by omega) (by omega),bndD,if_neg c1]
   rw [show l.Used+(max l.Used u-l.Used)=max l.Used u by omega]
   rfl
theorem aF0 {l:Lg} (h:LO l) {u:Int} (hu:u≤l.Limit):LO (aDb l u) :=
 ⟨h.r0,by have:=h.ru; show l.Read≤max l.Used u; omega,by have:=h.ul; show max l.Used u≤l.Limit; omega,h.lm,h.w1,h.w2⟩
def eatS (l:Lg) (n:Int):Lg:=⟨l.Window,l.Limit,l.Used,l.Read+max 0 (min n (l.Used-l.Read))⟩
theorem ceat {l:Lg} (h:LO l) {n:Int} (h0:0≤n):tE l n=some (eatS l n):=by
 have a:=h.r0; have b:=h.ru; have c:=h.ul; have d:=h.lm
 unfold tE
 rw [h.ck,bnoS,bndD,decide_eq_true rfl,bndD,bndD,Bool.true_and]
 by_cases c1:0<n
 · rw [decide_eq_true c1,bH,bndD,w64 (by omega) (by omega),bndD,w64 (by omega) (by omega),bndD]
   congr 1
   unfold eatS
   congr 1; omega
 · rw [decide_eq_false c1,bC]
   have:eatS l n=l:=by
    unfold eatS
    rw [show l.Read+max 0 (min n (l.Used-l.Read))=l.Read by omega]
   rw [this]
theorem reat {l:Lg} (h:LO l) {n:Int} (h0:0≤n):nB l n=some (eatS l n):=by
 have a:=h.r0; have b:=h.ru; have c:=h.ul; have d:=h.lm
 unfold nB
 rw [h.rk,bnoS,bndD,decide_eq_true rfl,Bool.not_true,bC,bndD,w64 (by omega) (by omega),bndD,bndD,w64 (by omega) (by omega),bndD]
 rfl
theorem lo_eat {l:Lg} (h:LO l) (n:Int):LO (eatS l n):=by
 have a:=h.r0; have b:=h.ru; have c:=h.ul
 exact ⟨by show 0≤l.Read+_; omega,by show l.Read+_≤l.Used; omega,c,h.lm,h.w1,h.w2⟩
def vT (l:Lg):Int:=if min (l.Read+l.Window) 1099511627776-l.Limit<max 1 (l.Window / 2) then 0 else min (l.Read+l.Window) 1099511627776-l.Limit
def aAy (l:Lg):Lg:=⟨l.Window,l.Limit+vT l,l.Used,l.Read⟩
theorem zV {l:Lg} (h:vT l=0):aAy l=l:=by unfold aAy; rw [h,Int.add_zero]
theorem quo2 {w:Int} (h1:1≤w) (h2:w≤1048576):quoI .i64 w 2=some (w / 2):=by
 unfold quoI
 rw [if_neg (by decide),Int.tdiv_eq_ediv_of_nonneg (by omega),w64 (by omega) (by omega)]
theorem cgrant {l:Lg} (h:LO l):qK l=some (aAy l,vT l):=by
 have a:=h.r0; have b:=h.ru; have c:=h.ul; have d:=h.lm; have e:=h.w1; have f:=h.w2
 unfold qK
 rw [h.ck,bnoS,bndD,decide_eq_true rfl,Bool.not_true,bC,w64 (by omega) (by omega),bndD,bndD,w64 (by omega) (by omega),bndD,quo2 e f,bnoS,bndD,bndD]
 by_cases hm:min (l.Read+l.Window) 1099511627776-l.Limit<max 1 (l.Window / 2)
 · have hz:vT l=0:=if_pos hm
   rw [decide_eq_true hm,bH,zV hz,hz]
 · have hz:vT l=min (l.Read+l.Window) 1099511627776-l.Limit:=if_neg hm
   rw [decide_eq_false hm,bC,w64 (by omega) (by omega),bndD]
   unfold aAy
   rw [hz]
theorem rgrant {l:Lg} (h:LO l):lH l=some (aAy l,vT l):=by
 have a:=h.r0; have b:=h.ru; have c:=h.ul; have d:=h.lm; have e:=h.w1; have f:=h.w2
 unfold lH
 rw [h.rk,bnoS,bndD,decide_eq_true rfl,Bool.not_true,bC,w64 (by omega) (by omega),bndD,bndD,Int.min_comm,w64 (by omega) (by omega),bndD,bndD]
 by_cases h1:min (l.Read+l.Window) 1099511627776-l.Limit<1
 · have hz:vT l=0:=if_pos (by omega)
   rw [decide_eq_true h1,show (true == false)=false from rfl,gdff,bnoS,bndD,bndD,Bool.true_or,bH,zV hz,hz]
 · rw [decide_eq_false h1,show (false == false)=true from rfl,gdtt,quo2 e f,bnoS,bndD,bndD,Bool.false_or]
   by_cases hm:min (l.Read+l.Window) 1099511627776-l.Limit<l.Window / 2
   · have hz:vT l=0:=if_pos (by omega)
     rw [decide_eq_true hm,bH,zV hz,hz]
   · have hz:vT l=min (l.Read+l.Window) 1099511627776-l.Limit:=if_neg (by omega)
     rw [decide_eq_false hm,bC,w64 (by omega) (by omega),bndD]
     unfold aAy
     rw [hz]
theorem aF1 {l:Lg} (h:LO l):LO (aAy l)∧(l.Limit≤l.Read+l.Window→l.Limit+vT l≤l.Read+l.Window):=by
 have a:=h.r0; have b:=h.ru; have c:=h.ul; have d:=h.lm; have e:=h.w1; have f:=h.w2
 have hm:0≤vT l∧(vT l=0∨vT l=min (l.Read+l.Window) 1099511627776-l.Limit):=by
  unfold vT
  split
  · exact ⟨by omega,.inl rfl⟩
  · exact ⟨by omega,.inr rfl⟩
 refine ⟨⟨a,b,by show l.Used≤l.Limit+vT l; omega,by show l.Limit+vT l≤_; omega,e,f⟩,fun hl=>by omega⟩
def aFP (l:Lg) (n:Int):Lg:=⟨l.Window,l.Limit+n,l.Used,l.Read⟩
theorem cgiven {l:Lg} (h:LO l) {n:Int} (hn:n≤9223372036854775807):qL l n=some (if n<1∨1099511627776-l.Limit<n then (l,false) else (aFP l n,true)):=by
 have a:=h.r0; have b:=h.ru; have c:=h.ul; have d:=h.lm
 unfold qL
 rw [bndD]
 by_cases c1:n<1
 · rw [decide_eq_true c1,show (true == false)=false from rfl,gdff,bnoS,bndD,bndD,Bool.true_or,bndD,bndD,bndD,Bool.true_or,bH,if_pos (.inl c1)]
 · rw [decide_eq_false c1,show (false == false)=true from rfl,gdtt,h.ck,bnoS,bndD,decide_eq_true rfl,bndD,show (false || !true)=false from rfl,bndD,w64 (by omega) (by omega),bndD,bndD,Bool.false_or]
   by_cases c2:1099511627776-l.Limit<n
   · rw [decide_eq_true c2,bH,if_pos (.inr c2)]
   · rw [decide_eq_false c2,bC,w64 (by omega) (by omega),bndD,if_neg (by omega)]; rfl
theorem rgiven {l:Lg} (h:LO l) {n:Int} (hn:n≤9223372036854775807):lI l n=some (if n<1∨1099511627776-l.Limit<n then (l,false) else (aFP l n,true)):=by
 have a:=h.r0; have b:=h.ru; have c:=h.ul; have d:=h.lm
 unfold lI
 rw [h.rk,bnoS,bndD,decide_eq_true rfl,bndD,bndD,show (!true)=false from rfl,Bool.false_or,bndD,w64 (by omega) (by omega),bndD,bndD]
 by_cases c1:n<1∨1099511627776-l.Limit<n
 · have:(decide (n<1)||decide (1099511627776-l.Limit<n))=true:=by simpa using c1
   rw [this,bH,if_pos c1]
 · have:(decide (n<1)||decide (1099511627776-l.Limit<n))=false:=by simpa using c1
   rw [this,bC,w64 (by omega) (by omega),bndD,if_neg c1]; rfl
theorem aF2 {l:Lg} (h:LO l) {n:Int} (h0:1≤n) (h1:n≤1099511627776-l.Limit):LO (aFP l n) :=
 ⟨h.r0,h.ru,by have:=h.ul; show l.Used≤l.Limit+n; omega,by show l.Limit+n≤_; omega,h.w1,h.w2⟩
def hiS (s:R12):Int:=match s.Parts.getLast? with
 | none=>s.Base
 | some p=>pe p
theorem aFI {s:R12} (h:s.Parts=[]):hiS s=s.Base:=by unfold hiS; rw [h]; rfl
theorem aFJ {s:R12} {q:List Pt} {p:Pt} (h:s.Parts=q++[p]):hiS s=pe p:=by unfold hiS; rw [h,List.getLast?_concat]
theorem aBy {s:R12} (h:RX s):s.Base≤hiS s∧hiS s≤limS s:=by
 have d:=h.rm; have b:=h.bh
 have hli:limS s=min (s.Base-s.Ready.length+4096) 1099511627776:=rfl
 rcases List.eq_nil_or_concat s.Parts with e | ⟨q,p,e⟩
 · rw [aFI e]; omega
 · rw [List.concat_eq_append] at e
   have hp:p∈s.Parts:=by rw [e]; simp
   rw [aFJ e]
   have:=h.lm p hp
   have:=aBS h.cp p hp
   have:=qG this.2
   omega
theorem aBx {s:R12} (h:RX s) (e:Int):jS ⟨s,e⟩=some (hiS s)∧fU ⟨s,e⟩=some (hiS s):=by
 have hpl:=h.pl
 have hl:=aBy h
 have b:=h.bh; have b0:=h.b0
 have hli:limS s=min (s.Base-s.Ready.length+4096) 1099511627776:=rfl
 unfold jS fU
 rcases List.eq_nil_or_concat s.Parts with e | ⟨q,p,e⟩
 · simp only [e,List.length_nil,bndD]
   rw [aFI e]
   exact ⟨rfl,rfl⟩
 · rw [List.concat_eq_append] at e
   have hlen:(s.Parts.length:Int)=(q.length:Int)+1:=by rw [e,List.length_append,List.length_singleton]; rfl
   have hw:IntKind.wrap .i64 ((s.Parts.length:Int)-1)=(q.length:Int):=by rw [hlen,w64 (by omega) (by omega)]; omega
   have hg:gix s.Parts (q.length:Int)=some p:=by rw [e]; exact dP (p:=q) (r:=[]) rfl
   have hpe:p.At+(p.Data.length:Int)=hiS s:=(aFJ e).symm
   have hq:q.length≤5000:=by rw [e,List.length_append] at hpl; omega
   simp only [bndD,decide_eq_true (show (0:Int)<(s.Parts.length:Int) by omega),decide_eq_false (show ¬(s.Parts.length:Int)=0 by omega),bH,bC,hw,hg,bnoS,hpe,w64 (show -9223372036854775808≤hiS s by omega) (by omega)]
   exact ⟨trivial,trivial⟩
end Go.Fn
open Go Go.IL
namespace Go.Fn
theorem bm_hi:∀ {l:List Pt} {n:Int},(∀ p∈l,pe p≤n)→bm l n=none
 | [],_,_=>rfl
 | p::r,n,h=>by
   have:=h p (by simp)
   rw [jI (by omega)]
   exact bm_hi fun q hq=>h q (by simp [hq])
theorem or_ne {a b:Option UInt8} (h:b≠none):a.or b≠none:=by
 cases a with
 | none=>rw [Option.none_or]; exact h
 | some c=>intro hh; cases hh
theorem hi_bm {s:R12} (h:RX s):(∀ n,hiS s≤n→bm s.Parts n=none)∧(hiS s=s.Base∨bm s.Parts (hiS s-1)≠none):=by
 rcases List.eq_nil_or_concat s.Parts with e | ⟨q,p,e⟩
 · rw [e]
   exact ⟨fun _ _=>rfl,.inl (aFI e)⟩
 · rw [List.concat_eq_append] at e
   have hp:=aBS h.cp p (by rw [e]; simp)
   have hpp:=qG hp.2
   have hcp:=h.cp
   rw [e] at hcp
   have hq:∀ y∈q,pe y<p.At:=fun y hy=>by
    obtain ⟨a,c,rfl⟩:=List.append_of_mem hy
    have hcp:CP s.Base (a++y::(c++[p])):=by simpa using hcp
    exact aFY hcp p (by simp)
   rw [aFJ e,e]
   refine ⟨fun n hn=>?_,.inr ?_⟩
   · refine bm_hi fun y hy=>?_
     rcases List.mem_append.1 hy with hy | hy
     · have:=hq y hy; omega
     · rcases List.mem_cons.1 hy with rfl | hy
       · exact hn
       · cases hy
   · rw [aCr]
     refine or_ne ?_
     rw [nU (by omega)]
     exact nN (by omega)
theorem ov_hi {s0 s:R12} {M:Int→Option UInt8} (h:Ov s0 s M):(∀ n,hiS s≤n→M n=none)∧(hiS s=s0.Base∨M (hiS s-1)≠none):=by
 obtain ⟨g1,g2⟩:=hi_bm h.rx
 have hl:=(aBy h.rx).1
 have hle:=h.le
 refine ⟨fun n hn=>by rw [←h.pm n (by omega)]; exact g1 n hn,?_⟩
 by_cases c:hiS s=s.Base
 · by_cases d:s.Base=s0.Base
   · exact .inl (c.trans d)
   · obtain ⟨D,d1,d2,d3⟩:=h.rd
     refine .inr ?_
     rw [c,←d3 _ (by omega) (by omega),Ne,List.getElem?_eq_none_iff]; omega
 · refine .inr ?_
   rw [←h.pm _ (by omega)]
   exact g2.resolve_left c
theorem hi_put {s:R12} (h:RX s) {a:Int} {str:List UInt8} (h2:a+(str.length:Int)≤limS s):hiS (putR s a str)=if str=[] then hiS s else max (hiS s) (a+(str.length:Int)):=by
 have ho:=aCy h h2
 obtain ⟨g1,g2⟩:=ov_hi ho
 obtain ⟨b1,b2⟩:=hi_bm h
 have hl:=aBy h
 have hl2:=(aBy ho.rx).1
 have hle:=ho.le
 have hx:pe (⟨a,str⟩:Pt)=a+(str.length:Int):=rfl
 generalize hT:(if str=[] then hiS s else max (hiS s) (a+(str.length:Int)))=T
 have t0:hiS s≤T:=by
  rw [←hT]; split
  · exact Int.le_refl _
  · omega
 have t1:∀ n,T≤n→ovM s ⟨a,str⟩ n=none:=fun n hn=>by
  unfold ovM
  rw [b1 n (by omega),Option.none_or]
  refine jI ?_
  rw [hx]
  by_cases c:str=[]
  · subst c; simp
  · rw [if_neg c] at hT; omega
 have t2:T=s.Base∨ovM s ⟨a,str⟩ (T-1)≠none:=by
  by_cases c:str=[]
  · rw [if_pos c] at hT
    rw [←hT]
    rcases b2 with b2 | b2
    · exact .inl b2
    · refine .inr ?_
      unfold ovM
      rw [yL b2]; exact b2
  · rw [if_neg c] at hT
    have:=List.length_pos_iff.2 c
    by_cases d:hiS s<a+(str.length:Int)
    · refine .inr ?_
      unfold ovM
      refine or_ne ?_
      rw [nU (by rw [hx]; show a≤T-1∧_; omega)]
      exact nN (by rw [hx]; show a≤T-1∧_; omega)
    · rw [←hT,Int.max_eq_left (by omega)]
      rcases b2 with b2 | b2
      · exact .inl b2
      · refine .inr ?_
        unfold ovM
        rw [yL b2]; exact b2
 rcases Int.lt_trichotomy (hiS (putR s a str)) T with c | c | c
 · have t2:=t2.resolve_left (by omega)
   exact absurd (g1 (T-1) (by omega)) t2
 · exact c
 · have g2:=g2.resolve_left (by omega)
   exact absurd (t1 (hiS (putR s a str)-1) (by omega)) g2
structure SX (st:St25):Prop where
 id:0≤st.ID∧st.ID≤1048576
 mi : -1≤st.Mine∧st.Mine≤255
 he : -1≤st.Hers∧st.Hers≤255
 oo:LO st.Out
 io:LO st.In
 iw:st.In.Window≤4096
 g:G st.Send
 rx:RX st.Recv.Recv
 en:st.Recv.End = -1∨(hiS st.Recv.Recv≤st.Recv.End∧st.Recv.End≤1099511627776)
 ou:st.Out.Used=st.Send.Next
 iu:st.In.Used=max st.Recv.End (hiS st.Recv.Recv)
 ir:st.In.Read=st.Recv.Recv.Base-st.Recv.Recv.Ready.length
 il:st.In.Limit≤st.In.Read+st.In.Window
theorem aAU {r:R12} {E:Int} (h:RX r) (en:E = -1∨(hiS r≤E∧E≤1099511627776)):oY ⟨r,E⟩=some 0∧fZ ⟨r,E⟩=some 0:=by
 obtain ⟨e1,e2⟩:=aBx h E
 have e3:qE ⟨r,E⟩=some (hiS r):=by
  unfold qE pF
  rw [bnoS,e1,bnoS]
 unfold oY fZ
 rw [aEU h,aBe h]
 simp only [bnoS,bndD,decide_true,Bool.not_true,bC]
 rcases en with e | ⟨c1,c2⟩
 · rw [decide_eq_true e]
   simp only [Bool.not_true,ft,gdff,bnoS,Bool.false_and,bC]
   exact ⟨trivial,trivial⟩
 · have hb:=(aBy h).1
   have b0:=h.b0
   rw [decide_eq_false (show ¬E = -1 by omega)]
   simp only [Bool.not_false,beq_self_eq_true,gdtt,e2,e3,bnoS,decide_eq_false (show ¬E<hiS r by omega),decide_eq_false (show ¬1099511627776<E by omega),Bool.or_self,Bool.and_false,bC]
   exact ⟨trivial,trivial⟩
theorem SX.hb {st:St25} (h:SX st):0≤hiS st.Recv.Recv:=by
 have:=(aBy h.rx).1
 have:=h.rx.b0
 omega
theorem SX.ck {st:St25} (h:SX st):nR st=some 0:=by
 obtain ⟨c1,_⟩:=aAU h.rx h.en
 have c1:oY st.Recv=some 0:=c1
 obtain ⟨e1,_⟩:=aBx h.rx st.Recv.End
 have e3:qE st.Recv=some (hiS st.Recv.Recv):=by
  unfold qE pF
  rw [bnoS,e1,bnoS]
 have a1:=h.id; have a2:=h.mi; have a3:=h.he; have a4:=h.iw
 have b1:=h.rx.rl; have b2:=h.rx.bh; have b3:=h.rx.b0; have b4:=h.ir; have b5:=h.il; have b6:=h.io.r0; have b7:=h.io.w1
 unfold nR qZ nY nZ
 simp only [bndD,bnoS,decide_eq_true a1.1,decide_eq_true a1.2,decide_eq_true a2.1,decide_eq_true a2.2,decide_eq_true a3.1,decide_eq_true a3.2,Bool.and_self,Bool.not_true,beq_self_eq_true,gdtt,Bool.or_self,decide_eq_false (show ¬4096<st.In.Window by omega),bC,h.oo.ck,h.io.ck,vB h.g,c1,decide_true,e3,decide_eq_true h.ou,decide_eq_true h.iu,←h.ir,w64 (show -9223372036854775808≤st.In.Read by omega) (by omega),w64 (show -9223372036854775808≤st.In.Read+st.In.Window by omega) (by omega),decide_eq_true h.il]
theorem SX.rk {st:St25} (h:SX st):fY st=some 0:=by
 obtain ⟨_,c1⟩:=aAU h.rx h.en
 have c1:fZ st.Recv=some 0:=c1
 obtain ⟨_,e3⟩:=aBx h.rx st.Recv.End
 have e3:fU st.Recv=some (hiS st.Recv.Recv):=e3
 have a1:=h.id; have a2:=h.mi; have a3:=h.he; have a4:=h.iw
 have b1:=h.rx.rl; have b2:=h.rx.bh; have b3:=h.rx.b0; have b4:=h.ir; have b5:=h.il; have b6:=h.io.r0; have b7:=h.io.w1
 have hb:=h.hb
 have hJ:eM st (max st.Recv.End (hiS st.Recv.Recv))=some 0:=by
  unfold eM
  simp only [bndD,decide_eq_true h.ou,decide_eq_true h.iu,Bool.not_true,Bool.or_self,w64 (show -9223372036854775808≤st.Recv.Recv.Base-(st.Recv.Recv.Ready.length:Int) by omega) (by omega),decide_eq_true h.ir,w64 (show -9223372036854775808≤st.In.Read+st.In.Window by omega) (by omega),decide_eq_false (show ¬st.In.Read+st.In.Window<st.In.Limit by omega),bC]
 have hend:(bnd (decide (st.Recv.End<0)) fun x55=>bif x55 then (bno (fU st.Recv) fun x57=>eM st x57) else eM st st.Recv.End)=some 0:=by
  rw [bndD]
  by_cases c:st.Recv.End<0
  · rw [decide_eq_true c,bH,e3,bnoS,←hJ,Int.max_eq_right (by omega)]
  · rw [decide_eq_false c,bC,←hJ,Int.max_eq_left]
    rcases h.en with e | e
    · omega
    · exact e.1
 have hL:dL st 0 0 0 0 fuel 0=some 0:=by
  obtain ⟨f,hf⟩:∃ f,fuel=f+1+1+1+1+1:=⟨fuel-5,by have:=dN (n:=9) (by decide); omega⟩
  rw [hf]
  rw [dL,bndD,show decide ((0:Int)<(([0,0,0,0]:List Int).length:Int))=true from rfl,bH,show gix ([0,0,0,0]:List Int) 0=some 0 from rfl,bnoS,bndD,decide_eq_true rfl,Bool.not_true,bC,show IntKind.wrap .i64 (0+1)=1 from w64 (by decide) (by decide),bndD]
  rw [dL,bndD,show decide ((1:Int)<(([0,0,0,0]:List Int).length:Int))=true from rfl,bH,show gix ([0,0,0,0]:List Int) 1=some 0 from rfl,bnoS,bndD,decide_eq_true rfl,Bool.not_true,bC,show IntKind.wrap .i64 (1+1)=2 from w64 (by decide) (by decide),bndD]
  rw [dL,bndD,show decide ((2:Int)<(([0,0,0,0]:List Int).length:Int))=true from rfl,bH,show gix ([0,0,0,0]:List Int) 2=some 0 from rfl,bnoS,bndD,decide_eq_true rfl,Bool.not_true,bC,show IntKind.wrap .i64 (2+1)=3 from w64 (by decide) (by decide),bndD]
  rw [dL,bndD,show decide ((3:Int)<(([0,0,0,0]:List Int).length:Int))=true from rfl,bH,show gix ([0,0,0,0]:List Int) 3=some 0 from rfl,bnoS,bndD,decide_eq_true rfl,Bool.not_true,bC,show IntKind.wrap .i64 (3+1)=4 from w64 (by decide) (by decide),bndD]
  rw [dL,bndD,show decide ((4:Int)<(([0,0,0,0]:List Int).length:Int))=false from rfl,bC]
  exact hend
 unfold fY
 simp only [bndD,bnoS,decide_eq_false (show ¬st.ID<0 by omega),decide_eq_false (show ¬1048576<st.ID by omega),decide_eq_false (show ¬st.Mine < -1 by omega),decide_eq_false (show ¬255<st.Mine by omega),decide_eq_false (show ¬st.Hers < -1 by omega),decide_eq_false (show ¬255<st.Hers by omega),decide_eq_false (show ¬4096<st.In.Window by omega),Bool.or_self,bC,h.oo.rk,h.io.rk,rS h.g,c1]
 exact hL
theorem SX.may {st:St25} (h:SX st):eK st=some (if qO st=true then 15 else 0)∧dZ st=some (if qO st=true then 15 else 0):=by
 unfold eK dZ mR kX
 rw [h.ck,h.rk]
 simp only [bnoS,bndD,decide_true,Bool.not_true,bC,beq_self_eq_true,gdtt,Bool.true_and]
 have e:(!decide (st.Mine = -1) || !decide (st.Hers = -1))=qO st:=rfl
 rw [e]
 cases qO st <;> exact ⟨rfl,rfl⟩
end Go.Fn
open Go Go.IL
namespace Go.Fn
section
variable {st:St25}
theorem x_write (h:SX st) (str:List UInt8) (hs:str.length≤100000):∃ x,qU st str=some x∧kU st str=some x∧SX x.1:=by
 obtain ⟨m1,m2⟩:=h.may
 unfold qU kU kT
 rw [m1,m2]
 cases hc:qO st with
 | true =>
   refine ⟨(st,0,15),?_,?_,h⟩
   · simp only [if_true,bnoS,bndD,show decide ((15:Int)=0)=false from rfl,Bool.not_false,bH]
   · simp only [if_true,bnoS,bndD,show decide ((15:Int)=0)=false from rfl,Bool.not_false,bH]
 | false =>
   simp only [Bool.false_eq_true,if_false,bnoS,bndD,decide_true,Bool.not_true,bC]
   cases hcl:st.Send.Closed with
   | true=>exact ⟨(st,0,9),by simp only [bH,bnoS,bndD,show decide ((9:Int)=0)=false from rfl,Bool.not_false],by rw [bH],h⟩
   | false =>
     refine ⟨(⟨st.ID,zY st.Send str,st.Recv,st.Out,st.In,st.Mine,st.Hers⟩,(writeN st.Send str:Int),0),?_,?_,?_⟩
     · simp only [bC,bnoS,bndD,decide_true,Bool.not_true,write23 h.g str hs]
     · simp only [bC,bnoS,aFo h.g str hs]
     · exact ⟨h.id,h.mi,h.he,h.oo,h.io,h.iw,g_write h.g str,h.rx,h.en,h.ou,h.iu,h.ir,h.il⟩
theorem x_close (h:SX st):∃ x,sK st=some x∧kY st=some x∧SX x.1:=by
 obtain ⟨m1,m2⟩:=h.may
 unfold sK kY kT
 rw [m1,m2]
 cases hc:qO st with
 | true =>
   refine ⟨(st,15),?_,?_,h⟩
   · simp only [if_true,bnoS,bndD,show decide ((15:Int)=0)=false from rfl,Bool.not_false,bH]
   · simp only [if_true,bnoS,bndD,show decide ((15:Int)=0)=false from rfl,Bool.not_false,bH]
 | false =>
   simp only [Bool.false_eq_true,if_false,bnoS,bndD,decide_true,Bool.not_true,bC]
   cases hcl:st.Send.Closed with
   | true=>exact ⟨(st,9),by simp only [bH,bnoS,bndD,show decide ((9:Int)=0)=false from rfl,Bool.not_false],by rw [bH],h⟩
   | false =>
     refine ⟨(⟨st.ID,aBT st.Send,st.Recv,st.Out,st.In,st.Mine,st.Hers⟩,0),?_,?_,?_⟩
     · simp only [bC,bnoS,bndD,decide_true,Bool.not_true,close23 h.g]
     · simp only [bC,bnoS,aFt h.g]
     · exact ⟨h.id,h.mi,h.he,h.oo,h.io,h.iw,g_close h.g,h.rx,h.en,h.ou,h.iu,h.ir,h.il⟩
def aCm (r:R12) (E:Int):Bool:=decide (r.Ready=[])&&(decide (0≤E)&&decide (r.Base=E))
theorem aEW {r:R12} {E:Int} (h:RX r) (en:E = -1∨(hiS r≤E∧E≤1099511627776)):pS ⟨r,E⟩=some (aCm r E)∧gT ⟨r,E⟩=some (aCm r E):=by
 obtain ⟨c1,c2⟩:=aAU h en
 have hW:sR ⟨r,E⟩=some (decide (0≤E)&&decide (r.Base=E)):=by
  unfold sR pF iY
  simp only [bnoS,bndD]
  cases hb:(decide (0≤E)&&decide (r.Base=E))
  · simp only [ft,gdff,bnoS,Bool.false_and]
  · simp only [beq_self_eq_true,gdtt,c1,bnoS,decide_true,Bool.and_self]
 have hR:lA ⟨r,E⟩=some (decide (0≤E)&&decide (r.Base=E)):=by
  unfold lA
  simp only [c2,bnoS,bndD,decide_true,Bool.true_and]
 unfold pS gT aCm
 simp only [hW,hR,bnoS,bndD]
 refine ⟨?_,by rw [Bool.and_comm]⟩
 cases decide (r.Ready=[])
 · simp only [ft,gdff,bnoS,Bool.false_and]
 · simp only [beq_self_eq_true,gdtt,bnoS,Bool.true_and]
theorem aFq (s:R12) (n:Int):uN s n≤s.Ready.length:=by unfold uN; split <;> omega
theorem x_read (h:SX st) (n:Int):∃ x,rC st n=some x∧mE st n=some x∧SX x.1:=by
 obtain ⟨m1,m2⟩:=h.may
 unfold rC mE
 rw [m1,m2]
 cases hc:qO st with
 | true =>
   refine ⟨(st,[],false,15),?_,?_,h⟩
   · simp only [if_true,bnoS,bndD,show decide ((15:Int)=0)=false from rfl,Bool.not_false,bH]
   · simp only [if_true,bnoS,bndD,show decide ((15:Int)=0)=false from rfl,Bool.not_false,bH]
 | false =>
   have hr:=rx_read h.rx n
   have hk:=aFq st.Recv.Recv n
   have en':st.Recv.End = -1∨(hiS (aD7 st.Recv.Recv n)≤st.Recv.End∧st.Recv.End≤1099511627776):=h.en
   obtain ⟨e1,e2⟩:=aEW hr en'
   have hl:(st.Recv.Recv.Ready.take (uN st.Recv.Recv n)).length=uN st.Recv.Recv n:=by rw [List.length_take]; omega
   simp only [Bool.false_eq_true,if_false,bnoS,bndD,decide_true,Bool.not_true,bC]
   unfold xI oA
   simp only [xread h.rx n,rread12 h.rx n,bnoS,e1,e2,ceat h.io (show (0:Int)≤((st.Recv.Recv.Ready.take (uN st.Recv.Recv n)).length:Int) by omega),reat h.io (show (0:Int)≤((st.Recv.Recv.Ready.take (uN st.Recv.Recv n)).length:Int) by omega)]
   refine ⟨_,rfl,rfl,?_⟩
   have hb:=aBy h.rx
   have hd:=h.rx.rl
   have hiu:=h.iu; have hir:=h.ir; have hil:=h.il
   refine ⟨h.id,h.mi,h.he,h.oo,lo_eat h.io _,h.iw,h.g,hr,en',h.ou,h.iu,?_,?_⟩
   · show st.In.Read+max 0 (min (((st.Recv.Recv.Ready.take (uN st.Recv.Recv n)).length:Nat):Int) (st.In.Used-st.In.Read))=st.Recv.Recv.Base-((st.Recv.Recv.Ready.drop (uN st.Recv.Recv n)).length:Int)
     rw [hl,List.length_drop]
     omega
   · show st.In.Limit≤st.In.Read+max 0 (min (((st.Recv.Recv.Ready.take (uN st.Recv.Recv n)).length:Nat):Int) (st.In.Used-st.In.Read))+st.In.Window
     omega
theorem x_grant (h:SX st):∃ x,pP st=some x∧kW st=some x∧SX x.1:=by
 obtain ⟨m1,m2⟩:=h.may
 unfold pP iA kW pY oU
 rw [m1,m2]
 cases hc:qO st with
 | true =>
   refine ⟨(st,0),?_,?_,h⟩
   · simp only [if_true,bnoS,bndD,show decide ((15:Int)=0)=false from rfl,bC]
   · simp only [if_true,bnoS,bndD,show decide ((15:Int)=0)=false from rfl,Bool.not_false,Bool.true_or,bH]
 | false =>
   simp only [Bool.false_eq_true,if_false,bnoS,bndD,decide_true,Bool.not_true,Bool.false_or,bH]
   by_cases hE:0≤st.Recv.End
   · rw [decide_eq_true hE]
     exact ⟨(st,0),rfl,rfl,h⟩
   · rw [decide_eq_false hE]
     simp only [bC,bnoS,bndD,decide_true,bH,cgrant h.io,rgrant h.io]
     obtain ⟨l1,l2⟩:=aF1 h.io
     exact ⟨_,rfl,rfl,⟨h.id,h.mi,h.he,h.oo,l1,h.iw,h.g,h.rx,h.en,h.ou,h.iu,h.ir,l2 h.il⟩⟩
theorem aFj (h:SX st) {n:Int} (hn:n≤9223372036854775807):∃ x,nQ st n=some x∧iR st n=some x∧SX x.1∧(x.2=0∨x.2=3):=by
 obtain ⟨m1,m2⟩:=h.may
 unfold nQ gI iR nP
 rw [m1,m2]
 cases hc:qO st with
 | true =>
   refine ⟨(st,0),?_,?_,h,.inl rfl⟩
   · simp only [if_true,bnoS,bndD,show decide ((15:Int)=0)=false from rfl,bC]
   · simp only [if_true,bnoS,bndD,show decide ((15:Int)=0)=false from rfl,Bool.not_false,bH]
 | false =>
   simp only [Bool.false_eq_true,if_false,bnoS,bndD,decide_true,Bool.not_true,bC,bH,cgiven h.oo hn,rgiven h.oo hn]
   by_cases c:n<1∨1099511627776-st.Out.Limit<n
   · rw [if_pos c]
     exact ⟨(st,3),rfl,rfl,h,.inr rfl⟩
   · rw [if_neg c]
     exact ⟨_,rfl,rfl,⟨h.id,h.mi,h.he,aF2 h.oo (by omega) (by omega),h.io,h.iw,h.g,h.rx,h.en,h.ou,h.iu,h.ir,h.il⟩,.inl rfl⟩
theorem x_came (h:SX st) (n:Int) (fin:Bool):∃ x,rE st n fin=some x∧jV st n fin=some x∧SX x:=by
 obtain ⟨m1,m2⟩:=h.may
 unfold rE gR jV pC
 rw [m1,m2]
 cases hc:qO st with
 | true =>
   refine ⟨st,?_,?_,h⟩
   · simp only [if_true,bnoS,bndD,show decide ((15:Int)=0)=false from rfl,bC]
   · simp only [if_true,bnoS,bndD,show decide ((15:Int)=0)=false from rfl,bC]
 | false =>
   simp only [Bool.false_eq_true,if_false,bnoS,bndD,decide_true,bH,came23 h.g,rcame23 h.g]
   refine ⟨_,rfl,rfl,?_⟩
   by_cases c:tG st.Send n fin
   · rw [if_pos c]
     exact ⟨h.id,h.mi,h.he,h.oo,h.io,h.iw,g_came h.g c,h.rx,h.en,h.ou,h.iu,h.ir,h.il⟩
   · rw [if_neg c]; exact h
theorem aEV (h:SX st) (n:Int):∃ x,oT st n=some x∧jD st n=some x∧SX x:=by
 unfold oT jD sH qZ
 simp only [h.ck,h.rk,bnoS,bndD,decide_true,Bool.true_and]
 by_cases c1:st.Hers = -1
 · simp only [decide_eq_true c1,beq_self_eq_true,gdtt,bnoS,Bool.true_and]
   by_cases c2:0≤n∧n≤255
   · simp only [decide_eq_true c2.1,decide_eq_true c2.2,Bool.and_self,beq_self_eq_true,gdtt,bnoS,decide_true,bH]
     exact ⟨_,rfl,rfl,⟨h.id,h.mi,⟨by show -1≤n; omega,c2.2⟩,h.oo,h.io,h.iw,h.g,h.rx,h.en,h.ou,h.iu,h.ir,h.il⟩⟩
   · have:(decide (0≤n)&&decide (n≤255))=false:=by
      rw [Bool.eq_false_iff]; intro hh
      rw [Bool.and_eq_true,decide_eq_true_iff,decide_eq_true_iff] at hh
      exact c2 hh
     simp only [this,ft,gdff,bnoS,Bool.false_and,bC]
     exact ⟨st,rfl,rfl,h⟩
 · simp only [decide_eq_false c1,ft,gdff,bnoS,Bool.false_and,bC]
   exact ⟨st,rfl,rfl,h⟩
theorem x_reset (h:SX st) (n:Int):∃ x,sI st n=some x∧kV st n=some x∧SX x:=by
 obtain ⟨m1,m2⟩:=h.may
 unfold sI hG kV pX sH qZ
 rw [m1,m2]
 cases hc:qO st with
 | true =>
   refine ⟨st,?_,?_,h⟩
   · simp only [if_true,bnoS,bndD,show decide ((15:Int)=0)=false from rfl,bC]
   · simp only [if_true,bnoS,bndD,show decide ((15:Int)=0)=false from rfl,Bool.false_and,bC]
 | false =>
   simp only [Bool.false_eq_true,if_false,bnoS,bndD,decide_true,bH,Bool.true_and]
   by_cases c2:0≤n∧n≤255
   · simp only [decide_eq_true c2.1,decide_eq_true c2.2,Bool.and_self,bH,bnoS]
     exact ⟨_,rfl,rfl,⟨h.id,⟨by show -1≤n; omega,c2.2⟩,h.he,h.oo,h.io,h.iw,h.g,h.rx,h.en,h.ou,h.iu,h.ir,h.il⟩⟩
   · have:(decide (0≤n)&&decide (n≤255))=false:=by
      rw [Bool.eq_false_iff]; intro hh
      rw [Bool.and_eq_true,decide_eq_true_iff,decide_eq_true_iff] at hh
      exact c2 hh
     simp only [this,bC,bnoS]
     exact ⟨st,rfl,rfl,h⟩
theorem x_dead (h:SX st) (n:Int):∃ x,uF st n=some x∧mG st n=some x∧SX x:=by
 obtain ⟨L,d1,d2⟩:=dead23 h.g n
 unfold uF mG
 simp only [h.ck,h.rk,bnoS,bndD,decide_true,bH,d2,rdead23 h.g n d1]
 exact ⟨_,rfl,rfl,⟨h.id,h.mi,h.he,h.oo,h.io,h.iw,g_dead h.g d1,h.rx,h.en,h.ou,h.iu,h.ir,h.il⟩⟩
end
end Go.Fn
open Go Go.IL
namespace Go.Fn
section
variable {st:St25}
def aCD (r:R12) (E to:Int) (fin:Bool):Bool:=if 0≤E then (decide (E<to)||(fin&&decide (to<E))) else (fin&&decide (to<hiS r))
theorem x_put {r:R12} {E:Int} (h:RX r) (en:E = -1∨(hiS r≤E∧E≤1099511627776)) {a:Int} {str:List UInt8} {fin:Bool} (h0:0≤a) (h2:a+(str.length:Int)≤limS r) :
 ∃ n m,vG ⟨r,E⟩ a str fin=some (if aCD r E (a+str.length) fin=true then (⟨r,E⟩,0,5) else (⟨putR r a str,if fin=true then a+str.length else E⟩,n,0))∧lB ⟨r,E⟩ a str fin=some (if aCD r E (a+str.length) fin=true then (⟨r,E⟩,0,5) else (⟨putR r a str,if fin=true then a+str.length else E⟩,m,0)):=by
 obtain ⟨c1,c2⟩:=aAU h en
 obtain ⟨e1,e2⟩:=aBx h E
 obtain ⟨n,hn⟩:=xput h (str:=str) h0 h2
 obtain ⟨m,hm⟩:=rput12 h (str:=str) h0 h2
 have hb:=aBy h
 have b0:=h.b0
 have hli:=zR r
 refine ⟨n,m,?_,?_⟩
 · unfold vG pF
   simp only [bndD,decide_eq_false (show ¬a<0 by omega),w64 (show -9223372036854775808≤1099511627776-(str.length:Int) by omega) (by omega),decide_eq_false (show ¬1099511627776-(str.length:Int)<a by omega),Bool.or_self,beq_self_eq_true,gdtt,c1,bnoS,decide_true,Bool.not_true,bC,w64 (show -9223372036854775808≤a+(str.length:Int) by omega) (by omega)]
   have hcl:kF ⟨r,E⟩ (a+(str.length:Int)) fin=some (aCD r E (a+str.length) fin):=by
    unfold kF iY aCD
    simp only [bndD,bnoS]
    by_cases c:0≤E
    · rw [decide_eq_true c,bH,if_pos c]
    · rw [decide_eq_false c,bC,if_neg c]
      cases fin
      · rfl
      · simp only [beq_self_eq_true,gdtt,e1,bnoS]
   rw [hcl,bnoS]
   cases aCD r E (a+str.length) fin with
   | true=>rw [bH]; rfl
   | false =>
     rw [bC,hn,bnoS]
     cases fin <;> rfl
 · unfold lB
   simp only [c2,bnoS,bndD,decide_true,Bool.not_true,decide_eq_false (show ¬a<0 by omega),w64 (show -9223372036854775808≤1099511627776-(str.length:Int) by omega) (by omega),decide_eq_false (show ¬1099511627776-(str.length:Int)<a by omega),Bool.or_self,bC,w64 (show -9223372036854775808≤a+(str.length:Int) by omega) (by omega)]
   have hJ:∀ b:Bool,b=false→(bif b then (some ((⟨r,E⟩:bE),(0:Int),(5:Int))) else bno (lK r a str) fun x21=>bif fin then iM x21 (a+str.length) else iM x21 E)=some (⟨putR r a str,if fin=true then a+str.length else E⟩,m,0):=fun b hb=>by
    rw [hb,bC,hm,bnoS]
    cases fin <;> rfl
   unfold aCD
   by_cases c:0≤E
   · rw [decide_eq_true c,Bool.true_and,if_pos c]
     have hE:hiS r≤E:=by
      rcases en with e | e
      · omega
      · exact e.1
     by_cases d:E<a+(str.length:Int)
     · rw [decide_eq_true d,Bool.true_or,bH,Bool.true_or,if_pos rfl]
     · rw [decide_eq_false d,Bool.false_or,Bool.false_or]
       have e:(fin && !decide (a+(str.length:Int)=E))=(fin&&decide (a+(str.length:Int)<E)):=by
        by_cases f:a+(str.length:Int)=E
        · rw [decide_eq_true f,decide_eq_false (show ¬a+(str.length:Int)<E by omega)]; rfl
        · rw [decide_eq_false f,decide_eq_true (show a+(str.length:Int)<E by omega)]; rfl
       rw [e]
       cases hf:(fin&&decide (a+(str.length:Int)<E)) with
       | true=>rw [bH,if_pos rfl]
       | false =>
         rw [bC,if_neg Bool.false_ne_true]
         cases fin with
         | false=>simp only [ft,gdff,bnoS,Bool.false_and]; exact hJ false rfl
         | true =>
           rw [Bool.true_and,decide_eq_false_iff_not] at hf
           simp only [beq_self_eq_true,gdtt,e2,bnoS,Bool.true_and,decide_eq_false (show ¬a+(str.length:Int)<hiS r by omega)]
           exact hJ false rfl
   · rw [decide_eq_false c,Bool.false_and,bC,if_neg c]
     cases fin with
     | false=>simp only [ft,gdff,bnoS,Bool.false_and]; exact hJ false rfl
     | true =>
       simp only [beq_self_eq_true,gdtt,e2,bnoS,Bool.true_and]
       by_cases d:a+(str.length:Int)<hiS r
       · rw [decide_eq_true d,bH,if_pos rfl]
       · rw [decide_eq_false d,if_neg Bool.false_ne_true]; exact hJ false rfl
theorem x_data (h:SX st) {a:Int} {str:List UInt8} {fin:Bool} (ha : -9223372036854775808≤a∧a≤9223372036854775807) (hs:str.length≤1000):∃ x,oL st a str fin=some x∧jU st a str fin=some x∧SX x.1∧0≤x.2.2∧x.2.2≤255:=by
 obtain ⟨m1,m2⟩:=h.may
 unfold oL jU qZ
 rw [m1,m2]
 cases hc:qO st with
 | true =>
   refine ⟨(st,0,0),?_,?_,h,by simp,by simp⟩
   · simp only [if_true,bnoS,bndD,show decide ((15:Int)=0)=false from rfl,Bool.not_false,Bool.true_or,bH]
   · simp only [if_true,bnoS,bndD,show decide ((15:Int)=0)=false from rfl,Bool.not_false,Bool.true_or,bH]
 | false =>
   simp only [Bool.false_eq_true,if_false,bnoS,bndD,decide_true,Bool.not_true,Bool.false_or]
   cases hn:(decide (str=[]) && !fin) with
   | true=>exact ⟨(st,0,0),rfl,rfl,h,by simp,by simp⟩
   | false =>
     simp only [bC]
     by_cases c:0≤a∧a≤1099511627776
     · simp only [decide_eq_true c.1,decide_eq_true c.2,Bool.and_self,Bool.not_true,bC,decide_eq_false (show ¬a<0 by omega),decide_eq_false (show ¬1099511627776<a by omega),Bool.or_self,w64 (show -9223372036854775808≤a+(str.length:Int) by omega) (by omega),creach h.io (show a+(str.length:Int)≤9223372036854775807 by omega),rreach h.io (show a+(str.length:Int)≤9223372036854775807 by omega),bnoS]
       by_cases d:a+(str.length:Int)<0∨st.In.Limit<a+(str.length:Int)
       · rw [if_pos d]
         exact ⟨(st,0,3),rfl,rfl,h,by simp,by simp⟩
       · rw [if_neg d]
         have hlm:=h.io.lm; have hil:=h.il; have hir:=h.ir; have hiw:=h.iw
         have hlow:limS st.Recv.Recv=min (st.Recv.Recv.Base-(st.Recv.Recv.Ready.length:Int)+4096) 1099511627776:=rfl
         have hfit:a+(str.length:Int)≤limS st.Recv.Recv:=by omega
         obtain ⟨n,m,p1,p2⟩:=x_put (fin:=fin) h.rx h.en c.1 hfit
         have p1:vG st.Recv a str fin=_:=p1
         have p2:lB st.Recv a str fin=_:=p2
         simp only [Bool.not_true,bC,p1,p2,bnoS]
         cases hsh:aCD st.Recv.Recv st.Recv.End (a+str.length) fin with
         | true=>exact ⟨(st,0,5),rfl,rfl,h,by simp,by simp⟩
         | false =>
           refine ⟨_,rfl,rfl,?_,by show (0:Int)≤0; decide,by show (0:Int)≤255; decide⟩
           have ho:=aCy h.rx hfit
           have hh:=hi_put h.rx hfit
           have hbb:=aBy h.rx
           have b0:=h.rx.b0
           have hiu:=h.iu
           have hlow2:=ho.low
           unfold lowS at hlow2
           have hrl:=ho.rx.rl
           unfold aCD at hsh
           have hne:fin=false→str≠[]:=fun hf hs=>by rw [hf,hs] at hn; cases hn
           show SX ⟨st.ID,st.Send,⟨putR st.Recv.Recv a str,if fin=true then a+str.length else st.Recv.End⟩,st.Out,aDb st.In (a+str.length),st.Mine,st.Hers⟩
           have key:((if fin=true then a+(str.length:Int) else st.Recv.End) = -1∨(hiS (putR st.Recv.Recv a str)≤(if fin=true then a+(str.length:Int) else st.Recv.End)∧(if fin=true then a+(str.length:Int) else st.Recv.End)≤1099511627776))∧max st.In.Used (a+(str.length:Int))=max (if fin=true then a+(str.length:Int) else st.Recv.End) (hiS (putR st.Recv.Recv a str)):=by
            rw [hh]
            cases fin with
            | true =>
              simp only [if_true]
              have hT:hiS st.Recv.Recv≤a+(str.length:Int)∧st.Recv.End≤a+(str.length:Int):=by
               by_cases c:0≤st.Recv.End
               · rw [if_pos c] at hsh
                 simp at hsh
                 have:=h.en
                 omega
               · rw [if_neg c] at hsh
                 simp at hsh
                 omega
              split <;> exact ⟨.inr ⟨by omega,by omega⟩,by omega⟩
            | false =>
              simp only [Bool.false_eq_true,if_false,if_neg (hne rfl)]
              have hE:=h.en
              refine ⟨?_,by omega⟩
              rcases hE with e | ⟨e1,e2⟩
              · exact .inl e
              · refine .inr ⟨?_,e2⟩
                rw [if_pos (show 0≤st.Recv.End by omega)] at hsh
                simp at hsh
                omega
           exact ⟨h.id,h.mi,h.he,h.oo,aF0 h.io (by omega),h.iw,h.g,ho.rx,key.1,h.ou,key.2,by show st.In.Read=(putR st.Recv.Recv a str).Base-((putR st.Recv.Recv a str).Ready.length:Int); omega,h.il⟩
     · have hb1:(decide (0≤a)&&decide (a≤1099511627776))=false:=by
        rw [Bool.eq_false_iff]; intro hh
        rw [Bool.and_eq_true,decide_eq_true_iff,decide_eq_true_iff] at hh
        exact c hh
       have hb2:(decide (a<0)||decide (1099511627776<a))=true:=by
        rw [Bool.or_eq_true,decide_eq_true_iff,decide_eq_true_iff]; omega
       rw [hb1,hb2]
       exact ⟨(st,0,3),rfl,rfl,h,by simp,by simp⟩
theorem aDe {s:S23} (h:G s) {by_ most limit:Int} (hm:most≤9223372036854775807) (hl:0≤limit∧limit≤4398046511104):∃ x,nH s by_ most limit=some x∧G x.1∧x.1.Next≤max s.Next limit∧s.Next≤x.1.Next∧(0≤by_→by_<4→1≤most→x.2.2.2=(gJ s most limit).2):=by
 obtain ⟨n1,n2,n3,n4⟩:=h.num
 have hpl:=h.pl
 have hll:=h.ll
 by_cases hb:0≤by_∧by_<4
 · by_cases hm1:most<1
   · exact ⟨_,aBi h hb hm hl (.inl hm1),h,by show s.Next≤_; omega,Int.le_refl _,fun _ _ hh=>absurd hh (by omega)⟩
   · cases his:(gJ s most limit).2 with
     | false=>exact ⟨_,aBi h hb hm hl (.inr his),h,by show s.Next≤_; omega,Int.le_refl _,fun _ _ _=>rfl⟩
     | true =>
       obtain ⟨A,B,p1,p2,p3⟩:=aDd h hb ⟨by omega,hm⟩ hl his
       refine ⟨_,p3,p2,?_,by show s.Next≤max s.Next _; omega,fun _ _ _=>rfl⟩
       show max s.Next (gJ s most limit).1.To≤max s.Next limit
       cases hLost:s.Lost with
       | cons x r =>
         have a1:=h.lv.ne x (by rw [hLost]; simp)
         have a2:=h.lb x (by rw [hLost]; simp)
         have en:gJ s most limit=(⟨x.From,x.From+min most (x.To-x.From),0,false⟩,true):=by unfold gJ; rw [hLost]
         rw [en]
         show max s.Next (x.From+min most (x.To-x.From))≤_
         omega
       | nil =>
         have en:gJ s most limit=if 0<endS s-s.Next then (⟨s.Next,s.Next+min (min (endS s-s.Next) most) (max limit s.Next-s.Next),0,false⟩,decide (0<min (min (endS s-s.Next) most) (max limit s.Next-s.Next))) else (⟨s.Next,s.Next,0,false⟩,dueS s):=by unfold gJ; rw [hLost]
         rw [en]
         split
         · show max s.Next (s.Next+min (min (endS s-s.Next) most) (max limit s.Next-s.Next))≤_
           omega
         · show max s.Next s.Next≤_
           omega
 · have hP:nE by_=some false:=by
    unfold nE
    by_cases c:0≤by_
    · rw [bndD,decide_eq_true c,bndD,decide_eq_false (show ¬by_<4 by omega)]; rfl
    · rw [bndD,decide_eq_false c]; rfl
   refine ⟨(s,⟨0,0,0,false⟩,[],false),?_,h,by show s.Next≤_; omega,Int.le_refl _,fun h1 h2=>absurd ⟨h1,h2⟩ hb⟩
   unfold nH
   rw [aCQ (by omega) (by omega),bnoS,hP,bnoS]
   simp only [bndD,Bool.not_false,Bool.true_or,bH,show (true == false)=false from rfl,gdff,bnoS]
def limP (st:St25) (free:Int):Int:=st.Send.Next+min free (st.Out.Limit-st.Send.Next)
theorem aEz (h:SX st) {free:Int} (hf:0≤free):0≤limP st free∧limP st free≤4398046511104∧limP st free≤st.Out.Limit:=by
 obtain ⟨n1,n2,n3,n4⟩:=h.g.num
 have:=h.ou; have:=h.oo.ul; have:=h.oo.lm
 unfold limP; omega
theorem x_pick (h:SX st) {path most free:Int} (hm:most≤9223372036854775807) (hf:free≤9223372036854775807):∃ x,sJ st path most free=some x∧iP st path most free=some x∧SX x.1:=by
 obtain ⟨m1,m2⟩:=h.may
 obtain ⟨n1,n2,n3,n4⟩:=h.g.num
 have ho:=h.ou; have hul:=h.oo.ul; have hlm:=h.oo.lm
 unfold sJ iP
 rw [m1,m2]
 by_cases hf0:free<0
 · refine ⟨(st,⟨0,0,0,false⟩,[],false),?_,?_,h⟩
   · rw [bndD,decide_eq_true hf0]; rfl
   · simp only [bnoS,bndD,decide_eq_true hf0,Bool.or_true,bH]
 · rw [bndD,decide_eq_false hf0,show (false == false)=true from rfl,gdtt]
   cases hc:qO st with
   | true =>
     refine ⟨(st,⟨0,0,0,false⟩,[],false),?_,?_,h⟩
     · simp only [if_true,bnoS,bndD,show decide ((15:Int)=0)=false from rfl,Bool.not_false,Bool.or_true,bH]
     · simp only [if_true,bnoS,bndD,show decide ((15:Int)=0)=false from rfl,Bool.not_false,Bool.true_or,bH]
   | false =>
     obtain ⟨l1,l2,l3⟩:=aEz h (free:=free) (by omega)
     obtain ⟨x,p1,p2,p3,p4,_⟩:=aDe h.g (by_:=path) hm ⟨l1,l2⟩
     have p5:fI st.Send path most (limP st free)=some x:=(aEc h.g hm ⟨l1,l2⟩).trans p1
     have hl:gO st free=some (limP st free):=by
      unfold gO limP
      rw [w64 (by omega) (by omega),bndD,bndD,w64 (by omega) (by omega),bndD]
     refine ⟨(⟨st.ID,x.1,st.Recv,⟨st.Out.Window,st.Out.Limit,x.1.Next,st.Out.Read⟩,st.In,st.Mine,st.Hers⟩,x.2.1,x.2.2.1,x.2.2.2),?_,?_,?_⟩
     · simp only [Bool.false_eq_true,if_false,bnoS,bndD,decide_true,Bool.not_true,Bool.or_self,bC,hl,p1]
     · simp only [Bool.false_eq_true,if_false,bnoS,bndD,decide_true,Bool.not_true,Bool.or_self,bC,decide_eq_false hf0,w64 (show -9223372036854775808≤st.Out.Limit-st.Send.Next by omega) (by omega)]
       have hJ:∀ v,v=limP st free→eT st path most v=some (⟨st.ID,x.1,st.Recv,⟨st.Out.Window,st.Out.Limit,x.1.Next,st.Out.Read⟩,st.In,st.Mine,st.Hers⟩,x.2.1,x.2.2.1,x.2.2.2):=fun v hv=>by
        unfold eT
        rw [hv,p5,bnoS]
       by_cases c:free<st.Out.Limit-st.Send.Next
       · rw [decide_eq_true c,bH,w64 (by omega) (by omega)]
         exact hJ _ (by unfold limP; omega)
       · rw [decide_eq_false c,bC]
         exact hJ _ (by unfold limP; omega)
     · have hr:=h.oo.ru
       exact ⟨h.id,h.mi,h.he,⟨h.oo.r0,by show st.Out.Read≤x.1.Next; omega,by show x.1.Next≤st.Out.Limit; omega,hlm,h.oo.w1,h.oo.w2⟩,h.io,h.iw,p2,h.rx,h.en,rfl,h.iu,h.ir,h.il⟩
theorem x_want (h:SX st) {free:Int} (hf:free≤9223372036854775807):∃ b,rA st free=some b∧mD st free=some b:=by
 obtain ⟨m1,m2⟩:=h.may
 obtain ⟨n1,n2,n3,n4⟩:=h.g.num
 have ho:=h.ou; have hul:=h.oo.ul; have hlm:=h.oo.lm
 unfold rA mD iP
 rw [m1,m2]
 by_cases hf0:free<0
 · refine ⟨false,?_,?_⟩
   · rw [bndD,decide_eq_false (show ¬0≤free by omega)]; rfl
   · simp only [bnoS,bndD,decide_eq_true hf0,Bool.or_true,bH]
 · rw [bndD,decide_eq_true (show 0≤free by omega),beq_self_eq_true,gdtt]
   cases hc:qO st with
   | true =>
     refine ⟨false,?_,?_⟩
     · simp only [if_true,bnoS,bndD,show decide ((15:Int)=0)=false from rfl,Bool.and_false,ft,gdff]; rfl
     · simp only [if_true,bnoS,bndD,show decide ((15:Int)=0)=false from rfl,Bool.not_false,Bool.true_or,bH]
   | false =>
     obtain ⟨l1,l2,l3⟩:=aEz h (free:=free) (by omega)
     obtain ⟨x,p1,p2,p3,p4,p6⟩:=aDe h.g (by_:=0) (most:=1) (by decide) ⟨l1,l2⟩
     have p5:fI st.Send 0 1 (limP st free)=some x:=(aEc h.g (by decide) ⟨l1,l2⟩).trans p1
     have p6:=p6 (by decide) (by decide) (by decide)
     have hl:gO st free=some (limP st free):=by
      unfold gO limP
      rw [w64 (by omega) (by omega),bndD,bndD,w64 (by omega) (by omega),bndD]
     refine ⟨(gJ st.Send 1 (limP st free)).2,?_,?_⟩
     · simp only [Bool.false_eq_true,if_false,bnoS,bndD,decide_true,Bool.and_self,beq_self_eq_true,gdtt,hl,want23 h.g ⟨l1,l2⟩,Bool.true_and]
     · simp only [Bool.false_eq_true,if_false,bnoS,bndD,decide_true,Bool.not_true,Bool.or_self,bC,decide_eq_false hf0,w64 (show -9223372036854775808≤st.Out.Limit-st.Send.Next by omega) (by omega)]
       have hJ:∀ v,v=limP st free→(bno (eT st 0 1 v) fun x1=>some x1.2.2.2)=some (gJ st.Send 1 (limP st free)).2:=fun v hv=>by
        unfold eT
        rw [hv,p5,bnoS,bnoS,p6]
       by_cases c:free<st.Out.Limit-st.Send.Next
       · rw [decide_eq_true c,bH,w64 (by omega) (by omega)]
         exact hJ _ (by unfold limP; omega)
       · rw [decide_eq_false c,bC]
         exact hJ _ (by unfold limP; omega)
end
end Go.Fn
open Go Go.IL
namespace Go.Fn
theorem rivsame {l m:List Iv} (hl:l.length≤1000000):oG l m=some (decide (l=m)):=by
 have heq:∀ x y:Iv,(decide (x.From=y.From)&&(decide (x.To=y.To)&&true))=decide (x=y):=fun x y=>by
  obtain ⟨a,b⟩:=x; obtain ⟨e,f⟩:=y; rw [Bool.eq_iff_iff]; simp
 have:=tD (L:=eZ l m) (m:=m) (z:=true) hl (fun p x r s y t f h k e=>by
  rw [eZ]
  simp only [bndD,jC h,bH,dP h,show gix m (p.length:Int)=some y by rw [e]; exact dP k,bnoS,heq,w_at h hl]) (fun _ f=>by
  rw [eZ]
  simp only [bndD,rX,bC])
 rw [Bool.and_true] at this
 exact this
def aB9 (a b:S23):Bool:=((((((decide (a.Base=b.Base)&&decide (a.Data=b.Data))&&decide (a.Next=b.Next))&&decide (a.Lost=b.Lost))&&(a.Closed == b.Closed))&&(a.Sent == b.Sent))&&(a.Again == b.Again))&&(a.Done == b.Done)
theorem aB8 (a b:S23):(decide (a.Pieces=b.Pieces)&&aB9 a b)=decide (a=b):=by
 obtain ⟨a1,a2,a3,a4,a5,a6,a7,a8,a9⟩:=a
 obtain ⟨b1,b2,b3,b4,b5,b6,b7,b8,b9⟩:=b
 unfold aB9
 rw [Bool.eq_iff_iff]
 simp only [Bool.and_eq_true,decide_eq_true_iff,beq_iff_eq,aN.mk.injEq]
 constructor
 · rintro ⟨h4,⟨⟨⟨⟨⟨⟨h1,h2⟩,h3⟩,h5⟩,h6⟩,h7⟩,h8⟩,h9⟩; exact ⟨h1,h2,h3,h4,h5,h6,h7,h8,h9⟩
 · rintro ⟨h1,h2,h3,h4,h5,h6,h7,h8,h9⟩; exact ⟨h4,⟨⟨⟨⟨⟨⟨h1,h2⟩,h3⟩,h5⟩,h6⟩,h7⟩,h8⟩,h9⟩
theorem rsame23 {a b:S23} (hp:a.Pieces.length≤1000000) (hl:a.Lost.length≤1000000):oC a b=some (decide (a=b)):=by
 have heq:∀ x y:Pc,(decide (x.From=y.From)&&(decide (x.To=y.To)&&(decide (x.Path=y.Path)&&((x.Fin == y.Fin)&&true))))=decide (x=y):=fun x y=>by
  obtain ⟨a,b,c,d⟩:=x; obtain ⟨e,f,g,h⟩:=y; rw [Bool.eq_iff_iff]; simp
 have:=tD (L:=eU a b) (m:=b.Pieces) (z:=aB9 a b) hp (fun p x r s y t f h k e=>by
  rw [eU]
  simp only [bndD,jC h,bH,dP h,show gix b.Pieces (p.length:Int)=some y by rw [e]; exact dP k,bnoS,heq,w_at h hp]) (fun _ f=>by
  rw [eU]
  simp only [bndD,rX,bC]
  unfold aB9
  cases hq:((decide (a.Base=b.Base)&&decide (a.Data=b.Data))&&decide (a.Next=b.Next))
  · simp only [ft,gdff,bnoS,Bool.false_and]
  · simp only [beq_self_eq_true,gdtt,rivsame hl,bnoS,Bool.true_and])
 rw [aB8] at this
 exact this
theorem ssame23 {a b:S23} (hp:a.Pieces.length≤1000000) (hl:a.Lost.length≤1000000):uI a b=some (decide (a=b)):=by
 unfold uI
 rw [pcsame hp,bnoS,←aB8]
 unfold aB9
 by_cases c:a.Pieces=b.Pieces
 · rw [decide_eq_true c]
   simp only [Bool.not_true,beq_self_eq_true,gdtt,isame hl,bnoS,bndD,Bool.false_or,Bool.true_and]
   by_cases d:a.Lost=b.Lost
   · rw [decide_eq_true d]
     simp only [Bool.not_true,bC,Bool.and_true]
     congr 1
     rw [Bool.eq_iff_iff]
     simp only [Bool.and_eq_true,decide_eq_true_iff,beq_iff_eq]
     constructor
     · rintro ⟨⟨⟨⟨⟨⟨h1,h2⟩,h3⟩,h4⟩,h5⟩,h6⟩,h7⟩; exact ⟨⟨⟨⟨⟨⟨h5,h6⟩,h7⟩,h1⟩,h2⟩,h3⟩,h4⟩
     · rintro ⟨⟨⟨⟨⟨⟨h5,h6⟩,h7⟩,h1⟩,h2⟩,h3⟩,h4⟩; exact ⟨⟨⟨⟨⟨⟨h1,h2⟩,h3⟩,h4⟩,h5⟩,h6⟩,h7⟩
   · rw [decide_eq_false d]
     simp only [Bool.not_false,bH,Bool.and_false,Bool.false_and]
 · rw [decide_eq_false c]
   simp only [Bool.not_false,show (true == false)=false from rfl,gdff,bnoS,bndD,Bool.true_or,bH,Bool.false_and]
theorem aGV (a b:R12):(decide (a.Parts=b.Parts)&&(decide (a.Base=b.Base)&&decide (a.Ready=b.Ready)))=decide (a=b):=by
 obtain ⟨a1,a2,a3⟩:=a
 obtain ⟨b1,b2,b3⟩:=b
 rw [Bool.eq_iff_iff]
 simp only [Bool.and_eq_true,decide_eq_true_iff,aW.mk.injEq]
 constructor
 · rintro ⟨h3,h1,h2⟩; exact ⟨h1,h2,h3⟩
 · rintro ⟨h1,h2,h3⟩; exact ⟨h3,h1,h2⟩
theorem rsame12 {a b:R12} (hp:a.Parts.length≤1000000):oF a b=some (decide (a=b)):=by
 have heq:∀ x y:Pt,(decide (x.At=y.At)&&(decide (x.Data=y.Data)&&true))=decide (x=y):=fun x y=>by
  obtain ⟨a,b⟩:=x; obtain ⟨e,f⟩:=y; rw [Bool.eq_iff_iff]; simp
 have:=tD (L:=eW a b) (m:=b.Parts) (z:=decide (a.Base=b.Base)&&decide (a.Ready=b.Ready)) hp (fun p x r s y t f h k e=>by
  rw [eW]
  simp only [bndD,jC h,bH,dP h,show gix b.Parts (p.length:Int)=some y by rw [e]; exact dP k,bnoS,heq,w_at h hp]) (fun _ f=>by
  rw [eW]
  simp only [bndD,rX,bC])
 rw [aGV] at this
 exact this
theorem ssame12 {a b:R12} (hp:a.Parts.length≤1000000):sP a b=some (decide (a=b)):=by
 unfold sP
 rw [←aGV]
 simp only [bndD]
 cases hq:(decide (a.Base=b.Base)&&decide (a.Ready=b.Ready))
 · simp only [ft,gdff,bnoS,Bool.false_and,Bool.and_false]
 · simp only [beq_self_eq_true,gdtt,ptsame hp,bnoS,Bool.true_and,Bool.and_true]
def lgB (a b:Lg):Bool:=decide (a.Window=b.Window)&&(decide (a.Limit=b.Limit)&&(decide (a.Used=b.Used)&&(decide (a.Read=b.Read)&&true)))
theorem aDi (a b:Lg):lgB a b=decide (a=b):=by
 obtain ⟨a1,a2,a3,a4⟩:=a
 obtain ⟨b1,b2,b3,b4⟩:=b
 unfold lgB
 rw [Bool.eq_iff_iff]; simp
theorem aEZ (a b:St25):decide (a=b)=(decide (a.ID=b.ID)&&decide (a.Send=b.Send)&&(decide (a.Recv.Recv=b.Recv.Recv)&&decide (a.Recv.End=b.Recv.End))&&decide (a.Out=b.Out)&&decide (a.In=b.In)&&decide (a.Mine=b.Mine)&&decide (a.Hers=b.Hers)):=by
 obtain ⟨a1,a2,⟨a3,a8⟩,a4,a5,a6,a7⟩:=a
 obtain ⟨b1,b2,⟨b3,b8⟩,b4,b5,b6,b7⟩:=b
 rw [Bool.eq_iff_iff]
 simp only [Bool.and_eq_true,decide_eq_true_iff,aH.mk.injEq,bE.mk.injEq]
 constructor
 · rintro ⟨h1,h2,⟨h3,h8⟩,h4,h5,h6,h7⟩; exact ⟨⟨⟨⟨⟨⟨h1,h2⟩,h3,h8⟩,h4⟩,h5⟩,h6⟩,h7⟩
 · rintro ⟨⟨⟨⟨⟨⟨h1,h2⟩,h3,h8⟩,h4⟩,h5⟩,h6⟩,h7⟩; exact ⟨h1,h2,⟨h3,h8⟩,h4,h5,h6,h7⟩
structure Sm (st:St25):Prop where
 p:st.Send.Pieces.length≤100000
 l:st.Send.Lost.length≤100000
 q:st.Recv.Recv.Parts.length≤100000
theorem SX.sm {st:St25} (h:SX st):Sm st:=⟨by have:=h.g.pl; omega,by have:=h.g.ll; omega,by have:=h.rx.pl; omega⟩
theorem aCw {a b:St25} (h:Sm a):fG a b=some (decide (a=b)):=by
 have h1:=rsame23 (a:=a.Send) (b:=b.Send) (by have:=h.p; omega) (by have:=h.l; omega)
 have h2:=rsame12 (a:=a.Recv.Recv) (b:=b.Recv.Recv) (by have:=h.q; omega)
 have h3:mH a.Recv b.Recv=some (decide (a.Recv.Recv=b.Recv.Recv)&&decide (a.Recv.End=b.Recv.End)):=by
  unfold mH
  rw [h2,bnoS,bndD,bndD]
 have g1:=aDi a.Out b.Out
 have g2:=aDi a.In b.In
 unfold lgB at g1 g2
 rw [aEZ]
 unfold fG
 simp only [bndD]
 by_cases c:a.ID=b.ID
 · rw [decide_eq_true c]
   simp only [beq_self_eq_true,gdtt,h1,bnoS,Bool.true_and]
   by_cases d:a.Send=b.Send
   · rw [decide_eq_true d]
     simp only [beq_self_eq_true,gdtt,h3,bnoS,Bool.true_and,g1,g2]
   · rw [decide_eq_false d]
     simp only [ft,gdff,bnoS,Bool.false_and]
 · rw [decide_eq_false c]
   simp only [ft,gdff,bnoS,Bool.false_and]
theorem ssame25 {a b:St25} (h:Sm a):qC a b=some (decide (a=b)):=by
 have h1:=ssame23 (a:=a.Send) (b:=b.Send) (by have:=h.p; omega) (by have:=h.l; omega)
 have h2:=ssame12 (a:=a.Recv.Recv) (b:=b.Recv.Recv) (by have:=h.q; omega)
 have h3:uP a.Recv b.Recv=some (decide (a.Recv.Recv=b.Recv.Recv)&&decide (a.Recv.End=b.Recv.End)):=by
  unfold uP
  rw [bndD]
  by_cases c:a.Recv.End=b.Recv.End
  · rw [decide_eq_true c,beq_self_eq_true,gdtt,h2,bnoS,bndD,Bool.true_and,Bool.and_true]
  · rw [decide_eq_false c,ft,gdff,bnoS,bndD,Bool.false_and,Bool.and_false]
 have g1:=aDi a.Out b.Out
 have g2:=aDi a.In b.In
 unfold lgB at g1 g2
 rw [aEZ]
 unfold qC
 rw [h1,bnoS]
 by_cases d:a.Send=b.Send
 · rw [decide_eq_true d]
   simp only [Bool.not_true,beq_self_eq_true,gdtt,h3,bnoS,bndD,Bool.false_or]
   cases he:(decide (a.Recv.Recv=b.Recv.Recv)&&decide (a.Recv.End=b.Recv.End))
   · simp only [Bool.not_false,bH,Bool.and_false,Bool.false_and]
   · simp only [Bool.not_true,bC]
     rw [g1,g2]
     simp only [Bool.and_true]
 · rw [decide_eq_false d]
   simp only [Bool.not_false,show (true == false)=false from rfl,gdff,bnoS,bndD,Bool.true_or,bH,Bool.and_false,Bool.false_and]
theorem aDy {l:List Iv} (hl:l.length≤100000):∀ (r q:List Iv) (f:Nat),l=q++r→r.length<f→fB l f q (q.length:Int)=some l
 | _,_,0,_,hf=>absurd hf (by omega)
 | [],q,f+1,h,_=>by
   rw [fB,bndD,jO h,bC]
   rw [List.append_nil] at h
   rw [h]
 | n::r,q,f+1,h,hf=>by
   have hq:q.length≤100000:=by rw [h,List.length_append] at hl; omega
   rw [fB,bndD,jC h,bH,dP h,bnoS,gZ (by simp; omega) (by simp; omega),bnoS,w_at h (by omega),bndD]
   exact aDy hl r (q++[n]) f (by rw [h]; simp) (by simpa using hf)
theorem aDw {s:S23} {L:List Iv} (hl:s.Pieces.length≤100000):∀ (r q:List Pc) (f:Nat),s.Pieces=q++r→r.length<f→fA s L f (q.length:Int) q=some ⟨s.Base,s.Data,s.Next,s.Pieces,L,s.Closed,s.Sent,s.Again,s.Done⟩
 | _,_,0,_,hf=>absurd hf (by omega)
 | [],q,f+1,h,_=>by
   rw [fA,bndD,jO h,bC]
   rw [List.append_nil] at h
   rw [h]
 | n::r,q,f+1,h,hf=>by
   have hq:q.length≤100000:=by rw [h,List.length_append] at hl; omega
   rw [fA,bndD,jC h,bH,dP h,bnoS,gZ (by simp; omega) (by simp; omega),bnoS,w_at h (by omega),bndD]
   exact aDw hl r (q++[n]) f (by rw [h]; simp) (by simpa using hf)
theorem aDx {s:R12} (hl:s.Parts.length≤100000):∀ (r q:List Pt) (f:Nat),s.Parts=q++r→r.length<f→eF s f (q.length:Int) q=some s
 | _,_,0,_,hf=>absurd hf (by omega)
 | [],q,f+1,h,_=>by
   rw [eF,bndD,jO h,bC]
   rw [List.append_nil] at h
   rw [←h]
 | n::r,q,f+1,h,hf=>by
   have hq:q.length≤100000:=by rw [h,List.length_append] at hl; omega
   rw [eF,bndD,jC h,bH,dP h,bnoS,gZ (by simp; omega) (by simp; omega),bnoS,w_at h (by omega),bndD]
   exact aDx hl r (q++[n]) f (by rw [h]; simp) (by simpa using hf)
theorem aGj {st:St25} (h:Sm st):jQ st=some st:=by
 have h1:oI st.Send.Lost=some st.Send.Lost:=aDy h.l st.Send.Lost [] fuel rfl (dN (by have:=h.l; omega))
 have h2:mP st.Send=some st.Send:=by
  unfold mP
  rw [h1,bnoS]
  exact aDw h.p st.Send.Pieces [] fuel rfl (dN (by have:=h.p; omega))
 have h3:mO st.Recv=some st.Recv:=by
  unfold mO oH
  rw [show eF st.Recv.Recv fuel 0 []=some st.Recv.Recv from aDx h.q st.Recv.Recv.Parts [] fuel rfl (dN (by have:=h.q; omega)),bnoS]
 unfold jQ
 rw [h2,bnoS,h3,bnoS]
theorem x_over {st:St25} (h:SX st):∃ b,rD st=some b∧mF st=some b:=by
 obtain ⟨e1,e2⟩:=aEW h.rx h.en
 have e1:pS st.Recv=_:=e1
 have e2:gT st.Recv=_:=e2
 unfold rD mF mR kX
 simp only [bndD,bnoS]
 have e:(!decide (st.Mine = -1) || !decide (st.Hers = -1))=qO st:=rfl
 rw [e]
 cases hc:qO st with
 | true=>exact ⟨true,rfl,rfl⟩
 | false =>
   refine ⟨aCm st.Recv.Recv st.Recv.End&&(st.Send.Done&&decide (st.Send.Data=[])),?_,?_⟩
   · simp only [beq_self_eq_true,gdtt,e1,bnoS,Bool.true_and,Bool.false_or]
     cases aCm st.Recv.Recv st.Recv.End
     · rfl
     · rfl
   · unfold oD
     simp only [beq_self_eq_true,gdtt,bndD,bnoS,Bool.true_and,Bool.false_or]
     cases (st.Send.Done&&decide (st.Send.Data=[]))
     · rw [ft,gdff,bnoS,Bool.false_and,Bool.and_false]
     · rw [beq_self_eq_true,gdtt,e2,bnoS,Bool.true_and,Bool.and_true]
abbrev A25:=dC
def ok25 (a:A25):Prop:=(0≤a.Kind∧a.Kind≤255)∧(-9223372036854775808≤a.N∧a.N≤9223372036854775807)∧(-9223372036854775808≤a.M∧a.M≤9223372036854775807)
theorem x_do {st:St25} (h:SX st) {a:A25} (ha:ok25 a) (ht:a.Text.length≤200):∃ x,mS st a=some x∧iX st a=some x∧SX x.1:=by
 obtain ⟨⟨k1,k2⟩,⟨n1,n2⟩,m1,m2⟩:=ha
 have hr:remI a.Kind 10=some (a.Kind % 10):=rem_ok k1 (by decide)
 obtain ⟨x0,w1,w2,w3⟩:=x_write h a.Text (by omega)
 obtain ⟨x1,c1,c2,c3⟩:=x_close h
 obtain ⟨x2,r1,r2,r3⟩:=x_read h a.N
 obtain ⟨x3,g1,g2,g3⟩:=x_grant h
 obtain ⟨x4,d1,d2,d3,d4,d5⟩:=x_data h (a:=a.N) (str:=a.Text) (fin:=a.Flag) ⟨n1,n2⟩ (by omega)
 obtain ⟨x5,v1,v2,v3,v4⟩:=aFj h (n:=a.N) n2
 obtain ⟨x6,o1,o2,o3⟩:=x_came h a.N a.Flag
 obtain ⟨x7,p1,p2,p3⟩:=x_pick h (path:=a.N) (most:=a.M) (free:=a.M) m2 m2
 obtain ⟨x8,e1,e2,e3⟩:=x_dead h a.N
 obtain ⟨x9,s1,s2,s3⟩:=x_reset h a.N
 obtain ⟨x10,t1,t2,t3⟩:=aEV h a.N
 have hw4:IntKind.wrap .i64 x4.2.2=x4.2.2:=w64 (by omega) (by omega)
 have hw5:IntKind.wrap .i64 x5.2=x5.2:=w64 (by omega) (by omega)
 unfold mS iX
 rw [hr]
 simp only [bnoS,bndD]
 generalize a.Kind % 10=r
 by_cases q0:r=0
 · simp only [decide_eq_true q0,bH,w1,w2,bnoS]; exact ⟨_,rfl,rfl,w3⟩
 simp only [decide_eq_false q0,bC]
 by_cases q1:r=1
 · simp only [decide_eq_true q1,bH,c1,c2,bnoS]; exact ⟨_,rfl,rfl,c3⟩
 simp only [decide_eq_false q1,bC]
 by_cases q2:r=2
 · simp only [decide_eq_true q2,bH,r1,r2,bnoS]; exact ⟨_,rfl,rfl,r3⟩
 simp only [decide_eq_false q2,bC]
 by_cases q3:r=3
 · simp only [decide_eq_true q3,bH,g1,g2,bnoS]; exact ⟨_,rfl,rfl,g3⟩
 simp only [decide_eq_false q3,bC]
 by_cases q4:r=4
 · simp only [decide_eq_true q4,bH,d1,d2,bnoS,hw4]; exact ⟨_,rfl,rfl,d3⟩
 simp only [decide_eq_false q4,bC]
 by_cases q5:r=5
 · simp only [decide_eq_true q5,bH,v1,v2,bnoS,hw5]; exact ⟨_,rfl,rfl,v3⟩
 simp only [decide_eq_false q5,bC]
 by_cases q6:r=6
 · simp only [decide_eq_true q6,bH,o1,o2,bnoS]; exact ⟨_,rfl,rfl,o3⟩
 simp only [decide_eq_false q6,bC]
 by_cases q7:r=7
 · simp only [decide_eq_true q7,bH,p1,p2,bnoS]; exact ⟨_,rfl,rfl,p3⟩
 simp only [decide_eq_false q7,bC]
 by_cases q8:r=8
 · simp only [decide_eq_true q8,bH,e1,e2,bnoS]; exact ⟨_,rfl,rfl,e3⟩
 simp only [decide_eq_false q8,bC]
 by_cases q9:a.M=9
 · simp only [decide_eq_true q9,bH,s1,s2,bnoS]; exact ⟨_,rfl,rfl,s3⟩
 simp only [decide_eq_false q9,bC]
 by_cases q10:a.M=8
 · simp only [decide_eq_true q10,bH,t1,t2,bnoS]; exact ⟨_,rfl,rfl,t3⟩
 simp only [decide_eq_false q10,bC]
 exact ⟨_,rfl,rfl,h⟩
end Go.Fn
open Go Go.IL
namespace Go.Fn
theorem ans_eq (a b:bL):(decide (a.N=b.N)&&(decide (a.Code=b.Code)&&(decide (a.Text=b.Text)&&((a.End == b.End)&&((decide (a.P.From=b.P.From)&&(decide (a.P.To=b.P.To)&&(decide (a.P.Path=b.P.Path)&&((a.P.Fin == b.P.Fin)&&true))))&&true)))))=true↔a=b:=by
 obtain ⟨a1,a2,a3,a4,⟨a5,a6,a7,a8⟩⟩:=a
 obtain ⟨b1,b2,b3,b4,⟨b5,b6,b7,b8⟩⟩:=b
 simp
def pl25 (l:List A25) (x6:St25×Int) (f:Nat) (i:Int) (s t:St25):Option Bool :=
 dJ l x6 f i s.ID s.Send.Base s.Send.Data s.Send.Next s.Send.Pieces s.Send.Lost s.Send.Closed s.Send.Sent s.Send.Again s.Send.Done s.Recv.Recv.Base s.Recv.Recv.Ready s.Recv.Recv.Parts s.Recv.End s.Out.Window s.Out.Limit s.Out.Used s.Out.Read s.In.Window s.In.Limit s.In.Used s.In.Read s.Mine s.Hers t.ID t.Send.Base t.Send.Data t.Send.Next t.Send.Pieces t.Send.Lost t.Send.Closed t.Send.Sent t.Send.Again t.Send.Done t.Recv.Recv.Base t.Recv.Recv.Ready t.Recv.Recv.Parts t.Recv.End t.Out.Window t.Out.Limit t.Out.Used t.Out.Read t.In.Window t.In.Limit t.In.Used t.In.Read t.Mine t.Hers
theorem pl_L {l:List A25} (hl:l.length≤40) (hok:∀ a∈l,ok25 a) (ht:∀ a∈l,a.Text.length≤200) {x6:St25×Int} (h6:x6.2=0):∀ (r q:List A25) (f:Nat) (st:St25),l=q++r→r.length<f→SX st→pl25 l x6 f (q.length:Int) st st=some true
 | _,_,0,_,_,hf,_=>absurd hf (by omega)
 | [],q,f+1,st,hs,_,_=>by
   unfold pl25
   rw [dJ,bndD,jO hs,bndD,bndD,Bool.false_and,bC,aDT,bnoS]
 | a::r,q,f+1,st,hs,hf,h=>by
   have ha:=hok a (by rw [hs]; simp)
   obtain ⟨x,d1,d2,d3⟩:=x_do h ha (ht a (by rw [hs]; simp))
   obtain ⟨b,o1,o2⟩:=x_over d3
   obtain ⟨w,w1,w2⟩:=x_want d3 (free:=a.M) ha.2.2.2
   have hrec:=pl_L hl hok ht h6 r (q++[a]) f x.1 (by rw [hs]; simp) (by simpa using hf) d3
   have hcl:∃ c,oU x.1=some c∧kZ x.1=some c:=by
    unfold oU kZ
    by_cases c:0≤x.1.Recv.End
    · rw [bndD,decide_eq_true c]; exact ⟨3,rfl,rfl⟩
    · rw [bndD,decide_eq_false c]; exact ⟨2,rfl,rfl⟩
   obtain ⟨c,c1,c2⟩:=hcl
   have hans:=(ans_eq x.2 x.2).2 rfl
   have d1:mS ⟨st.ID,⟨st.Send.Base,st.Send.Data,st.Send.Next,st.Send.Pieces,st.Send.Lost,st.Send.Closed,st.Send.Sent,st.Send.Again,st.Send.Done⟩,⟨⟨st.Recv.Recv.Base,st.Recv.Recv.Ready,st.Recv.Recv.Parts⟩,st.Recv.End⟩,⟨st.Out.Window,st.Out.Limit,st.Out.Used,st.Out.Read⟩,⟨st.In.Window,st.In.Limit,st.In.Used,st.In.Read⟩,st.Mine,st.Hers⟩ a=some x:=d1
   have d2:iX ⟨st.ID,⟨st.Send.Base,st.Send.Data,st.Send.Next,st.Send.Pieces,st.Send.Lost,st.Send.Closed,st.Send.Sent,st.Send.Again,st.Send.Done⟩,⟨⟨st.Recv.Recv.Base,st.Recv.Recv.Ready,st.Recv.Recv.Parts⟩,st.Recv.End⟩,⟨st.Out.Window,st.Out.Limit,st.Out.Used,st.Out.Read⟩,⟨st.In.Window,st.In.Limit,st.In.Used,st.In.Read⟩,st.Mine,st.Hers⟩ a=some x:=d2
   have s1:qC x.1 ⟨st.ID,⟨st.Send.Base,st.Send.Data,st.Send.Next,st.Send.Pieces,st.Send.Lost,st.Send.Closed,st.Send.Sent,st.Send.Again,st.Send.Done⟩,⟨⟨st.Recv.Recv.Base,st.Recv.Recv.Ready,st.Recv.Recv.Parts⟩,st.Recv.End⟩,⟨st.Out.Window,st.Out.Limit,st.Out.Used,st.Out.Read⟩,⟨st.In.Window,st.In.Limit,st.In.Used,st.In.Read⟩,st.Mine,st.Hers⟩=some (decide (x.1=st)):=ssame25 d3.sm
   have s2:fG x.1 ⟨st.ID,⟨st.Send.Base,st.Send.Data,st.Send.Next,st.Send.Pieces,st.Send.Lost,st.Send.Closed,st.Send.Sent,st.Send.Again,st.Send.Done⟩,⟨⟨st.Recv.Recv.Base,st.Recv.Recv.Ready,st.Recv.Recv.Parts⟩,st.Recv.End⟩,⟨st.Out.Window,st.Out.Limit,st.Out.Used,st.Out.Read⟩,⟨st.In.Window,st.In.Limit,st.In.Used,st.In.Read⟩,st.Mine,st.Hers⟩=some (decide (x.1=st)):=aCw d3.sm
   have s3:fG x.1 x.1=some true:=by rw [aCw d3.sm,decide_eq_true rfl]
   have hfin:∀ z:Option Bool,pl25 l x6 f ((q++[a]).length:Int) x.1 x.1=z→z=some true:=fun z e=>e.symm.trans hrec
   unfold pl25
   rw [dJ,bndD,jC hs,bndD,h6,decide_eq_true rfl,bndD,Bool.and_self,bH,dP hs,bnoS,d1,bnoS,bnoS,d2,bnoS,bndD,hans]
   simp only [Bool.not_true,beq_self_eq_true,gdtt,aGj d3.sm,bnoS,s3,bndD,Bool.or_self,d3.ck,d3.rk,decide_true,o1,o2,c1,c2,dP hs,w1,w2,s1,s2,bC,w_at hs (show l.length≤1000000 by omega)]
   exact hrec
theorem aFQ {l:List A25} (hl:l.length≤40):∀ (r q:List A25) (f:Nat),l=q++r→r.length<f→fQ l f (q.length:Int)=some (if ∀ a∈r,a.Text.length≤200 then 0 else 1)
 | _,_,0,_,hf=>absurd hf (by omega)
 | [],q,f+1,hs,_=>by
   rw [fQ,bndD,jO hs,bC,if_pos (fun _ h=>by cases h)]
 | a :: r,q,f+1,hs,hf=>by
   have hrec:=aFQ hl r (q++[a]) f (by rw [hs]; simp) (by simpa using hf)
   rw [fQ,bndD,jC hs,bH,dP hs,bnoS,bndD]
   by_cases c:200<a.Text.length
   · rw [decide_eq_true (show (200:Int)<(a.Text.length:Int) by omega),bH,if_neg (fun h=>by have:=h a (by simp); omega)]
   · rw [decide_eq_false (show ¬(200:Int)<(a.Text.length:Int) by omega),bC,w_at hs (by omega),bndD,hrec]
     by_cases d:∀ a∈r,a.Text.length≤200
     · rw [if_pos d,if_pos (fun b hb=>by
        rcases List.mem_cons.1 hb with rfl | hb
        · omega
        · exact d b hb)]
     · rw [if_neg d,if_neg (fun h=>d fun b hb=>h b (by simp [hb]))]
theorem aDh {w:Int} (h:1≤w∧w≤1048576):LO ⟨w,w,0,0⟩:=⟨Int.le_refl _,Int.le_refl _,by show 0≤w; omega,by show w≤_; omega,h.1,h.2⟩
theorem cnew {w:Int}:qY w=some (if 1≤w∧w≤1048576 then (⟨w,w,0,0⟩,0) else (⟨0,0,0,0⟩,8))∧lG w=some (if 1≤w∧w≤1048576 then (⟨w,w,0,0⟩,0) else (⟨0,0,0,0⟩,8)):=by
 unfold qY lG
 by_cases c:1≤w∧w≤1048576
 · rw [(aDh c).ck,(aDh c).rk,if_pos c]
   exact ⟨rfl,rfl⟩
 · have h1:gF ⟨w,w,0,0⟩=some 8:=by
    unfold gF
    simp only [bndD]
    by_cases d:w<1
    · rw [decide_eq_true d,Bool.or_true,Bool.true_or,bH]
    · rw [decide_eq_true (show 1048576<w by omega),Bool.or_true,bH]
   have h2:dM ⟨w,w,0,0⟩=some 8:=by
    unfold dM
    simp only [bndD]
    by_cases d:w<1
    · rw [decide_eq_true d]; simp only [Bool.true_or,bH]
    · rw [decide_eq_true (show 1048576<w by omega)]; simp only [Bool.or_true,Bool.true_or,bH]
   rw [h1,h2,if_neg c]
   exact ⟨rfl,rfl⟩
def newS (a b c:Int):St25:=⟨a,new23,⟨⟨0,[],[]⟩,-1⟩,⟨b,b,0,0⟩,⟨c,c,0,0⟩,-1,-1⟩
def badS:St25:=⟨0,⟨0,[],0,[],[],false,false,false,false⟩,⟨⟨0,[],[]⟩,0⟩,⟨0,0,0,0⟩,⟨0,0,0,0⟩,0,0⟩
theorem x_new (a b c:Int):∃ x,rQ a b c=some x∧mZ a b c=some x∧((x.2=0∧SX x.1)∨(x=(badS,8))):=by
 obtain ⟨b1,b2⟩:=cnew (w:=b)
 obtain ⟨c1,c2⟩:=cnew (w:=c)
 unfold rQ mZ
 rw [b1,b2,c1,c2]
 by_cases hb:1≤b∧b≤1048576
 · by_cases hc:1≤c∧c≤1048576
   · rw [if_pos hb,if_pos hc]
     simp only [bnoS,bndD,decide_true,Bool.not_true,Bool.or_self,Bool.false_or,Bool.or_false]
     by_cases hok:c≤4096∧0≤a∧a≤1048576
     · obtain ⟨h1,h2,h3⟩:=hok
       refine ⟨(newS a b c,0),?_,?_,.inl ⟨rfl,?_⟩⟩
       · simp only [decide_eq_false (show ¬4096<c by omega),decide_eq_false (show ¬a<0 by omega),decide_eq_false (show ¬1048576<a by omega),Bool.or_self,bC]
         rfl
       · simp only [decide_eq_false (show ¬4096<c by omega),decide_eq_false (show ¬a<0 by omega),decide_eq_false (show ¬1048576<a by omega),Bool.or_self,bC]
         rfl
       · refine ⟨⟨h2,h3⟩,(show (-1:Int) ≤ -1∧(-1:Int)≤255 by decide),(show (-1:Int) ≤ -1∧(-1:Int)≤255 by decide),aDh hb,aDh hc,h1,g_new,(show RX ⟨0,[],[]⟩ from ⟨by decide,by decide,by decide,by decide,trivial,fun _ h=>(by cases h)⟩),.inl rfl,rfl,rfl,rfl,by show c≤0+c; omega⟩
     · refine ⟨(badS,8),?_,?_,.inr rfl⟩
       · have:(decide (4096<c)||decide (a<0)||decide (1048576<a))=true:=by
          simp only [Bool.or_eq_true,decide_eq_true_iff]; omega
         rw [this]; rfl
       · have:(decide (a<0)||decide (1048576<a)||decide (4096<c))=true:=by
          simp only [Bool.or_eq_true,decide_eq_true_iff]; omega
         rw [this]; rfl
   · rw [if_pos hb,if_neg hc]
     refine ⟨(badS,8),?_,?_,.inr rfl⟩
     · simp only [bnoS,bndD,show decide ((8:Int)=0)=false from rfl,Bool.not_false,Bool.or_true,Bool.true_or,bH]; rfl
     · simp only [bnoS,bndD,nA,show decide ((8:Int)=0)=false from rfl,Bool.not_false,Bool.or_true,Bool.true_or,bH]; rfl
 · rw [if_neg hb]
   refine ⟨(badS,8),?_,?_,.inr rfl⟩
   · simp only [bnoS,bndD,show decide ((8:Int)=0)=false from rfl,Bool.not_false,Bool.or_true,Bool.true_or,bH]; rfl
   · simp only [bnoS,bndD,nA,show decide ((8:Int)=0)=false from rfl,Bool.not_false,Bool.or_true,Bool.true_or,bH]; rfl
theorem aEY {n:tW} {l:List A25} (hok:∀ a∈l,ok25 a):iE n l=some true:=by
 unfold iE
 have hfew:∃ k,nD l 40=some k∧(k=0→l.length≤40∧∀ a∈l,a.Text.length≤200):=by
  unfold nD
  by_cases c:40<l.length
  · rw [bndD,decide_eq_true (show (40:Int)<(l.length:Int) by omega),bH]
    exact ⟨1,rfl,fun h=>by cases h⟩
  · rw [bndD,decide_eq_false (show ¬(40:Int)<(l.length:Int) by omega),bC]
    have:=aFQ (l:=l) (by omega) l [] fuel rfl (dN (by omega))
    refine ⟨_,this,fun h=>⟨by omega,?_⟩⟩
    by_cases d:∀ a∈l,a.Text.length≤200
    · exact d
    · rw [if_neg d] at h; cases h
 obtain ⟨k,k1,k2⟩:=hfew
 rw [k1,bnoS,bndD]
 by_cases hk:k=0
 · obtain ⟨hl,ht⟩:=k2 hk
   rw [decide_eq_true hk,Bool.not_true,bC]
   obtain ⟨x,x1,x2,x3⟩:=x_new n.c0 n.c1 n.c2
   have hsm:Sm x.1:=by
    rcases x3 with ⟨_,h⟩ | e
    · exact h.sm
    · rw [e]; exact ⟨Nat.zero_le _,Nat.zero_le _,Nat.zero_le _⟩
   have s3:fG x.1 x.1=some true:=by rw [aCw hsm,decide_eq_true rfl]
   rw [x1,bnoS,x2,bnoS,bndD,decide_eq_true rfl]
   simp only [Bool.not_true,beq_self_eq_true,gdtt,aGj hsm,bnoS,s3,bndD,Bool.or_self,bC]
   show pl25 l x fuel 0 x.1 x.1=some true
   rcases x3 with ⟨h0,h⟩ | e
   · exact pl_L hl hok ht h0 l [] fuel x.1 rfl (dN (by omega)) h
   · obtain ⟨f,hf⟩:∃ f,fuel=f+1:=⟨fuel-1,by have:=dN (n:=1) (by decide); omega⟩
     unfold pl25
     rw [hf,e,dJ,bndD,bndD,show decide ((8:Int)=0)=false from rfl,bndD,Bool.and_false,bC,aDT,bnoS]
 · rw [decide_eq_false hk,Bool.not_false,bH,aDT,bnoS]
end Go.Fn
open Go.RowKit Go.WideShapes Go.ChangeShapes
namespace Go.IL

def aAZ (v:Value):Prop:=∀ a n c,v = .slice (some a) n c→a.spot=none
theorem aCC {P:Program} {w:World} {r:Reach} {b:Nat} {t:TypeId} {v:Value} (h:Cell.okWide P w r b t v):aAZ v:=by
 intro a n c e
 subst e
 have h2:Cell.ok P w r b t (.slice (some a) n c):=by
  unfold Cell.okWide at h
  split at h <;> first | exact h | (rename_i h3 _; cases h3) | (rename_i h3; cases h3) | skip
  all_goals first | exact h | simp_all
 unfold Cell.ok at h2
 split at h2 <;> simp_all [World.has]
theorem aFk {P:Program} {w:World} {r:Reach} {b:Nat} {t:TypeId} {v:Value} (h:Value.okWide P w r b t v):∀ u∈v.cells.toList,aAZ u:=by
 have agg:∀ cs:Array Value,Row.okWide P w r b t cs→∀ u∈cs.toList,aAZ u:=by
  intro cs ⟨ts,_,_,h3⟩ u hu
  obtain ⟨i,hi⟩:=List.getElem?_of_mem hu
  obtain ⟨q,_,hq⟩:=h3 i u (by simpa using hi)
  exact aCC hq
 unfold Value.okWide at h
 split at h
 · obtain ⟨cs,rfl,_,h⟩:=h; simpa [Value.cells] using agg cs h
 · obtain ⟨cs,rfl,_,h⟩:=h; simpa [Value.cells] using agg cs h
 · have h2:=aCC h
   intro u hu
   cases v with
   | agg cs =>
     exfalso
     unfold Cell.okWide at h
     split at h <;> simp_all [Cell.ok]
   | _=>simp [Value.cells] at hu; subst hu; exact h2

def Env.none (w:World):Env:=⟨w,fun _ _=>False⟩
def OpD (P:Program) (sp:Bool) (t:TypeId) (Q:List D→Prop):Prop :=
 ∀ {H:Type} {enc:TypeId×Value→H} {w:World} {base:Nat} {spare:Nat→Bool} {held:Bool} {fuel:Nat} {cs:List Value} {x:DataW H×List MemPlace},
   DataW.trod enc P w base spare held fuel t cs=some x→(sp=true→∀ v∈cs,aAZ v)→∃ ds,RdL (Env.none w) β0 cs ds∧Q ds
def qInt (k:IntKind) (ds:List D):Prop:=∃ n:Int,ds=[.int k n]∧(k.min≤n∧n≤k.max)
def qBool (ds:List D):Prop:=∃ b:Bool,ds=[.bool b]
def qStr (ds:List D):Prop:=∃ l:List UInt8,ds=[.str l]∧l.length≤9223372036854775807
def qSlice {α:Type} (f:Enc α) (wf:α→Prop) (ds:List D):Prop:=∃ l:List α,ds=[.slice false (l.map f.d)]∧l.length≤9223372036854775807∧∀ x∈l,wf x
def aEm:List (List D→Prop)→List D→Prop
 | [],ds=>ds=[]
 | Q::Qs,ds=>∃ a b,ds=a++b∧Q a∧aEm Qs b

section
variable {P:Program} {sp:Bool} {t:TypeId}
theorem aBk {k:IntKind} (hu:P.underlying t=some (.int k)):OpD P sp t (qInt k):=by
 intro H enc w base spare held fuel cs x h _
 obtain ⟨n,rfl,rfl,hw⟩:=DataW.trod_int hu h
 exact ⟨[.int k n],.cons (.int _ _ _) (.nil _),n,rfl,by simpa [Lit.wf] using hw⟩
theorem aFy (hu:P.underlying t=some .bool):OpD P sp t qBool:=by
 intro H enc w base spare held fuel cs x h _
 obtain ⟨b,rfl,rfl⟩:=DataW.trod_bool hu h
 exact ⟨[.bool b],.cons (.bool _ _) (.nil _),b,rfl⟩
theorem opd_str (hu:P.underlying t=some .string):OpD P sp t qStr:=by
 intro H enc w base spare held fuel cs x h _
 obtain ⟨s,rfl,rfl,hs⟩:=DataW.trod_string hu h
 refine ⟨[.str s.data.toList],.cons ?_ (.nil _),s.data.toList,rfl,?_⟩
 · have:=Rd.str (E:=Env.none w) β0 s.data.toList; rwa [aFd] at this
 · have:s.data.toList.length=s.size:=rfl
   rw [this]; unfold maxLen at hs; omega
theorem aEv {α:Type} {f:Enc α} {e:TypeId} {wf:α→Prop} (hu:P.underlying t=some (.slice e)) (hc:P.cellsOf e=f.sz) (he:OpD P false e (fun ds=>∃ a,ds=(f.d a).cells∧wf a)):OpD P sp t (qSlice f wf):=by
 intro H enc w base spare held fuel cs x h hs
 rcases DataW.trod_slice hu h with ⟨rfl,_⟩ | ⟨a,len,cap,elems,rest,n,_,rfl,rfl,hb,hl,hm,hlen,hel,_,_⟩
 · exact ⟨[.slice false []],.cons (.nslice _ _) (.nil _),[],rfl,by simp,by simp⟩
 · by_cases hl0:len=0
   · subst hl0; exact ⟨[.slice false []],.cons (.eslice _ a cap false (fun h=>by cases h)) (.nil _),[],rfl,by simp,by simp⟩
   have hsp0:a.spot=none:=by
    have h1:=hel 0 (by omega)
    have h2:elems[0]? = some (elems[0]'(by omega)):=List.getElem?_eq_getElem _
    rw [h2,Option.bind_eq_some_iff] at h1
    obtain ⟨vs,h3,_⟩:=h1
    have h7:=World.cells?_some h3
    have hp:=f.pos
    have h8:=h7.2.2 0 (by rw [hc]; exact hp)
    rw [Nat.zero_mul] at h8
    have e0:((a.add 0).add 0)=a:=rfl
    rw [e0] at h8
    cases hsp:a.spot with
    | none=>rfl
    | some q =>
      exfalso
      unfold World.cell? at h8
      rw [hsp] at h8
      split at h8
      · simp at h8; have:=h7.1; simp_all
      · have:=h7.1; simp_all
   have ha:a=⟨a.block,a.off,none⟩:=by cases a; simp_all
   have each:∀ i,i<len→∃ (vs:List Value) (y:α),(∀ k v,vs[k]? = some v→w.cell? ⟨a.block,a.off+(i*f.sz+k),none⟩=some v)∧RdL (Env.none w) β0 vs (f.d y).cells∧wf y:=by
    intro i hi
    have h1:=hel i hi
    have h2:elems[i]? = some (elems[i]'(by omega)):=List.getElem?_eq_getElem _
    rw [h2,Option.bind_eq_some_iff] at h1
    obtain ⟨vs,h3,h4⟩:=h1
    obtain ⟨ds,h5,y,rfl,h6⟩:=he h4 (by simp)
    refine ⟨vs,y,fun k v hk=>?_,h5,h6⟩
    have h7:=World.cells?_some h3
    have hk':=(List.getElem?_eq_some_iff.1 hk).1
    have h8:=h7.2.2 k (by omega)
    rw [hk,ha,hc] at h8
    rw [←h8]
    congr 1
    by_cases h9:i*f.sz=0
    · by_cases h10:k=0
      · simp [Addr.add,h9,h10]
      · simp [Addr.add,h9,h10]
    · by_cases h10:k=0
      · simp [Addr.add,h9,h10]
      · simp [Addr.add,h9,h10,Nat.add_assoc]
   have all:∀ m,m≤len→∃ (vs:List Value) (l:List α),l.length=m∧(∀ k v,vs[k]? = some v→w.cell? ⟨a.block,a.off+k,none⟩=some v)∧RdL (Env.none w) β0 vs (D.flat (l.map f.d))∧∀ y∈l,wf y:=by
    intro m
    induction m with
    | zero=>intro _; exact ⟨[],[],rfl,by simp,.nil _,by simp⟩
    | succ m ih =>
      intro hm'
      obtain ⟨vs,l,h1,h2,h3,h4⟩:=ih (by omega)
      obtain ⟨us,y,h5,h6,h7⟩:=each m (by omega)
      have hvl:vs.length=m*f.sz:=by rw [h3.length,f.flat_len,h1]
      refine ⟨vs++us,l++[y],by simp [h1],fun k v hk=>?_,?_,?_⟩
      · by_cases hk':k<vs.length
        · exact h2 k v (by rwa [List.getElem?_append_left hk'] at hk)
        · rw [List.getElem?_append_right (by omega)] at hk
          have:=h5 _ _ hk
          rwa [hvl,show m*f.sz+(k-m*f.sz)=k by omega] at this
      · rw [List.map_append]
        have e2:D.flat (l.map f.d++[y].map f.d)=D.flat (l.map f.d)++(f.d y).cells:=by simp [D.flat]
        rw [e2]; exact h3.append h6
      · intro z hz
        rcases List.mem_append.1 hz with h | h
        · exact h4 z h
        · simp at h; subst h; exact h7
   obtain ⟨vs,l,h1,h2,h3,h4⟩:=all len (Nat.le_refl _)
   refine ⟨[.slice false (l.map f.d)],.cons ?_ (.nil _),l,rfl,by unfold maxLen at hm; omega,h4⟩
   rw [ha]
   exact .slice _ _ _ len cap f.sz false vs _ (by rw [List.length_map,h1]) hl (by simp) (f.len l) f.pos (fun k v hk=>⟨h2 k v hk,fun h=>h⟩) h3

def aAX (P:Program):Nat→List Field→Bool
 | _,[]=>true
 | k,f::fs=>f.offset == k&&aAX P (k+P.cellsOf f.type) fs
inductive OpFs (P:Program) (sp:Bool):List Field→List (List D→Prop)→Prop
 | nil:OpFs P sp [] []
 | cons {f fs Q Qs} (h:OpD P sp f.type Q) (t:OpFs P sp fs Qs):OpFs P sp (f::fs) (Q::Qs)
theorem aEF {fs:Array Field} {Qs:List (List D→Prop)} (hu:P.underlying t=some (.struct fs)) (hf:aAX P 0 fs.toList=true) (hn:P.cellsOf t=(fs.toList.map fun f=>P.cellsOf f.type).sum) (h:OpFs P sp fs.toList Qs):OpD P sp t (aEm Qs):=by
 intro H enc w base spare held fuel cs x hx hs
 obtain ⟨xs,n,_,_,hlen,hxl,hfld⟩:=DataW.trod_struct hu hx
 have key:∀ (l:List Field) (Qs:List (List D→Prop)) (k:Nat),OpFs P sp l Qs→aAX P k l=true→k+(l.map fun f=>P.cellsOf f.type).sum=cs.length →
  (∀ f∈l,∃ y,DataW.trod enc P w base spare held n f.type ((cs.drop f.offset).take (P.cellsOf f.type))=some y)→∃ ds,RdL (Env.none w) β0 (cs.drop k) ds∧aEm Qs ds:=by
  intro l Qs k ho
  induction ho generalizing k with
  | nil =>
    intro _ h1 _
    refine ⟨[],?_,rfl⟩
    rw [List.drop_of_length_le (by simp at h1; omega)]; exact .nil _
  | @cons f fs Q Qs h t ih =>
    intro h1 h2 h3
    simp only [aAX,Bool.and_eq_true,beq_iff_eq] at h1
    simp only [List.map_cons,List.sum_cons] at h2
    obtain ⟨y,hy⟩:=h3 f (by simp)
    rw [h1.1] at hy
    obtain ⟨ds,h4,h5⟩:=h hy (fun hsp v hv=>hs hsp v (List.mem_of_mem_drop (List.mem_of_mem_take hv)))
    obtain ⟨es,h6,h7⟩:=ih (k+P.cellsOf f.type) h1.2 (by omega) (fun g hg=>h3 g (by simp [hg]))
    refine ⟨ds++es,?_,ds,es,rfl,h5,h7⟩
    have:=h4.append h6
    rwa [←List.drop_drop,List.take_append_drop] at this
 have:=key fs.toList Qs 0 h hf (by rw [Nat.zero_add,←hn,hlen]) (fun f hf=>by
  obtain ⟨i,hi⟩:=List.getElem?_of_mem hf
  have h1:=hfld i f (by simpa using hi)
  have h2:i<xs.length:=by rw [hxl]; have:=(List.getElem?_eq_some_iff.1 hi).1; simpa using this
  exact ⟨xs[i],by rw [h1,List.getElem?_eq_getElem h2]⟩)
 rwa [List.drop_zero] at this
theorem OpD.to {Q R:List D→Prop} (h:OpD P sp t Q) (k:∀ ds,Q ds→R ds):OpD P sp t R:=by
 intro H enc w base spare held fuel cs x hx hs
 obtain ⟨ds,h1,h2⟩:=h hx hs
 exact ⟨ds,h1,k ds h2⟩
theorem aEu {Q:List D→Prop} (h:OpD P true t Q) {H:Type} {enc:TypeId×Value→H} {w:World} {base b0:Nat} {spare:Nat→Bool} {held:Bool} {v:Value} {d:DataW H} {ps:List MemPlace} {r:Reach}
 (hv:Value.okWide P w r b0 t v) (hd:DataW.Trod enc P w base spare held t v d ps):∃ ds,RdL (Env.none w) β0 v.cells.toList ds∧Q ds:=by
 obtain ⟨fuel,hf⟩:=hd
 exact h hf (fun _=>aFk hv)
theorem aEi {E:Env} {v:Value} {d:D} (h:RdL E β0 v.cells.toList [d]) (hn:∀ cs,v ≠ .agg cs):Rd E β0 v d:=by
 cases v with
 | agg cs=>exact absurd rfl (hn cs)
 | _=>simp [Value.cells] at h; cases h with | cons h _=>exact h
theorem aEk {E:Env} {cs:Array Value} {ds:List D} (h:RdL E β0 (Value.cells (.agg cs)).toList ds):Rd E β0 (.agg cs) (.agg ds):=by
 have:=Rd.agg (E:=E) β0 cs.toList ds (by simpa [Value.cells] using h)
 simpa using this

section
variable {H:Type} {enc:TypeId×Value→H}
theorem xF (hl:laidOutB P=true) {W W':World} (hb:Below W.heap.size W W') {sp:Nat→Bool}:∀ {ts:List TypeId} {vs:List Value} {ds:List (DataW H)} {ps:List MemPlace},
 (∀ t∈ts,P.readableRec t=true∧t<P.types.size)→DataW.TrodAll enc P W 0 (fun _=>true) true ts vs ds ps→(∀ x∈ps,x.block<W.heap.size)→(∀ x∈ps,sp x.block=true) →
 DataW.TrodAll enc P W' 0 sp true ts vs ds ps
 | [],vs,ds,ps,_,h,_,_=>by
   obtain ⟨rfl,rfl,rfl⟩:=trodAll_nil h; exact rfl
 | t::ts,vs,ds,ps,hr,h,hlt,hsp=>by
   obtain ⟨v,vs',d,ds',p,q,rfl,rfl,rfl,h1,h2⟩:=trodAll_cons h
   refine ⟨p,q,?_,xF hl hb (fun t ht=>hr t (by simp [ht])) h2 (fun x hx=>hlt x (by simp [hx])) (fun x hx=>hsp x (by simp [hx])),rfl⟩
   have hx:∀ x∈p,x∈p++q:=fun x hx=>by simp [hx]
   exact WideElems.Trod_stays hl (hr t (by simp)).1 (hr t (by simp)).2 h1 (fun x hxp=>hb.same (hlt x (hx x hxp))) (fun x hxp=>hsp x (hx x hxp))
theorem aBh {f:Func} {s:ChangeSpec} {apart fresh handsOn again:Bool} {W W':World} {args:Array Value} {v:Value} {ds gs:List (DataW H)} {before pa pv:List MemPlace}
 (hW:DataW.Whole enc P f.params.toList s.vars apart W args.toList ds gs before)
 (hres:∀ (b:Nat) (sp:Nat→Bool) (hd:Bool),DataW.TrodAll enc P W' b sp hd f.resultTypes.toList (v.resultList f.resultTypes.size) (s.fn H (ds++gs)).results [])
 (hargs:∀ sp:Nat→Bool,(∀ p∈before,sp p.block=true)→DataW.TrodAll enc P W' 0 sp true f.params.toList args.toList (s.fn H (ds++gs)).args pa)
 (hvars:∀ sp:Nat→Bool,(∀ p∈before,sp p.block=true)→DataW.TrodVars enc P W' sp s.vars (s.fn H (ds++gs)).vars pv)
 (hps:before=pa++pv) (hb:Below W.heap.size W W')
 (hok:∀ (j:Nat) (t:TypeId) (r:Value),f.resultTypes[j]? = some t→(v.resultList f.resultTypes.size)[j]? = some r→Value.okWide P W' .any 0 t r) :
 s.post enc P f apart fresh handsOn again W args v W':=by
 have hlt:∀ p∈before,p.block<W.heap.size:=fun p hp=>hW.lt p hp
 have hold:∀ p∈before,(fun b=>decide (b<W.heap.size)) p.block=true:=fun p hp=>by simpa using hlt p hp
 refine ⟨ds,gs,before,[],pa,pv,hW,hres _ _ _,hargs _ hold,hvars _ hold,World.keptBut_mono (fun p hp=>⟨hp,?_⟩) (hb.frame (· ∈ before)),fun _=>?_⟩
 · rw [hps,List.mem_append] at hp
   exact Or.inr hp
 · obtain ⟨_,_,_,_,_,hz,hn⟩:=hW
   refine ⟨hok,_,_,([]++pa)++pv,⟨[]++pa,pv,trodAll_append (hargs _ (fun _ _=>rfl)) (hres _ _ _),hvars _ (fun _ _=>rfl),rfl,?_,?_⟩,?_⟩
   · intro b off hp
     have hin:MemPlace.cell b off∈before:=by rw [hps]; simpa using hp
     rw [hb.frozen (hlt _ hin)]
     exact hz b off hin
   · intro ha
     have:=hn ha
     rw [hps] at this
     simpa using this
   · intro p hp _
     rw [hps]
     simpa using hp
theorem aF3 {f:Func} {s:ChangeSpec} {apart fresh handsOn again:Bool} {W W':World} {args:Array Value} {ds gs:List (DataW H)} {before:List MemPlace} {tb:TypeId}
 (hl:laidOutB P=true) (hr:∀ t∈f.params.toList,P.readableRec t=true∧t<P.types.size) (hv:s.vars=[]) (hres:f.resultTypes = #[tb]) (hbool:P.underlying tb=some .bool)
 (hfn:s.fn H (ds++gs) = { results:=[.lit (.bool true)],args:=ds })
 (hW:DataW.Whole enc P f.params.toList s.vars apart W args.toList ds gs before) (hb:Below W.heap.size W W'):s.post enc P f apart fresh handsOn again W args (.bool true) W':=by
 have hW':=hW
 obtain ⟨p,q,hA,hV,hbef,hfz,hnd⟩:=hW
 rw [hv] at hV
 obtain ⟨rfl,rfl⟩:=trodVars_none hV
 have hlt:∀ x∈before,x.block<W.heap.size:=fun x hx=>hW'.lt x hx
 have hsub:∀ x∈p,x∈before:=fun x hx=>by rw [hbef]; simp [hx]
 refine aBh (pa:=p) (pv:=[]) hW' ?_ ?_ ?_ ?_ hb ?_
 · intro b sp hd
   rw [hfn,hres]
   exact trodAll_mk1 (shut_bool hbool true)
 · intro sp hsp
   rw [hfn]
   exact xF hl hb hr hA (fun x hx=>hlt x (hsub x hx)) (fun x hx=>hsp x (hsub x hx))
 · intro sp hsp
   rw [hfn,hv]; exact rfl
 · exact hbef
 · exact ok_one hres rfl (okWide_bool_mk hbool true)
end
end
end Go.IL
namespace Go.IL
theorem aD9 {P:Program} {w W:World} {r:Reach} {b:Nat} {t:TypeId} {v:Value} {ds:List D} (hv:Value.okWide P W r b t v) (hg:gH P t=true) (h:RdL (Env.none w) β0 v.cells.toList ds):Rd (Env.none w) β0 v (.agg ds):=by
 unfold gH at hg
 unfold Value.okWide at hv
 split at hv
 · obtain ⟨cs,rfl,_⟩:=hv; exact aEk h
 · obtain ⟨cs,rfl,_⟩:=hv; exact aEk h
 · rename_i h1 h2
   split at hg
   · rename_i h3; exact absurd h3 (h1 _)
   · rename_i h3; exact absurd h3 (h2 _ _)
   · cases hg
theorem aD8 {P:Program} {w W:World} {r:Reach} {b:Nat} {t:TypeId} {v:Value} {d:D} (hv:Value.okWide P W r b t v) (hg:gH P t=false) (h:RdL (Env.none w) β0 v.cells.toList [d]):Rd (Env.none w) β0 v d:=by
 refine aEi h fun cs e=>?_
 subst e
 unfold gH at hg
 unfold Value.okWide at hv
 split at hv
 · rename_i h1; rw [h1] at hg; cases hg
 · rename_i h1; rw [h1] at hg; cases hg
 · unfold Cell.okWide at hv
   split at hv <;> simp_all [Cell.ok]
end Go.IL
open Go.RowKit Go.WideShapes Go.ChangeShapes
namespace Go.IL
theorem aEw {P:Program} {sp:Bool} {t e:TypeId} {n:Nat} {Q:List D→Prop} (hu:P.underlying t=some (.array n e)) (hn:P.cellsOf t=n*P.cellsOf e) (he:OpD P sp e Q):OpD P sp t (aEm (List.replicate n Q)):=by
 intro H enc w base spare held fuel cs x hx hs
 obtain ⟨xs,m,_,_,hlen,hxl,hel⟩:=DataW.trod_array hu hx
 have key:∀ (j k:Nat),k+j=n→∃ ds,RdL (Env.none w) β0 (cs.drop (k*P.cellsOf e)) ds∧aEm (List.replicate j Q) ds:=by
  intro j
  induction j with
  | zero =>
    intro k hk
    refine ⟨[],?_,rfl⟩
    rw [List.drop_of_length_le (by rw [hlen,hn,←hk]; simp)]; exact .nil _
  | succ j ih =>
    intro k hk
    obtain ⟨es,h1,h2⟩:=ih (k+1) (by omega)
    have h3:=hel k (by omega)
    rw [List.getElem?_eq_getElem (by omega)] at h3
    obtain ⟨ds,h4,h5⟩:=he h3 (fun hsp v hv=>hs hsp v (List.mem_of_mem_drop (List.mem_of_mem_take hv)))
    refine ⟨ds++es,?_,ds,es,rfl,h5,h2⟩
    have h6:=h4.append h1
    have e1:(k+1)*P.cellsOf e=k*P.cellsOf e+P.cellsOf e:=by rw [Nat.add_mul,Nat.one_mul]
    rwa [e1,←List.drop_drop,List.take_append_drop] at h6
 have:=key n 0 (by omega)
 rwa [Nat.zero_mul,List.drop_zero] at this
end Go.IL
