/-
  A part of the proof: rules and plain facts. No condition.
-/
import Derived.Test.YtfaflcdfgaoehaaGreatIlP52
import Derived.Test.YtfaflcdfgaoehaaGreatIlA29bD
import Derived.Test.YtfaflcdfgaoehaaGreatIlEq
import Derived.ProofKit
import Derived.OpenShut
set_option linter.all false
open Go Go.IL
namespace Go.Fn
theorem ji_of {W:List UInt8} {I:List Iv} {s:R12} (h:RQ W I s):JI W I:=⟨h.wl,h.il,h.vs.pw,h.vs.ne,h.vs.lo,fun x hx=>(h.ib x hx).2⟩
structure Puts (W:List UInt8) (s s':R12) (I I':List Iv) (at_ to:Int):Prop where
 rq:RQ W I' s'
 rd:s'.Base - s'.Ready.length=s.Base - s.Ready.length
 hi:∀ h,pH s.Base I h → pH s'.Base I' (if at_ < to then max h to else h)
 bs:s.Base ≤ s'.Base
 hs:∀ n,(n < s.Base ∨ mem n I ∨ (at_ ≤ n ∧ n < to)) → n < s'.Base ∨ mem n I'
 hc:∀ n,(n < s'.Base ∨ mem n I') → n < s.Base ∨ mem n I ∨ (at_ ≤ n ∧ n < to)
theorem aAv {s:R12} {a:Int} {str:List UInt8} (hs:str=[]):jX s s.Parts a str=some (s,0):=by
 unfold jX
 rw [hs]
 simp only [bndD,decide_true,dS]
theorem aAw {W:List UInt8} {I:List Iv} {s:R12} (h:RQ W I s) {a to:Int} (h0:s.Base ≤ a) (h1:a < to) (h2:to ≤ (W.length:Int)) (h3:to ≤ s.Base - s.Ready.length + 4096) :
 ∃ s' I' n,jX s s.Parts a (sl W a to)=some (s',n) ∧ RQ W I' s' ∧ s'.Base - s'.Ready.length=s.Base - s.Ready.length ∧ (∀ k,pH s.Base I k → pH s'.Base I' (max k to)) ∧ s.Base ≤ s'.Base ∧ (∀ n,(n < s.Base ∨ mem n I ∨ (a ≤ n ∧ n < to)) → n < s'.Base ∨ mem n I') ∧ ∀ n,(n < s'.Base ∨ mem n I') → n < s.Base ∨ mem n I ∨ (a ≤ n ∧ n < to):=by
 have wl:=h.wl; have b0:=h.b0; have bw:=h.bw; have rl:=h.rl; have rm:=h.rm
 have hl:=nW (W:=W) (show 0 ≤ a by omega) (by omega:a ≤ to) h2
 have hne:sl W a to ≠ []:=fun hq=>by rw [hq] at hl; simp at hl; omega
 have hji:=ji_of h
 obtain ⟨n0,hn0⟩:=held h.pl
 have es:(⟨s.Base,s.Ready,s.Parts⟩:R12)=s:=rfl
 have hx:(⟨a,to⟩:Iv).From < (⟨a,to⟩:Iv).To:=h1
 have hj:nK s.Parts (⟨a,sl W a to⟩:Pt)=some ((xV ⟨a,to⟩ I).map (pt W)):=by
  rw [h.ps]; exact join_eq hji (x:=⟨a,to⟩) (by show 0 ≤ a; omega) h1 h2
 obtain ⟨A,v,B,C,k⟩:=aE4 hx h.vs
 have hvs:=aDp h.vs k hx (by show 0 ≤ a; omega) (by show to ≤ _; omega)
 have hhi:∀ q,pH s.Base I q → _:=fun q hq=>aBw k h.vs.ne (show s.Base ≤ (⟨a,to⟩:Iv).From from h0) hx hq
 have hA:∀ y ∈ A,y ∈ I:=fun y hy=>by rw [k.sp]; simp [hy]
 have hB:∀ y ∈ B,y ∈ I:=fun y hy=>by rw [k.sp]; simp [hy]
 have hC:∀ y ∈ C,y ∈ I:=fun y hy=>by rw [k.sp]; simp [hy]
 have hmem:∀ y,y ∈ A ++ [v] ++ C ↔ y ∈ A ∨ y=v ∨ y ∈ C:=fun y=>by simp only [List.mem_append,List.mem_singleton,or_assoc]
 have hin:∀ n,(mem n I ∨ (a ≤ n ∧ n < to)) → mem n A ∨ (v.From ≤ n ∧ n < v.To) ∨ mem n C:=fun n hn=>by
  rcases hn with ⟨y,hy,h5⟩ | h5
  · rw [k.sp] at hy
    rcases List.mem_append.1 hy with hy | hy
    · exact .inl ⟨y,hy,h5⟩
    · rcases List.mem_append.1 hy with hy | hy
      · exact .inr (.inl ((k.j.m n).2 (.inr ⟨y,hy,h5⟩)))
      · exact .inr (.inr ⟨y,hy,h5⟩)
  · exact .inr (.inl ((k.j.m n).2 (.inl h5)))
 have hinK:∀ n,(n < s.Base ∨ mem n I ∨ (a ≤ n ∧ n < to)) → n < s.Base ∨ mem n (A ++ [v] ++ C):=fun n hn=>by
  rcases hn with h5 | h5
  · exact .inl h5
  · rcases hin n h5 with ⟨y,hy,h6⟩ | h6 | ⟨y,hy,h6⟩
    · exact .inr ⟨y,by simp [hy],h6⟩
    · exact .inr ⟨v,by simp,h6⟩
    · exact .inr ⟨y,by simp [hy],h6⟩
 have houtV:∀ n,(v.From ≤ n ∧ n < v.To) → mem n I ∨ (a ≤ n ∧ n < to):=fun n hn=>by
  rcases (k.j.m n).1 hn with h5 | ⟨z,hz,h5⟩
  · exact .inr h5
  · exact .inl ⟨z,hB z hz,h5⟩
 have houtK:∀ n,(n < s.Base ∨ mem n (A ++ [v] ++ C)) → n < s.Base ∨ mem n I ∨ (a ≤ n ∧ n < to):=fun n hn=>by
  rcases hn with h5 | ⟨y,hy,h5⟩
  · exact .inl h5
  · rcases (hmem y).1 hy with hy | rfl | hy
    · exact .inr (.inl ⟨y,hA y hy,h5⟩)
    · exact .inr (houtV n h5)
    · exact .inr (.inl ⟨y,hC y hy,h5⟩)
 have jf:v.From ≤ a:=k.j.f
 have jt:to ≤ v.To:=k.j.t
 have vf:s.Base ≤ v.From:=by
  rcases k.j.vf with e | ⟨y,hy,e⟩
  · have e:v.From=a:=e
    omega
  · have:=(h.ib y (hB y hy)).1; omega
 have vt:v.To ≤ (W.length:Int) ∧ v.To ≤ s.Base - s.Ready.length + 4096:=by
  rcases k.j.vt with e | ⟨y,hy,e⟩
  · have e:v.To=to:=e
    omega
  · have:=(h.ib y (hB y hy)).2; have:=h.lim y (hB y hy); omega
 have hvl:=nW (W:=W) (show 0 ≤ v.From by omega) (by omega:v.From ≤ v.To) vt.1
 have hJ1:∀ (b:Int) (r:List UInt8) (p:List Pt),p.length ≤ 100000 → ∃ n,mA n0 b r p=some ((⟨b,r,p⟩:R12),n):=fun b r p hp=>by
  obtain ⟨m,hm⟩:=held (s:=⟨b,r,p⟩) hp
  unfold mA
  rw [hm,bnoS,bndD]
  exact ⟨_,rfl⟩
 have hJl:(xV ⟨a,to⟩ I).length ≤ 100000:=by
  rw [k.e]
  have:=aAh (a:=s.Base) (b:=(W.length:Int)) hvs.pw hvs.ne (fun y hy=>by
   rcases (hmem y).1 hy with hy | rfl | hy
   · have:=h.ib y (hA y hy); omega
   · omega
   · have:=h.ib y (hC y hy); omega) bw
  omega
 unfold jX
 simp only [bndD,decide_eq_false hne,cU,es,hn0,bnoS,hj]
 rw [k.e] at hJl ⊢
 have keep:v.From ≠ s.Base ∨ A ≠ [] → RQ W (A ++ [v] ++ C) ⟨s.Base,s.Ready,(A ++ [v] ++ C).map (pt W)⟩:=fun hh=>by
  have hvb:s.Base < v.From:=by
   rcases hh with hh | hh
   · omega
   · obtain ⟨y,hy⟩:=List.exists_mem_of_ne_nil A hh
     have:=k.av y hy; have:=(h.ib y (hA y hy)).1; have:=h.vs.ne y (hA y hy)
     omega
  refine ⟨wl,b0,bw,rl,rm,h.rd,rfl,hvs,fun y hy=>?_,fun y hy=>?_⟩
  · rcases (hmem y).1 hy with hy | rfl | hy
    · exact h.ib y (hA y hy)
    · exact ⟨hvb,vt.1⟩
    · exact h.ib y (hC y hy)
  · rcases (hmem y).1 hy with hy | rfl | hy
    · exact h.lim y (hA y hy)
    · exact vt.2
    · exact h.lim y (hC y hy)
 cases A with
 | cons y A =>
   have hy:=(h.ib y (hA y (by simp))).1
   have hg:gix ((y :: A ++ [v] ++ C).map (pt W)) 0=some (pt W y):=rfl
   have hg2:((y :: A ++ [v] ++ C).map (pt W))[(0:Int).toNat]? = some (pt W y):=rfl
   have hat:(pt W y).At=y.From:=rfl
   rw [hg,bnoS,hg2,bnoS,hat,decide_eq_false (show ¬ y.From=s.Base by omega),cU]
   obtain ⟨n,hn⟩:=hJ1 s.Base s.Ready ((y :: A ++ [v] ++ C).map (pt W)) (by rw [List.length_map]; exact hJl)
   exact ⟨_,_,n,hn,keep (.inr (by simp)),rfl,fun q hq=>(hhi q hq).1,Int.le_refl _,hinK,houtK⟩
 | nil =>
   have hg:gix (([] ++ [v] ++ C).map (pt W)) 0=some (pt W v):=rfl
   have hg2:(([] ++ [v] ++ C).map (pt W))[(0:Int).toNat]? = some (pt W v):=rfl
   have hat:(pt W v).At=v.From:=rfl
   have hda:(pt W v).Data=sl W v.From v.To:=rfl
   rw [hg,bnoS,hg2,bnoS,hat]
   by_cases hc:v.From=s.Base
   · rw [decide_eq_true hc,dS,yV (show 0 ≤ v.From by omega) (by omega) vt.1 wl,bnoS,hda]
     have hcat:cat s.Ready (sl W v.From v.To)=some (sl W (s.Base - s.Ready.length) v.To):=by
      rw [wE (by omega),hc]
      congr 1
      conv=>lhs; rw [h.rd]
      exact aAs (by omega) (by omega) (by omega) vt.1
     have hnl:=nW (W:=W) (show 0 ≤ s.Base - (s.Ready.length:Int) by omega) (by omega:s.Base - (s.Ready.length:Int) ≤ v.To) vt.1
     have hdel:eC 0 1 (([] ++ [v] ++ C).map (pt W))=some (C.map (pt W)):=by
      unfold eC
      rw [delS_ok (by decide) (by decide) (by simp; omega)]; rfl
     rw [hcat,bnoS,hdel,bnoS]
     obtain ⟨n,hn⟩:=hJ1 v.To (sl W (s.Base - s.Ready.length) v.To) (C.map (pt W)) (by rw [List.length_map]; simp at hJl; omega)
     have hvC:VS C:=⟨(List.pairwise_append.1 hvs.pw).2.1,fun y hy=>hvs.ne y (by simp [hy]),fun y hy=>hvs.lo y (by simp [hy]),fun y hy=>hvs.hi y (by simp [hy])⟩
     refine ⟨_,C,n,hn,⟨wl,by show 0 ≤ v.To; omega,vt.1,?_,?_,?_,rfl,hvC,fun y hy=>⟨k.j.c y hy,(h.ib y (hC y hy)).2⟩,fun y hy=>?_⟩,?_,fun q hq=>(hhi q hq).2 rfl,by show s.Base ≤ v.To; omega,fun q hq=>?_,fun q hq=>?_⟩
     · show ((sl W _ _).length:Int) ≤ v.To; omega
     · show (sl W (s.Base - s.Ready.length) v.To).length ≤ 4096; omega
     · show sl W _ _=sl W (v.To - ((sl W (s.Base - s.Ready.length) v.To).length:Int)) v.To
       rw [hnl]; congr 1; omega
     · have:=h.lim y (hC y hy)
       show y.To ≤ v.To - ((sl W (s.Base - s.Ready.length) v.To).length:Int) + 4096
       omega
     · show v.To - ((sl W (s.Base - s.Ready.length) v.To).length:Int)=_
       omega
     · show q < v.To ∨ _
       rcases hq with h5 | h5
       · left; omega
       · rcases hin q h5 with ⟨y,hy,h6⟩ | h6 | h6
         · simp at hy
         · exact .inl h6.2
         · exact .inr h6
     · have hq:q < v.To ∨ mem q C:=hq
       rcases hq with h5 | ⟨y,hy,h5⟩
       · by_cases h6:q < s.Base
         · exact .inl h6
         · exact .inr (houtV q ⟨by omega,h5⟩)
       · exact .inr (.inl ⟨y,hC y hy,h5⟩)
   · rw [decide_eq_false hc,cU]
     obtain ⟨n,hn⟩:=hJ1 s.Base s.Ready (([] ++ [v] ++ C).map (pt W)) (by rw [List.length_map]; exact hJl)
     exact ⟨_,_,n,hn,keep (.inl hc),rfl,fun q hq=>(hhi q hq).1,Int.le_refl _,hinK,houtK⟩
theorem rput {W:List UInt8} {I:List Iv} {s:R12} (h:RQ W I s) {at_ to:Int} (h0:0 ≤ at_) (h1:at_ ≤ to) (h2:to ≤ (W.length:Int)) (h3:to ≤ s.Base - s.Ready.length + 4096) :
 ∃ s' I' n,rH s at_ (sl W at_ to)=some (s',n) ∧ Puts W s s' I I' at_ to:=by
 have a:=h.wl; have b:=h.b0; have c:=h.bw; have d:=h.rl; have e:=h.rm
 have hl:=nW (W:=W) h0 h1 h2
 have es:(⟨s.Base,s.Ready,s.Parts⟩:R12)=s:=rfl
 unfold rH
 rw [aFm h.pl,bnoS]
 simp only [bndD,decide_eq_false (show ¬ at_ < 0 by omega),decide_eq_false (show ¬ 1099511627776 < at_ by omega),Bool.or_self,beq_self_eq_true,gdtt,es,aDW h,bnoS,decide_true,Bool.not_true,cU,aFj h]
 by_cases hc:s.Base - s.Ready.length + 4096 ≤ at_
 · rw [decide_eq_true hc,dS]
   exact ⟨s,I,0,rfl,h,rfl,fun k hk=>by rw [if_neg (by omega)]; exact hk,Int.le_refl _,fun n hn=>by rcases hn with hn | hn | hn; exact .inl hn; exact .inr hn; omega,fun n hn=>hn.imp id Or.inl⟩
 · rw [decide_eq_false hc,cU]
   simp only [w64 (show -9223372036854775808 ≤ s.Base - (s.Ready.length:Int) + 4096 - at_ by omega) (by omega),hl]
   rw [xB h0 h1 h2 (by omega) (by omega) (by omega),bnoS,show at_ + (0:Int)=at_ by omega,show at_ + min (to - at_) (s.Base - (s.Ready.length:Int) + 4096 - at_)=to by omega]
   by_cases hb:at_ < s.Base
   · rw [decide_eq_true hb,dS]
     simp only [w64 (show -9223372036854775808 ≤ s.Base - at_ by omega) (by omega),hl]
     rw [xB h0 h1 h2 (by omega) (by omega) (by omega),bnoS,show at_ + (to - at_)=to by omega]
     by_cases ht:to ≤ s.Base
     · rw [aAv (vT (by omega))]
       refine ⟨s,I,0,rfl,h,rfl,fun k hk=>?_,Int.le_refl _,fun n hn=>by rcases hn with hn | hn | hn; exact .inl hn; exact .inr hn; omega,fun n hn=>hn.imp id Or.inl⟩
       have:=hk.1
       split
       · rw [show max k to=k by omega]; exact hk
       · exact hk
     · rw [show at_ + min (to - at_) (s.Base - at_)=s.Base by omega]
       obtain ⟨s',I',n,q1,q2,q3,q4,q5,q6,q7⟩:=aAw h (a:=s.Base) (to:=to) (Int.le_refl _) (by omega) h2 h3
       exact ⟨s',I',n,q1,q2,q3,fun k hk=>by rw [if_pos (by omega)]; exact q4 k hk,q5,fun n hn=>q6 n (by rcases hn with hn | hn | hn; exact .inl hn; exact .inr (.inl hn); by_cases hz:n < s.Base; exact .inl hz; exact .inr (.inr ⟨by omega,hn.2⟩)),fun n hn=>by rcases q7 n hn with hn | hn | hn; exact .inl hn; exact .inr (.inl hn); exact .inr (.inr ⟨by omega,hn.2⟩)⟩
   · rw [decide_eq_false hb,cU]
     by_cases ht:at_ < to
     · obtain ⟨s',I',n,q1,q2,q3,q4,q5,q6,q7⟩:=aAw h (a:=at_) (to:=to) (by omega) ht h2 h3
       exact ⟨s',I',n,q1,q2,q3,fun k hk=>by rw [if_pos ht]; exact q4 k hk,q5,q6,q7⟩
     · rw [aAv (vT (by omega))]
       exact ⟨s,I,0,rfl,h,rfl,fun k hk=>by rw [if_neg ht]; exact hk,Int.le_refl _,fun n hn=>by rcases hn with hn | hn | hn; exact .inl hn; exact .inr hn; omega,fun n hn=>hn.imp id Or.inl⟩
theorem rread {W:List UInt8} {I:List Iv} {s:R12} (h:RQ W I s) (n:Int) (hn:n ≤ 100000) :
 ∃ s' m,pR s n=some (s',sl W (s.Base - s.Ready.length) (s.Base - s.Ready.length + m)) ∧ RQ W I s' ∧ s'.Base=s.Base ∧ 0 ≤ m ∧ m ≤ s.Ready.length ∧ s'.Base - s'.Ready.length=s.Base - s.Ready.length + m ∧ (1 ≤ n → m=min n s.Ready.length):=by
 have a:=h.wl; have b:=h.b0; have c:=h.bw; have d:=h.rl; have e:=h.rm
 have es:(⟨s.Base,s.Ready,s.Parts⟩:R12)=s:=rfl
 unfold pR
 rw [aFm h.pl,bnoS]
 by_cases hc:n < 1
 · simp only [bndD,decide_eq_true hc,tf,gdff,bnoS,Bool.true_or,dS,es]
   refine ⟨s,0,?_,h,rfl,by omega,by omega,by omega,by omega⟩
   rw [vT (by omega)]
 · simp only [bndD,decide_eq_false hc,beq_self_eq_true,gdtt,es,aDW h,bnoS,decide_true,Bool.not_true,Bool.or_self,cU]
   have hrd:=h.rd
   have hc1:cut s.Ready 0 (min n s.Ready.length)=some (sl W (s.Base - s.Ready.length) (s.Base - s.Ready.length + min n s.Ready.length)):=by
    conv=>lhs; arg 1; rw [hrd]
    rw [xB (by omega) (by omega) c (by omega) (by omega) (by omega),show s.Base - (s.Ready.length:Int) + 0=s.Base - s.Ready.length by omega]
   have hc2:cut s.Ready (min n s.Ready.length) (s.Ready.length:Int)=some (sl W (s.Base - s.Ready.length + min n s.Ready.length) s.Base):=by
    conv=>lhs; arg 1; rw [hrd]
    rw [xB (by omega) (by omega) c (by omega) (by omega) (by omega),show s.Base - (s.Ready.length:Int) + (s.Ready.length:Int)=s.Base by omega]
   rw [hc1,bnoS,hc2,bnoS]
   have hl2:=nW (W:=W) (a:=s.Base - s.Ready.length + min n s.Ready.length) (b:=s.Base) (by omega) (by omega) c
   refine ⟨⟨s.Base,sl W (s.Base - s.Ready.length + min n s.Ready.length) s.Base,s.Parts⟩,min n s.Ready.length,rfl,⟨a,b,c,?_,?_,?_,h.ps,h.vs,h.ib,fun x hx=>?_⟩,rfl,by omega,by omega,?_,fun _=>rfl⟩
   · show ((sl W _ _).length:Int) ≤ s.Base; omega
   · show (sl W _ _).length ≤ 4096; omega
   · show sl W _ _=sl W (s.Base - ((sl W (s.Base - s.Ready.length + min n s.Ready.length) s.Base).length:Int)) s.Base
     rw [hl2]; congr 1; omega
   · have:=h.lim x hx
     show x.To ≤ s.Base - ((sl W (s.Base - s.Ready.length + min n s.Ready.length) s.Base).length:Int) + 4096
     omega
   · show s.Base - ((sl W (s.Base - s.Ready.length + min n s.Ready.length) s.Base).length:Int)=_
     omega
end Go.Fn
open Go Go.IL
namespace Go.Fn
abbrev St25:=rY
abbrev Lg:=oU
def LgOk (l:Lg):Prop:=0 ≤ l.Read ∧ l.Read ≤ l.Used ∧ l.Used ≤ l.Limit ∧ l.Limit ≤ 1000000 ∧ 1 ≤ l.Window ∧ l.Window ≤ 4096
structure SG (st:St25) (W:List UInt8) (I:List Iv) (k:Int):Prop where
 id:st.ID=5
 mi : -1 ≤ st.Mine ∧ st.Mine ≤ 255
 he : -1 ≤ st.Hers ∧ st.Hers ≤ 255
 oo:LgOk st.Out
 io:LgOk st.In
 g:G st.Send
 rq:RQ W I st.Recv.Recv
 hi:pH st.Recv.Recv.Base I k
 en:st.Recv.End = -1 ∨ (k ≤ st.Recv.End ∧ st.Recv.End ≤ 1000000)
 ou:st.Out.Used=st.Send.Next
 iu:st.In.Used=max st.Recv.End k
 ir:st.In.Read=st.Recv.Recv.Base - st.Recv.Recv.Ready.length
 il:st.In.Limit ≤ st.In.Read + st.In.Window
end Go.Fn
open Go Go.IL
namespace Go.Fn
section
variable {st:St25} {W:List UInt8} {I:List Iv} {k:Int}
end
end Go.Fn
open Go Go.IL
namespace Go.Fn
abbrev Ln:=vE
end Go.Fn
open Go Go.IL
namespace Go.Fn
structure LI (w:Int) (n m:Nat) (l:Ln) (I:List Iv) (k:Int):Prop where
 sa:SG l.a [] [] 0
 sb:SG l.b l.wrote I k
 am:l.a.Mine = -1 ∧ l.a.Hers = -1
 bm:l.b.Mine = -1 ∧ l.b.Hers = -1
 al:All l.a.Send l.wrote
 en:l.b.Recv.End = -1 ∨ (l.b.Recv.End=(l.wrote.length:Int) ∧ l.a.Send.Closed=true ∧ l.a.Send.Next=(l.wrote.length:Int) ∧ l.a.Send.Sent=true)
 kn:k ≤ l.a.Send.Next
 gi:l.a.Out.Limit + l.given=l.b.In.Limit ∧ 0 ≤ l.given
 bw:l.b.In.Window=w
 wn:∀ q ∈ l.went,0 ≤ q.at_ ∧ ∃ to,q.at_ ≤ to ∧ to ≤ l.a.Send.Next ∧ q.s=sl l.wrote q.at_ to ∧ (q.fin=true → l.a.Send.Closed=true ∧ to=(l.wrote.length:Int) ∧ l.a.Send.Sent=true)
 rd:l.read=sl l.wrote 0 l.b.In.Read
 fi:l.end_=true → l.b.In.Read=(l.wrote.length:Int) ∧ l.a.Send.Closed=true ∧ l.b.Recv.End=(l.wrote.length:Int)
 wb:l.wrote.length ≤ 100 * n
 ml:l.went.length ≤ m
 ab:l.a.Send.Base ≤ l.b.Recv.Recv.Base
 dn:l.a.Send.Done=true → l.b.Recv.End=(l.wrote.length:Int)
theorem LI.mono {w:Int} {n m n' m':Nat} {l:Ln} {I:List Iv} {k:Int} (h:LI w n m l I k) (hn:n ≤ n') (hm:m ≤ m'):LI w n' m' l I k :=
 ⟨h.sa,h.sb,h.am,h.bm,h.al,h.en,h.kn,h.gi,h.bw,h.wn,h.rd,h.fi,by have:=h.wb; omega,by have:=h.ml; omega,h.ab,h.dn⟩
theorem LI.nx {w:Int} {n m:Nat} {l:Ln} {I:List Iv} {k:Int} (h:LI w n m l I k):l.a.Send.Next ≤ (l.wrote.length:Int):=by rw [h.al.len]; exact h.al.g.nd
theorem rq_ext {W e:List UInt8} {I:List Iv} {s:R12} (h:RQ W I s) (hl:(W ++ e).length ≤ 100000):RQ (W ++ e) I s:=by
 have hw:(W ++ e).length=W.length + e.length:=List.length_append
 have hbw:=h.bw
 refine ⟨hl,h.b0,by omega,h.rl,h.rm,by rw [aDK hbw]; exact h.rd,?_,h.vs,fun x hx=>⟨(h.ib x hx).1,by have:=(h.ib x hx).2; omega⟩,h.lim⟩
 rw [h.ps]
 apply List.map_congr_left
 intro x hx
 unfold pt
 rw [aDK (h.ib x hx).2]
section
variable {w:Int} {n m:Nat} {l:Ln} {I:List Iv} {k:Int}
end
end Go.Fn
open Go Go.IL
namespace Go.Fn
section
variable {w:Int} {n m:Nat} {l:Ln} {I:List Iv} {k:Int}
end
end Go.Fn
open Go Go.IL
namespace Go.Fn
section
variable {w:Int} {n m:Nat} {l:Ln} {I:List Iv} {k:Int}
end
end Go.Fn
open Go Go.IL
namespace Go.Fn
theorem aFL {s t:List UInt8} (hs:s.length + t.length ≤ 100000):∃ l,nQ (stOf s) t=some (stOf (s ++ t),l) ∧ (eat (s ++ t)).1=(eat s).1 ++ l:=by
 obtain ⟨h1,h2,h3,_⟩:=aBW s
 have ha:=zJ s t
 unfold nQ
 rw [zK (by omega)]
 by_cases hb:(eat s).2.2=0
 · rw [if_pos hb] at ha
   have hl:=h1 hb
   have hbad:(stOf s).Bad=0:=hb
   refine ⟨(eat ((eat s).2.1 ++ t)).1,?_,by rw [ha]⟩
   simp only [gI]
   rw [decide_eq_true hbad]
   simp only [Bool.not_true,show (false == false)=true from rfl,gd_tt,dI,decide_true,Bool.or_false,cond_false]
   rw [wE (by show (eat s).2.1.length + _ ≤ _; omega),dI]
   have:=aEF (stOf s) fuel ((eat s).2.1 ++ t) (eat s).1.length [] (eM (by rw [List.length_append]; omega)) (by simp; omega) (by simp; omega)
   have e1:(stOf s).Buf=(eat s).2.1:=rfl
   have e2:(stOf s).Seen=((eat s).1.length:Int):=rfl
   rw [e1,e2,this,List.nil_append,hbad]
   unfold stOf
   rw [ha]
   simp only [List.length_append]
   congr 3
   split
   · rename_i h; exact h.symm
   · rfl
 · rw [if_neg hb] at ha
   have hbad:¬ (stOf s).Bad=0:=hb
   refine ⟨[],?_,by rw [ha]; simp⟩
   have e3:stOf (s ++ t)=stOf s:=by unfold stOf; rw [ha]
   rw [e3]
   simp only [gI]
   rw [decide_eq_false hbad]
   rfl
theorem aEI {l:List aH} (h:∀ f ∈ l,Fine f) (i:Nat):(eat ((cats l).take i)).2.2=0 ∧ ∃ r,l=(eat ((cats l).take i)).1 ++ r:=by
 have ha:=zJ ((cats l).take i) ((cats l).drop i)
 rw [List.take_append_drop,aAV l h] at ha
 by_cases hb:(eat ((cats l).take i)).2.2=0
 · rw [if_pos hb] at ha
   exact ⟨hb,_,congrArg Prod.fst ha⟩
 · rw [if_neg hb] at ha
   exact absurd (by rw [← ha]) hb
theorem aFT (a b:List aH):cats (a ++ b)=cats a ++ cats b:=by unfold cats; rw [List.flatMap_append]
theorem aCG {W:List UInt8} {I:List Iv} {s:R12} (h:RQ W I s):mB ⟨s,-1⟩=some 0:=by
 obtain ⟨k,e,hk⟩:=rhigh h (-1)
 unfold mB tW nL
 have e:gQ ⟨s,-1⟩=some k:=e
 simp only [aDW h,bnoS,bndD,decide_true,Bool.not_true,cU,e]
 simp only [Bool.not_true,ft,gdff,bnoS,Bool.false_and,cU]
theorem raput {W:List UInt8} {I:List Iv} {s:R12} (h:RQ W I s) {a to:Int} (h0:0 ≤ a) (h1:a ≤ to) (h2:to ≤ (W.length:Int)) (h3:to ≤ s.Base - s.Ready.length + 4096) :
 ∃ s' I' n,tV ⟨s,-1⟩ a (sl W a to) false=some (⟨s',-1⟩,n,0) ∧ Puts W s s' I I' a to:=by
 have hl:=nW (W:=W) h0 h1 h2
 have hw:=h.wl
 obtain ⟨s',I',n,p1,p2⟩:=rput h h0 h1 h2 h3
 refine ⟨s',I',n,?_,p2⟩
 have hclosed:iV ⟨s,-1⟩ to false=some false:=by
  unfold iV iA
  simp only [bndD,bnoS,show decide ((0:Int) ≤ -1)=false from rfl,cU]
  rfl
 unfold tV nL
 simp only [bndD,decide_eq_false (show ¬ a < 0 by omega),hl,w64 (show -9223372036854775808 ≤ 1099511627776 - (to - a) by omega) (by omega),decide_eq_false (show ¬ 1099511627776 - (to - a) < a by omega),Bool.or_self,beq_self_eq_true,gdtt,aCG h,bnoS,decide_true,Bool.not_true,cU,w64 (show -9223372036854775808 ≤ a + (to - a) by omega) (by omega),show a + (to - a)=to by omega,w64 (show -9223372036854775808 ≤ to by omega) (by omega),hclosed,p1]
 rfl
theorem raread {W:List UInt8} {I:List Iv} {s:R12} (h:RQ W I s) {n:Int} (hn:n ≤ 100000) (hm:(s.Ready.length:Int) ≤ n) (h1:1 ≤ n) :
 ∃ s' e,rJ ⟨s,-1⟩ n=some (⟨s',-1⟩,sl W (s.Base - s.Ready.length) s.Base,e) ∧ RQ W I s' ∧ s'.Base=s.Base ∧ s'.Ready=[]:=by
 obtain ⟨s',m,e1,q1,q2,q3,q4,q5,q6⟩:=rread h n hn
 have hm2:=q6 h1
 have hz:s'.Ready=[]:=List.eq_nil_of_length_eq_zero (by omega)
 have hen:pT ⟨s',-1⟩=some false:=by
  unfold pT sE nL iA
  simp only [bndD,bnoS,hz,decide_true,beq_self_eq_true,gdtt,show decide ((0:Int) ≤ -1)=false from rfl,Bool.true_and,ft,gdff,Bool.false_and,cU]
 refine ⟨s',false,?_,q1,q2,hz⟩
 unfold rJ
 rw [show s.Base - (s.Ready.length:Int) + m=s.Base by omega] at e1
 simp only [e1,bnoS,hen,bndD]
end Go.Fn
open Go Go.IL
namespace Go.Fn
abbrev Ct:=bB
abbrev Fr:=aH
theorem aB8:hY=some true:=by kernel_rfl
def carB (k:Int):Bool:=decide (k=1) || (decide (k=2) || (decide (k=3) || (decide (k=4) || (decide (k=6) || (decide (k=7) || decide (k=8))))))
theorem zL (k:Int):lH k=some (carB k):=by
 unfold lH carB
 simp only [bndD]
 cases decide (k=1)
 · cases decide (k=2)
   · cases decide (k=3)
     · cases decide (k=4)
       · cases decide (k=6)
         · cases decide (k=7)
           · cases decide (k=8) <;> rfl
           · rfl
         · rfl
       · rfl
     · rfl
   · rfl
 · rfl
theorem odd_L {l:List Fr} (hl:l.length ≤ 1000000) (hc:∀ f ∈ l,carB f.Kind=true):∀ (r p:List Fr) (f:Nat),l=p ++ r → r.length < f → bW l f (p.length:Int)=some (-1)
 | [],p,f + 1,h,_=>by
   rw [bW]
   simp only [bndD,uJ h,cU]
 | x :: r,p,f + 1,h,hf=>by
   have hx:=hc x (by rw [h]; simp)
   have ho:kN x=some false:=by
    unfold kN
    rw [zL,bnoS,hx]; rfl
   rw [bW]
   simp only [bndD,nO h,dS,iF h,bnoS,ho,cU,w_at h hl]
   exact odd_L hl hc r (p ++ [x]) f (kS h) (by simpa using hf)
theorem odd_no {l:List Fr} (hl:l.length ≤ 1000000) (hc:∀ f ∈ l,carB f.Kind=true):dG l=some (-1):=odd_L hl hc l [] fuel rfl (eM (by omega))
theorem aCU {st:Ct} {W:List UInt8} {I:List Iv} (hg:G st.Send) (hc:st.Send.Closed=false) (hr:RQ W I st.Recv.Recv) (he:st.Recv.End = -1) (hz:st.Recv.Recv.Ready=[]) {s:List UInt8} (hi:st.In=stOf s) (hb:(eat s).2.2=0) (hs:s.length ≤ 1000000):dD st=some 0:=by
 have e:st.Recv=⟨st.Recv.Recv,-1⟩:=by rw [← he]
 have hra:mB st.Recv=some 0:=by rw [e]; exact aCG hr
 have hbad:st.In.Bad=0:=by rw [hi]; exact hb
 have hin:kH st.In=some 0:=by rw [hi]; exact zK hs
 unfold dD
 simp only [tP hg,bnoS,bndD,decide_true,Bool.not_true,cU,hra,hin,hc,he,hz,hbad,show decide ((0:Int) ≤ -1)=false from rfl,Bool.or_self]
theorem csend {st:Ct} (hck:dD st=some 0) (hg:G st.Send) (hc:st.Send.Closed=false) {f:Fr} (h0:0 ≤ f.Kind) (h1:f.Kind ≤ 255) (hl:Lite f) :
 (∃ e,e ≠ 0 ∧ hM st f=some (st,e)) ∨ (Fine f ∧ carB f.Kind=true ∧ writeN st.Send (putF f).1=(putF f).1.length ∧ hM st f=some (⟨wX st.Send (putF f).1,st.Recv,st.In⟩,0)):=by
 unfold hM
 simp only [hck,bnoS,bndD,decide_true,Bool.not_true,cU,zL]
 cases hk:carB f.Kind
 · left; exact ⟨12,by decide,rfl⟩
 · simp only [Bool.not_true,cU,put_F h0 h1 hl,bnoS]
   by_cases hz:(putF f).2=0
   · have hchk:chkF f=0:=by
      unfold putF at hz
      by_cases hq:chkF f=0
      · exact hq
      · rw [if_neg hq] at hz; exact hz
     have hf:Fine f:=⟨h0,h1,hchk⟩
     have hpp:=put_pos hf
     simp only [hz,decide_true,Bool.not_true,cU,aFi hg,bnoS,write23 hg (putF f).1 (by omega)]
     by_cases hr:tG st.Send < ((putF f).1.length:Int)
     · left; rw [decide_eq_true hr,dS]; exact ⟨7,by decide,rfl⟩
     · rw [decide_eq_false hr,cU]
       by_cases hw:(writeN st.Send (putF f).1:Int) < ((putF f).1.length:Int)
       · left; rw [decide_eq_true hw,dS]; exact ⟨7,by decide,rfl⟩
       · rw [decide_eq_false hw,cU]
         right
         have:=(wY hg (putF f).1).2
         exact ⟨hf,by trivial,by omega,rfl⟩
   · left
     rw [decide_eq_false hz]
     exact ⟨_,hz,rfl⟩
theorem odata {st:Ct} {W:List UInt8} {I:List Iv} (hck:dD st=some 0) (hr:RQ W I st.Recv.Recv) (he:st.Recv.End = -1) (hz:st.Recv.Recv.Ready=[]) (hi:st.In=stOf (sl W 0 st.Recv.Recv.Base)) {l:List Fr} (hW:W=cats l) (hl:∀ f ∈ l,Fine f ∧ carB f.Kind=true) (hll:l.length ≤ 1000)
 {a to:Int} (h0:0 ≤ a) (h1:a ≤ to) (h2:to ≤ (W.length:Int)) (h3:to ≤ st.Recv.Recv.Base + 4096) :
 ∃ st' I' o,fF st a (sl W a to)=some (st',o,0) ∧ st'.Send=st.Send ∧ RQ W I' st'.Recv.Recv ∧ st'.Recv.End = -1 ∧ st'.Recv.Recv.Ready=[] ∧ st'.In=stOf (sl W 0 st'.Recv.Recv.Base) ∧ (eat (sl W 0 st'.Recv.Recv.Base)).1=(eat (sl W 0 st.Recv.Recv.Base)).1 ++ o ∧ st.Recv.Recv.Base ≤ st'.Recv.Recv.Base ∧
 (∀ n,(n < st.Recv.Recv.Base ∨ mem n I ∨ (a ≤ n ∧ n < to)) → n < st'.Recv.Recv.Base ∨ mem n I') ∧ (∀ k,pH st.Recv.Recv.Base I k → pH st'.Recv.Recv.Base I' (if a < to then max k to else k)) ∧ o.length ≤ 1000 ∧ (∀ n,(n < st'.Recv.Recv.Base ∨ mem n I') → n < st.Recv.Recv.Base ∨ mem n I ∨ (a ≤ n ∧ n < to)):=by
 have hb0:=hr.b0; have hbw:=hr.bw; have hwl:=hr.wl
 have e:st.Recv=⟨st.Recv.Recv,-1⟩:=by rw [← he]
 have hz0:st.Recv.Recv.Ready.length=0:=by rw [hz]; rfl
 obtain ⟨s1,I1,n,p1,p2⟩:=raput hr h0 h1 h2 (by omega)
 rw [← e] at p1
 have hrm:=p2.rq.rm; have hrl:=p2.rq.rl; have hb1:=p2.rq.b0; have hbw1:=p2.rq.bw
 have hrd:=p2.rd
 obtain ⟨s2,en,q1,q2,q3,q4⟩:=raread p2.rq (n:=4096) (by decide) (by omega) (by decide)
 rw [show s1.Base - (s1.Ready.length:Int)=st.Recv.Recv.Base by omega] at q1
 have hbs:=p2.bs
 have hl1:=nW (W:=W) (a:=0) (b:=st.Recv.Recv.Base) (Int.le_refl _) hb0 hbw
 have hl2:=nW (W:=W) (a:=st.Recv.Recv.Base) (b:=s1.Base) hb0 (by omega) hbw1
 obtain ⟨o,f1,f2⟩:=aFL (s:=sl W 0 st.Recv.Recv.Base) (t:=sl W st.Recv.Recv.Base s1.Base) (by omega)
 rw [aAs (Int.le_refl _) hb0 (by omega) hbw1] at f1 f2
 rw [← hi] at f1
 have hpre:(eat (sl W 0 s1.Base)).2.2=0 ∧ ∃ r,l=(eat (sl W 0 s1.Base)).1 ++ r:=by
  rw [aDJ,hW]; exact aEI (fun f hf=>(hl f hf).1) _
 obtain ⟨g1,r,g2⟩:=hpre
 have hol:o.length ≤ 1000:=by
  have:=congrArg List.length g2
  rw [f2] at this
  simp only [List.length_append] at this
  omega
 have hodd:=odd_no (l:=o) (by omega) (fun f hf=>(hl f (by rw [g2,f2]; simp [hf])).2)
 have hbad:(stOf (sl W 0 s1.Base)).Bad=0:=g1
 have hfault:qI 0=some ⟨0,0⟩:=rfl
 refine ⟨⟨st.Send,⟨s2,-1⟩,stOf (sl W 0 s1.Base)⟩,I1,o,?_,rfl,q2,rfl,q4,?_,?_,?_,?_,?_,hol,?_⟩
 · unfold fF
   simp only [hck,bnoS,bndD,decide_true,Bool.not_true,cU,p1,q1,f1,hodd,show decide ((0:Int) ≤ -1)=false from rfl,hbad,hfault]
 · show stOf (sl W 0 s1.Base)=stOf (sl W 0 s2.Base); rw [q3]
 · show (eat (sl W 0 s2.Base)).1=_; rw [q3]; exact f2
 · show _ ≤ s2.Base; omega
 · show ∀ n,_ → n < s2.Base ∨ _; rw [q3]; exact p2.hs
 · show ∀ k,_ → pH s2.Base I1 _; rw [q3]; exact p2.hi
 · show ∀ n,(n < s2.Base ∨ _) → _; rw [q3]; exact p2.hc
end Go.Fn
open Go Go.IL
namespace Go.Fn
def recv0:bX:=⟨⟨0,[],[]⟩,-1⟩
def ct0:Ct:=⟨new23,recv0,⟨[],0,0⟩⟩
theorem new29:lY=some ct0:=rfl
theorem rq0 {W:List UInt8} (hW:W.length ≤ 100000):RQ W [] ⟨0,[],[]⟩ :=
 ⟨hW,Int.le_refl _,by show (0:Int) ≤ W.length; omega,by show (([]:List UInt8).length:Int) ≤ 0; decide,by show ([]:List UInt8).length ≤ 4096; decide,by show ([]:List UInt8)=sl W (0 - (([]:List UInt8).length:Int)) 0; rw [vT (by decide)],rfl,VS.nil,fun _ h=>(List.not_mem_nil h).elim,fun _ h=>(List.not_mem_nil h).elim⟩
def sendL (b:List UInt8):S23:=⟨0,b,0,[],[],false,false,false,false⟩
structure PI (sent:List Fr):Prop where
 fr:∀ f ∈ sent,Fine f ∧ carB f.Kind=true
 pr:∀ f ∈ sent,f.Pairs.length ≤ 10
 g:G (sendL (cats sent))
theorem cut_sl {W:List UInt8} {i j:Int} (h0:0 ≤ i) (h1:i ≤ j) (h2:j ≤ (W.length:Int)):cut W i j=some (sl W i j):=by
 unfold cut sl
 rw [if_pos ⟨h0,h1,h2⟩]
end Go.Fn
open Go Go.IL
namespace Go.Fn
def sz:List Iv → Int
 | []=>0
 | x :: r=>(x.To - x.From) + sz r
theorem aAo:∀ (a b:List Iv),sz (a ++ b)=sz a + sz b
 | [],b=>by show sz b=0 + sz b; omega
 | x :: r,b=>by
   have:=aAo r b
   show (x.To - x.From) + sz (r ++ b)=(x.To - x.From) + sz r + sz b
   omega
theorem sz_nn:∀ {l:List Iv},(∀ x ∈ l,x.From < x.To) → 0 ≤ sz l
 | [],_=>Int.le_refl _
 | x :: r,h=>by
   have:=sz_nn (l:=r) (fun y hy=>h y (by simp [hy]))
   have:=h x (by simp)
   show 0 ≤ (x.To - x.From) + sz r
   omega
theorem aEi (y x:Iv) (hy:y.From < y.To) (hx:x.From < x.To):sz (oV y x) ≤ y.To - y.From:=by
 unfold oV
 rw [aAo]
 have e1:sz (if y.From < min y.To x.From then [(⟨y.From,min y.To x.From⟩:Iv)] else [])=if y.From < min y.To x.From then min y.To x.From - y.From else 0:=by
  split
  · show (min y.To x.From - y.From) + 0=_; omega
  · rfl
 have e2:sz (if max y.From x.To < y.To then [(⟨max y.From x.To,y.To⟩:Iv)] else [])=if max y.From x.To < y.To then y.To - max y.From x.To else 0:=by
  split
  · show (y.To - max y.From x.To) + 0=_; omega
  · rfl
 rw [e1,e2]
 split <;> split <;> omega
theorem sz_head (y x:Iv) (hy:y.From < y.To) (hx:x.From < x.To) (he:x.From=y.From) (ht:x.To ≤ y.To):sz (oV y x) + 1 ≤ y.To - y.From:=by
 unfold oV
 rw [aAo,if_neg (by omega)]
 have e2:sz (if max y.From x.To < y.To then [(⟨max y.From x.To,y.To⟩:Iv)] else [])=if max y.From x.To < y.To then y.To - max y.From x.To else 0:=by
  split
  · show (y.To - max y.From x.To) + 0=_; omega
  · rfl
 rw [e2]
 show 0 + _ + 1 ≤ _
 split <;> omega
theorem aDG (x:Iv) (hx:x.From < x.To):∀ {l:List Iv},(∀ y ∈ l,y.From < y.To) → sz (cutS l x) ≤ sz l
 | [],_=>Int.le_refl _
 | y :: r,h=>by
   have h1:=aDG x hx (l:=r) (fun z hz=>h z (by simp [hz]))
   have h2:=aEi y x (h y (by simp)) hx
   have e:cutS (y :: r) x=oV y x ++ cutS r x:=by unfold cutS; rw [List.flatMap_cons]
   rw [e,aAo]
   show _ ≤ (y.To - y.From) + sz r
   omega
theorem sz_cuth (x y:Iv) {r:List Iv} (hx:x.From < x.To) (h:∀ z ∈ y :: r,z.From < z.To) (he:x.From=y.From) (ht:x.To ≤ y.To):sz (cutS (y :: r) x) + 1 ≤ sz (y :: r):=by
 have h1:=aDG x hx (l:=r) (fun z hz=>h z (by simp [hz]))
 have h2:=sz_head y x (h y (by simp)) hx he ht
 have e:cutS (y :: r) x=oV y x ++ cutS r x:=by unfold cutS; rw [List.flatMap_cons]
 rw [e,aAo]
 show _ ≤ (y.To - y.From) + sz r
 omega
theorem sz_le:∀ {l:List Iv} {a b:Int},l.Pairwise (fun x y=>x.To < y.From) → (∀ x ∈ l,x.From < x.To) → (∀ x ∈ l,a ≤ x.From ∧ x.To ≤ b) → a ≤ b → sz l ≤ b - a
 | [],a,b,_,_,_,h=>by show (0:Int) ≤ _; omega
 | x :: r,a,b,hp,hn,hb,h=>by
   have hp:=List.pairwise_cons.1 hp
   have h1:=hb x (by simp)
   have h2:=hn x (by simp)
   have:=sz_le (l:=r) (a:=x.To) (b:=b) hp.2 (fun y hy=>hn y (by simp [hy])) (fun y hy=>⟨by have:=hp.1 y hy; omega,(hb y (by simp [hy])).2⟩) h1.2
   show (x.To - x.From) + sz r ≤ _
   omega
def blkS (s:S23) (lim:Int):Int:=if s.Next < endS s ∧ lim ≤ s.Next then 1 else 0
def finS (s:S23):Int:=if dueS s=true then 1 else 0
def left (s:S23) (lim:Int):Int:=sz s.Lost + 2 * (endS s - s.Next) + blkS s lim + finS s
theorem aER {s:S23} (h:G s) {n:Int} {fin:Bool} (hb:s.Base ≤ n) {s':S23} (e:s'=if tB s n fin then aAa s n fin else s) :
 s'.Next=s.Next ∧ s'.Closed=s.Closed ∧ endS s'=endS s ∧ sz s'.Lost ≤ sz s.Lost ∧ (dueS s'=true → dueS s=true) ∧ (∀ k,¬ mem k s'.Lost → ¬ mem k s.Lost ∨ k < n) ∧
 (s'.Sent=true → s'.Again=false → (s.Sent=true ∧ s.Again=false) ∨ (fin=true ∧ n=endS s)):=by
 subst e
 by_cases hc:tB s n fin
 · rw [if_pos hc]
   have hm:max n s.Base=n:=by omega
   have hl:(aAa s n fin).Lost=wJ s.Lost n:=by show wJ s.Lost (max n s.Base)=_; rw [hm]
   refine ⟨rfl,rfl,aAZ h hc,?_,?_,fun k hk=>?_,?_⟩
   · rw [hl]
     unfold wJ
     split
     · exact Int.le_refl _
     · exact aDG _ (by show 0 < n; omega) h.lv.ne
   · intro hd
     unfold dueS aAa at hd
     unfold dueS
     revert hd
     cases fin <;> cases s.Closed <;> cases s.Done <;> cases s.Again <;> cases s.Sent <;> simp
   · rw [hl,xU (fun x hx=>by have:=h.lb x hx; have:=h.b0; omega)] at hk
     by_cases hx:k < n
     · exact .inr hx
     · exact .inl (fun hm=>hk ⟨hm,by omega⟩)
   · intro h1 h2
     cases fin
     · exact .inl ⟨h1,h2⟩
     · exact .inr ⟨rfl,(hc.2.2 rfl).1⟩
 · rw [if_neg hc]
   exact ⟨rfl,rfl,rfl,Int.le_refl _,id,fun k hk=>.inl hk,fun h1 h2=>.inl ⟨h1,h2⟩⟩
end Go.Fn
open Go Go.IL
namespace Go.Fn
theorem aFo {f:Fr} (h:Fine f):(putF f).1.length ≤ 70:=by
 have hg:=aAY h.ok
 have hl:=hg.pay_le
 have hv:=zM hg.vpay
 have hs:mT ((pay f).length:Int) ≤ 2:=by
  unfold mT
  split
  · omega
  · split
    · omega
    · rw [if_pos (by omega)]; omega
 have hv2:=hv.2
 unfold putF
 rw [if_pos h.ok]
 simp
 omega
theorem aB6:∀ (l:List Fr),(∀ f ∈ l,Fine f) → (cats l).length ≤ 70 * l.length
 | [],_=>Nat.le_refl _
 | x :: l,h=>by
   have h1:=aB6 l (fun f hf=>h f (by simp [hf]))
   have h2:=aFo (h x (by simp))
   have e:cats (x :: l)=(putF x).1 ++ cats l:=rfl
   rw [e,List.length_append,List.length_cons]; omega
theorem aFN {s:S23} (hc:s.Closed=false):dueS s=false:=by unfold dueS; rw [hc]; rfl
theorem aAF {s:S23} (h:G s) (hc:s.Closed=false) {m lim:Int} (hm:1 ≤ m) (hl:endS s ≤ lim):(iN s m lim).2=true ↔ s.Lost ≠ [] ∨ s.Next < endS s:=by
 have hnd:=h.nd
 unfold iN
 cases hs:s.Lost with
 | cons x r=>simp
 | nil =>
   by_cases hq:0 < endS s - s.Next
   · simp only [if_pos hq]
     rw [decide_eq_true (by omega)]
     exact ⟨fun _=>.inr (by omega),fun _=>rfl⟩
   · simp only [if_neg hq]
     rw [aFN hc]
     refine ⟨fun h=>(by cases h),fun h=>?_⟩
     rcases h with h | h
     · exact absurd rfl h
     · omega
def rest (s:S23):Int:=sz s.Lost + (endS s - s.Next)
theorem aDP {s:S23} (h:G s):0 ≤ rest s:=by
 have:=sz_nn h.lv.ne; have:=h.nd
 unfold rest; omega
theorem aDc {s:S23} (h:G s) (hc:s.Closed=false) {p m lim:Int} {A B:List Pc} (hm:1 ≤ m) (hl:endS s ≤ lim) (hn:(iN s m lim).2=true):rest (rK s (pieceS s p m lim) (pV s (pieceS s p m lim)) A B) + 1 ≤ rest s:=by
 have hnn:=sz_nn h.lv.ne
 have hnd:=h.nd
 have hend:endS (rK s (pieceS s p m lim) (pV s (pieceS s p m lim)) A B)=endS s:=rfl
 unfold rest
 rw [hend]
 cases hs:s.Lost with
 | cons x r =>
   have hx:x ∈ s.Lost:=by rw [hs]; simp
   have a1:=h.lv.ne x hx
   have a2:=h.lb x hx
   have e:iN s m lim=(⟨x.From,x.From + min m (x.To - x.From),0,false⟩,true):=by unfold iN; simp only [hs]
   have ef:(pieceS s p m lim).From=x.From:=by unfold pieceS; rw [e]
   have et:(pieceS s p m lim).To=x.From + min m (x.To - x.From):=by unfold pieceS; rw [e]
   generalize pieceS s p m lim=q at *
   have el:pV s q=cutS (x :: r) ⟨q.From,q.To⟩:=by unfold pV; rw [if_neg (by omega),hs]
   have hc:=sz_cuth ⟨q.From,q.To⟩ x (r:=r) (by show q.From < q.To; omega) (fun z hz=>h.lv.ne z (by rw [hs]; exact hz)) ef (by show q.To ≤ x.To; omega)
   have hN:(rK s q (pV s q) A B).Next=s.Next:=by show max s.Next q.To=s.Next; omega
   have hL:(rK s q (pV s q) A B).Lost=cutS (x :: r) ⟨q.From,q.To⟩:=el
   rw [hL,hN]
   omega
 | nil =>
   have z0:sz ([]:List Iv)=0:=rfl
   have hL0:∀ q:Pc,pV s q=[]:=fun q=>by unfold pV; rw [hs]; split <;> rfl
   have hq:s.Next < endS s:=by
    rcases (aAF h hc hm hl).1 hn with hh | hh
    · exact absurd hs hh
    · exact hh
   have e:iN s m lim=(⟨s.Next,s.Next + min (min (endS s - s.Next) m) (max lim s.Next - s.Next),0,false⟩,decide (0 < min (min (endS s - s.Next) m) (max lim s.Next - s.Next))):=by unfold iN; simp only [hs]; rw [if_pos (by omega)]
   have et:(pieceS s p m lim).To=s.Next + min (min (endS s - s.Next) m) (max lim s.Next - s.Next):=by unfold pieceS; rw [e]
   generalize pieceS s p m lim=q at *
   have hN:(rK s q (pV s q) A B).Next=max s.Next q.To:=rfl
   have hL:(rK s q (pV s q) A B).Lost=[]:=hL0 q
   rw [hL,hN,z0]
   omega
theorem cpick {st:Ct} {W:List UInt8} (hck:dD st=some 0) (ha:All st.Send W) (hc:st.Send.Closed=false) (hW:W.length ≤ 100000) {p m:Int} (hp:0 ≤ p ∧ p < 4) (hm:0 ≤ m ∧ m ≤ 1000000) :
 ∃ s q data is,jF st p m=some (⟨s,st.Recv,st.In⟩,q,data,is) ∧ (is=false → s=st.Send) ∧ All s W ∧ s.Closed=false ∧ st.Send.Next ≤ s.Next ∧ s.Base=st.Send.Base ∧
   (is=true → 0 ≤ q.From ∧ q.From ≤ q.To ∧ q.To ≤ s.Next ∧ data=sl W q.From q.To ∧ (∀ n,n < s.Next → ¬ mem n s.Lost → (n < st.Send.Next ∧ ¬ mem n st.Send.Lost) ∨ (q.From ≤ n ∧ n < q.To)) ∧ rest s + 1 ≤ rest st.Send) ∧ (1 ≤ m → (st.Send.Lost ≠ [] ∨ st.Send.Next < endS st.Send) → is=true):=by
 have hg:=ha.g
 have hlen:=ha.len
 have hlim:endS st.Send ≤ 1099511627776:=by omega
 have key:∀ r,nI st.Send p m 1099511627776=some r → jF st p m=some (⟨r.1,st.Recv,st.In⟩,r.2.1,r.2.2.1,r.2.2.2):=fun r hr=>by
  unfold jF fT lR
  simp only [hck,bnoS,bndD,decide_true,dS,hr]
 by_cases h1:m < 1
 · have:=key _ (aDd hg hp hm.2 (limit:=1099511627776) (by decide) (.inl h1))
   exact ⟨_,_,_,_,this,fun _=>rfl,ha,hc,Int.le_refl _,rfl,fun h=>(by cases h),fun h=>absurd h (by omega)⟩
 · cases h2:(iN st.Send m 1099511627776).2
   · have:=key _ (aDd hg hp hm.2 (limit:=1099511627776) (by decide) (.inr h2))
     exact ⟨_,_,_,_,this,fun _=>rfl,ha,hc,Int.le_refl _,rfl,fun h=>(by cases h),fun _ hh=>by
      have:=(aAF hg hc (m:=m) (lim:=1099511627776) (by omega) hlim).2 hh
      rw [h2] at this; cases this⟩
   · have hk:=pk_of hg (by_:=p) (most:=m) (limit:=1099511627776) hp ⟨by omega,hm.2⟩ (by decide) h2
     obtain ⟨A,B,a1,a2,a3⟩:=aEv hg (by_:=p) (most:=m) (limit:=1099511627776) hp ⟨by omega,hm.2⟩ (by decide) h2
     have hr:=aDc hg hc (p:=p) (m:=m) (lim:=1099511627776) (A:=A) (B:=B) (by omega) hlim h2
     have:=key _ a3
     have k1:=hk.lo; have k2:=hk.le; have k3:=hk.nx; have k4:=hk.hi
     have hb0:=hg.b0; have hnd:=hg.nd
     have hd:(st.Send.Data.take ((pieceS st.Send p m 1099511627776).To - st.Send.Base).toNat).drop ((pieceS st.Send p m 1099511627776).From - st.Send.Base).toNat=sl W (pieceS st.Send p m 1099511627776).From (pieceS st.Send p m 1099511627776).To:=by
      have hc:=all_cut (ext:=[]) ha k1 k2 k4
      rw [List.append_nil] at hc
      rw [cut_sl (by omega) k2 (by omega)] at hc
      exact (Option.some.inj hc).symm
     rw [hd] at this
     have hlm:=hk.lm
     generalize pieceS st.Send p m 1099511627776=q at *
     refine ⟨_,q,_,true,this,fun h=>(by cases h),⟨a2,ha.data,ha.len⟩,hc,by show st.Send.Next ≤ max st.Send.Next q.To; omega,rfl,fun _=>⟨by omega,k2,by show q.To ≤ max st.Send.Next q.To; omega,rfl,fun n n1 n2=>?_,hr⟩,fun _ _=>rfl⟩
     have n1:n < max st.Send.Next q.To:=n1
     have n2:¬ mem n (pV st.Send q):=n2
     by_cases hin:q.From ≤ n ∧ n < q.To
     · exact .inr hin
     · exact .inl ⟨by omega,fun hm=>n2 ((hlm n).2 ⟨hm,hin⟩)⟩
theorem ccame {st:Ct} {W:List UInt8} (hck:dD st=some 0) (ha:All st.Send W) {n:Int} (h0:st.Send.Base ≤ n) (h1:n ≤ st.Send.Next) :
 ∃ s,hT st n=some ⟨s,st.Recv,st.In⟩ ∧ All s W ∧ s.Closed=st.Send.Closed ∧ s.Next=st.Send.Next ∧ s.Base=n ∧ rest s ≤ rest st.Send ∧ (∀ k,¬ mem k s.Lost → ¬ mem k st.Send.Lost ∨ k < n):=by
 have hb0:=ha.g.b0
 have hok:tB st.Send n false:=⟨by omega,h1,fun h=>(by cases h)⟩
 obtain ⟨s',e,hw⟩:=aDA ha.g n false
 have e2:=aFy ha.g n false
 rw [if_pos hok] at e2
 rw [e2] at e
 obtain rfl:=Option.some.inj e
 obtain ⟨c1,c2,c3,c4,c5,c6,c7⟩:=aER ha.g (n:=n) (fin:=false) h0 (s':=aAa st.Send n false) (by rw [if_pos hok])
 refine ⟨_,?_,aCW ha hw,rfl,rfl,by show max n st.Send.Base=n; omega,?_,c6⟩
 · unfold hT fG kV
   simp only [hck,bnoS,bndD,decide_true,dS,e2]
 · unfold rest
   rw [c3,c1]; omega
theorem cdead {st:Ct} {W:List UInt8} (hck:dD st=some 0) (ha:All st.Send W) (p:Int) :
 ∃ s,lE st p=some ⟨s,st.Recv,st.In⟩ ∧ All s W ∧ s.Closed=st.Send.Closed ∧ s.Next=st.Send.Next ∧ s.Base=st.Send.Base ∧ s.Pieces=st.Send.Pieces.filter (fun y=>!decide (y.Path=p)):=by
 obtain ⟨L,d,e⟩:=dead23 ha.g p
 have hw:Went st.Send (aFP st.Send p L):=⟨g_dead ha.g d,Int.le_refl _,by show st.Send.Data=st.Send.Data.drop (st.Send.Base - st.Send.Base).toNat; simp,Int.le_refl _,id,rfl⟩
 refine ⟨_,?_,aCW ha hw,rfl,rfl,rfl,rfl⟩
 unfold lE fU lS
 simp only [hck,bnoS,bndD,decide_true,dS,e]
theorem cwant {st:Ct} (hck:dD st=some 0) (hg:G st.Send) (hc:st.Send.Closed=false) (hl:endS st.Send ≤ 100000):∃ b,hG st=some b ∧ (b=true ↔ (st.Send.Lost ≠ [] ∨ st.Send.Next < endS st.Send)):=by
 refine ⟨(iN st.Send 1 1099511627776).2,?_,aAF hg hc (by decide) (by omega)⟩
 unfold hG
 simp only [hck,bnoS,bndD,decide_true,beq_self_eq_true,gdtt,want23 hg (limit:=1099511627776) (by decide),Bool.true_and]
end Go.Fn
open Go Go.IL
namespace Go.Fn
abbrev Pe9:=cZ
abbrev D29:=fC
structure L29 where
 a:Ct
 b:Ct
 sent:List Fr
 told:List Fr
 went:List Pe9
 most:Int
abbrev KT9:=(List aH) → (List aH) → (List cZ) → Int → Int → Int → (List UInt8) → Int → (List aL) → (List aI) → Bool → Bool → Bool → Bool → Int → (List UInt8) → (List aU) → Int → (List UInt8) → Int → Int → Int → (List UInt8) → Int → (List aL) → (List aI) → Bool → Bool → Bool → Bool → Int → (List UInt8) → (List aU) → Int → (List UInt8) → Int → Int → Option Bool
def kk9 (kk:KT9) (i:Int) (l:L29):Option Bool:=kk l.sent l.told l.went l.most i l.a.Send.Base l.a.Send.Data l.a.Send.Next l.a.Send.Pieces l.a.Send.Lost l.a.Send.Closed l.a.Send.Sent l.a.Send.Again l.a.Send.Done l.a.Recv.Recv.Base l.a.Recv.Recv.Ready l.a.Recv.Recv.Parts l.a.Recv.End l.a.In.Buf l.a.In.Bad l.a.In.Seen l.b.Send.Base l.b.Send.Data l.b.Send.Next l.b.Send.Pieces l.b.Send.Lost l.b.Send.Closed l.b.Send.Sent l.b.Send.Again l.b.Send.Done l.b.Recv.Recv.Base l.b.Recv.Recv.Ready l.b.Recv.Recv.Parts l.b.Recv.End l.b.In.Buf l.b.In.Bad l.b.In.Seen
def o0 (ds:List D29) (f:Nat) (i:Int) (l:L29):Option Bool:=kk9 (bK ds f) i l
def oj (i:Int) (kk:KT9) (l:L29):Option Bool:=cS i kk l.sent l.told l.went l.most l.a.Send.Base l.a.Send.Data l.a.Send.Next l.a.Send.Pieces l.a.Send.Lost l.a.Send.Closed l.a.Send.Sent l.a.Send.Again l.a.Send.Done l.a.Recv.Recv.Base l.a.Recv.Recv.Ready l.a.Recv.Recv.Parts l.a.Recv.End l.a.In.Buf l.a.In.Bad l.a.In.Seen l.b.Send.Base l.b.Send.Data l.b.Send.Next l.b.Send.Pieces l.b.Send.Lost l.b.Send.Closed l.b.Send.Sent l.b.Send.Again l.b.Send.Done l.b.Recv.Recv.Base l.b.Recv.Recv.Ready l.b.Recv.Recv.Parts l.b.Recv.End l.b.In.Buf l.b.In.Bad l.b.In.Seen
def o3 (l:L29) (f:Nat) (i:Int) (a:Ct):Option Bool:=dQ l.sent l.told l.most l.b.Send.Base l.b.Send.Data l.b.Send.Next l.b.Send.Pieces l.b.Send.Lost l.b.Send.Closed l.b.Send.Sent l.b.Send.Again l.b.Send.Done l.b.Recv.Recv.Base l.b.Recv.Recv.Ready l.b.Recv.Recv.Parts l.b.Recv.End l.b.In.Buf l.b.In.Bad l.b.In.Seen f i a.Send.Base a.Send.Data a.Send.Next a.Send.Pieces a.Send.Lost a.Send.Closed a.Send.Sent a.Send.Again a.Send.Done a.Recv.Recv.Base a.Recv.Recv.Ready a.Recv.Recv.Parts a.Recv.End a.In.Buf a.In.Bad a.In.Seen
def o4 (sent:List Fr) (most:Int) (f:Nat) (told:List Fr) (i:Int) (a b:Ct):Option Bool:=dP sent most f told i a.Send.Base a.Send.Data a.Send.Next a.Send.Pieces a.Send.Lost a.Send.Closed a.Send.Sent a.Send.Again a.Send.Done a.Recv.Recv.Base a.Recv.Recv.Ready a.Recv.Recv.Parts a.Recv.End a.In.Buf a.In.Bad a.In.Seen b.Send.Base b.Send.Data b.Send.Next b.Send.Pieces b.Send.Lost b.Send.Closed b.Send.Sent b.Send.Again b.Send.Done b.Recv.Recv.Base b.Recv.Recv.Ready b.Recv.Recv.Parts b.Recv.End b.In.Buf b.In.Bad b.In.Seen
structure OI (n:Nat) (l:L29) (I:List Iv) (k:Int):Prop where
 fr:∀ f ∈ l.sent,Fine f ∧ carB f.Kind=true
 pr:∀ f ∈ l.sent,f.Pairs.length ≤ 10
 sn:l.sent.length ≤ n
 mo:l.most=4 + 70 * (l.sent.length:Int)
 al:All l.a.Send (cats l.sent)
 cl:l.a.Send.Closed=false
 ar:l.a.Recv=recv0
 ai:l.a.In=⟨[],0,0⟩
 bs:l.b.Send=new23
 rq:RQ (cats l.sent) I l.b.Recv.Recv
 be:l.b.Recv.End = -1
 bz:l.b.Recv.Recv.Ready=[]
 bi:l.b.In=stOf (sl (cats l.sent) 0 l.b.Recv.Recv.Base)
 hi:pH l.b.Recv.Recv.Base I k
 kn:k ≤ l.a.Send.Next
 ab:l.a.Send.Base ≤ l.b.Recv.Recv.Base
 to:l.told=(eat (sl (cats l.sent) 0 l.b.Recv.Recv.Base)).1
 wn:∀ q ∈ l.went,0 ≤ q.at_ ∧ ∃ to,q.at_ ≤ to ∧ to ≤ l.a.Send.Next ∧ q.s=sl (cats l.sent) q.at_ to
 ml:l.went.length ≤ n
section
variable {n:Nat} {l:L29} {I:List Iv} {k:Int}
theorem OI.len (h:OI n l I k):(cats l.sent).length ≤ 70 * n:=by
 have h1:=aB6 l.sent (fun f hf=>(h.fr f hf).1)
 have:=h.sn
 omega
theorem etaC (x:Ct):(⟨⟨x.Send.Base,x.Send.Data,x.Send.Next,x.Send.Pieces,x.Send.Lost,x.Send.Closed,x.Send.Sent,x.Send.Again,x.Send.Done⟩,⟨⟨x.Recv.Recv.Base,x.Recv.Recv.Ready,x.Recv.Recv.Parts⟩,x.Recv.End⟩,⟨x.In.Buf,x.In.Bad,x.In.Seen⟩⟩:Ct)=x:=rfl
theorem OI.cka (h:OI n l I k):dD l.a=some 0:=aCU (W:=[]) (I:=[]) (s:=[]) h.al.g h.cl (by rw [h.ar]; exact rq0 (by decide)) (by rw [h.ar]; rfl) (by rw [h.ar]; rfl) (h.ai.trans st0) (by rw [tO rfl]) (by decide)
theorem OI.pre (h:OI n l I k):(eat (sl (cats l.sent) 0 l.b.Recv.Recv.Base)).2.2=0 ∧ ∃ r,l.sent=l.told ++ r:=by
 rw [h.to,aDJ]; exact aEI (fun f hf=>(h.fr f hf).1) _
theorem OI.ckb (h:OI n l I k) (hn:n ≤ 1000):dD l.b=some 0 :=
 aCU (by rw [h.bs]; exact g_new) (by rw [h.bs]; rfl) h.rq h.be h.bz h.bi h.pre.1 (by have:=aBg (cats l.sent) 0 l.b.Recv.Recv.Base; have:=h.len; omega)
theorem tK (h:OI n l I k) {s:S23} (ha:All s (cats l.sent)) (hc:s.Closed=false) (hn:l.a.Send.Next ≤ s.Next) (hb:s.Base ≤ l.b.Recv.Recv.Base) {m:Nat} {w:List Pe9} (hw:∀ q ∈ w,0 ≤ q.at_ ∧ ∃ to,q.at_ ≤ to ∧ to ≤ s.Next ∧ q.s=sl (cats l.sent) q.at_ to) (hm:n ≤ m) (hl:w.length ≤ m):OI m ⟨⟨s,l.a.Recv,l.a.In⟩,l.b,l.sent,l.told,w,l.most⟩ I k :=
 ⟨h.fr,h.pr,Nat.le_trans h.sn hm,h.mo,ha,hc,h.ar,h.ai,h.bs,h.rq,h.be,h.bz,h.bi,h.hi,Int.le_trans h.kn hn,hb,h.to,hw,hl⟩
theorem OI.wn' (h:OI n l I k) {x:Int} (hx:l.a.Send.Next ≤ x):∀ q ∈ l.went,0 ≤ q.at_ ∧ ∃ to,q.at_ ≤ to ∧ to ≤ x ∧ q.s=sl (cats l.sent) q.at_ to:=fun q hq=>by
 obtain ⟨a,to,b1,b2,b3⟩:=h.wn q hq
 exact ⟨a,to,b1,by omega,b3⟩
theorem oj_ok (h:OI n l I k) (hn:n ≤ 1000) {i:Int} (hi:0 ≤ i ∧ i ≤ 1000000) {kk:KT9}:oj i kk l=kk9 kk (i + 1) l:=by
 obtain ⟨h1,r,hr⟩:=h.pre
 have hsn:=h.sn
 have hlt:l.told.length ≤ l.sent.length:=by rw [hr,List.length_append]; omega
 have hcut:cut l.sent 0 (l.told.length:Int)=some l.told:=by
  unfold cut
  rw [if_pos (by omega)]
  congr 1
  rw [hr]; simp
 have hsame:=yU (a:=l.told) (by omega) (fun g hg=>by have:=h.pr g (by rw [hr]; simp [hg]); omega)
 have ea:=etaC l.a
 have eb:=etaC l.b
 unfold oj cS eT
 rw [bndD,decide_eq_false (by omega)]
 simp only [bndD,beq_self_eq_true,gdtt,hcut,bnoS,dS,hsame,Bool.not_true,Bool.or_self,ea,eb,h.cka,h.ckb hn,decide_true,cU,w64 (show -9223372036854775808 ≤ i + 1 by omega) (by omega)]
 rfl
def dOk9 (d:D29):Prop:=(0 ≤ d.Kind ∧ d.Kind ≤ 255) ∧ (0 ≤ d.N ∧ d.N ≤ 255) ∧ (0 ≤ d.Path ∧ d.Path ≤ 255) ∧ (0 ≤ d.F.Kind ∧ d.F.Kind ≤ 255)
theorem send9 (h:OI n l I k) (hn:n ≤ 500) {f:Fr} (hk:0 ≤ f.Kind ∧ f.Kind ≤ 255) (hp:f.Pairs.length ≤ 10) (hd:f.Data.length ≤ 100) :
 (∃ e,e ≠ 0 ∧ hM l.a f=some (l.a,e)) ∨ ∃ a',hM l.a f=some (a',0) ∧ OI (n + 1) ⟨a',l.b,l.sent ++ [f],l.told,l.went,l.most + 70⟩ I k:=by
 rcases csend h.cka h.al.g h.cl (f:=f) hk.1 hk.2 ⟨by omega,by omega⟩ with hh | ⟨hf,hcar,hwn,hs⟩
 · exact .inl hh
 · right
   refine ⟨_,hs,?_⟩
   have hln:=h.len
   have hl70:=aFo hf
   have hbw:=h.rq.bw
   have hnx:=h.al.g.nd
   have hle:=h.al.len
   have ec:cats (l.sent ++ [f])=cats l.sent ++ (putF f).1:=by rw [aFT]; simp [cats]
   have haw:=aEc h.al (putF f).1
   rw [hwn,List.take_length,← ec] at haw
   have hext:∀ a b:Int,b ≤ ((cats l.sent).length:Int) → sl (cats (l.sent ++ [f])) a b=sl (cats l.sent) a b:=fun a b hb=>by rw [ec,aDK hb]
   have hrq:=rq_ext (e:=(putF f).1) h.rq (by rw [List.length_append]; omega)
   rw [← ec] at hrq
   refine ⟨fun g hg=>?_,fun g hg=>?_,?_,?_,haw,h.cl,h.ar,h.ai,h.bs,hrq,h.be,h.bz,?_,h.hi,h.kn,h.ab,?_,fun q hq=>?_,Nat.le_succ_of_le h.ml⟩
   · rcases List.mem_append.1 hg with hg | hg
     · exact h.fr g hg
     · rw [List.mem_singleton.1 hg]; exact ⟨hf,hcar⟩
   · rcases List.mem_append.1 hg with hg | hg
     · exact h.pr g hg
     · rw [List.mem_singleton.1 hg]; exact hp
   · have:=h.sn
     show (l.sent ++ [f]).length ≤ n + 1
     rw [List.length_append,List.length_singleton]; omega
   · have:=h.mo
     show l.most + 70=4 + 70 * ((l.sent ++ [f]).length:Int)
     rw [List.length_append,List.length_singleton]; omega
   · show l.b.In=stOf (sl (cats (l.sent ++ [f])) 0 l.b.Recv.Recv.Base)
     rw [hext _ _ hbw]; exact h.bi
   · show l.told=(eat (sl (cats (l.sent ++ [f])) 0 l.b.Recv.Recv.Base)).1
     rw [hext _ _ hbw]; exact h.to
   · obtain ⟨a,to,b1,b2,b3⟩:=h.wn q hq
     exact ⟨a,to,b1,b2,by show q.s=sl (cats (l.sent ++ [f])) q.at_ to; rw [hext _ _ (by omega)]; exact b3⟩
theorem data9 (h:OI n l I k) (hn:n ≤ 500) {a to:Int} (h0:0 ≤ a) (h1:a ≤ to) (h2:to ≤ l.a.Send.Next) :
 ∃ b' o I' k',fF l.b a (sl (cats l.sent) a to)=some (b',o,0) ∧ gK o=some o ∧ app 96 l.told o=some (l.told ++ o) ∧ OI n ⟨l.a,b',l.sent,l.told ++ o,l.went,l.most⟩ I' k' ∧ l.b.Recv.Recv.Base ≤ b'.Recv.Recv.Base ∧ (∀ n,(n < l.b.Recv.Recv.Base ∨ mem n I ∨ (a ≤ n ∧ n < to)) → n < b'.Recv.Recv.Base ∨ mem n I'):=by
 have hnx:=h.al.g.nd
 have hle:=h.al.len
 have hdl:=h.al.g.dl
 have hab:=h.ab
 have hsn:=h.sn
 have hend:endS l.a.Send=l.a.Send.Base + (l.a.Send.Data.length:Int):=rfl
 obtain ⟨x,Ix,ox,x1,x2,x3,x4,x5,x6,x7,x8,x9,x10,x11,x12⟩:=odata (h.ckb (by omega)) h.rq h.be h.bz h.bi rfl h.fr (by omega) h0 h1 (by omega) (by omega)
 have hk:=x10 k h.hi
 have hkn:=h.kn
 have htl:l.told.length ≤ l.sent.length:=by
  obtain ⟨_,r,hr⟩:=h.pre
  rw [hr,List.length_append]; omega
 refine ⟨x,ox,Ix,_,x1,aED (by omega),jY (by omega) (by omega),⟨h.fr,h.pr,h.sn,h.mo,h.al,h.cl,h.ar,h.ai,x2.trans h.bs,x3,x4,x5,x6,hk,?_,by have:=h.ab; show l.a.Send.Base ≤ x.Recv.Recv.Base; omega,by show l.told ++ ox=_; rw [x7,← h.to],h.wn,h.ml⟩,x8,x9⟩
 show (if a < to then max k to else k) ≤ l.a.Send.Next
 split <;> omega
end
set_option maxHeartbeats 1000000 in
theorem step9 {n:Nat} {l:L29} {I:List Iv} {k:Int} {ds p r:List D29} {d:D29} {f:Nat} (h:OI n l I k) (hn:n ≤ 400) (hl:ds.length ≤ 80) (hs:ds=p ++ d :: r) (hd:dOk9 d):∃ l' I' k',(o0 ds (f + 1) (p.length:Int) l=some true ∨ o0 ds (f + 1) (p.length:Int) l=o0 ds f ((p ++ [d]).length:Int) l') ∧ OI (n + 1) l' I' k':=by
 obtain ⟨⟨k1,k2⟩,⟨k3,k4⟩,⟨k5,k6⟩,k7⟩:=hd
 have ea:=etaC l.a
 have eb:=etaC l.b
 have hpl:p.length ≤ 80:=by rw [hs] at hl; simp at hl; omega
 have hml:=h.ml
 have hsn:=h.sn
 have hi1:((p ++ [d]).length:Int)=(p.length:Int) + 1:=by rw [List.length_append,List.length_singleton]; omega
 have hw64:IntKind.wrap .i64 (d.Path % 4)=d.Path % 4:=w64 (by omega) (by omega)
 rw [hi1]
 have fin:∀ {l':L29} {I':List Iv} {k':Int},OI (n + 1) l' I' k' → o0 ds (f + 1) (p.length:Int) l=oj (p.length:Int) (bK ds f) l' → ∃ l' I' k',(o0 ds (f + 1) (p.length:Int) l=some true ∨ o0 ds (f + 1) (p.length:Int) l=o0 ds f ((p.length:Int) + 1) l') ∧ OI (n + 1) l' I' k':=fun {l' I' k'} h' e =>
  ⟨l',I',k',.inr (e.trans (oj_ok h' (by omega) (by omega))),h'⟩
 have same:OI (n + 1) l I k:=⟨h.fr,h.pr,Nat.le_succ_of_le h.sn,h.mo,h.al,h.cl,h.ar,h.ai,h.bs,h.rq,h.be,h.bz,h.bi,h.hi,h.kn,h.ab,h.to,h.wn,Nat.le_succ_of_le h.ml⟩
 have hk:d.Kind % 5=0 ∨ d.Kind % 5=1 ∨ d.Kind % 5=2 ∨ d.Kind % 5=3 ∨ d.Kind % 5=4:=by omega
 rcases hk with hk | hk | hk | hk | hk
 · -- a frame is sent
   cases hL:(decide ((d.F.Pairs.length:Int) ≤ 10) && decide ((d.F.Data.length:Int) ≤ 100))
   · refine ⟨l,I,k,.inl ?_,same⟩
     unfold o0 kk9
     rw [bK]
     simp only [bndD,nO hs,dS,iF hs,bnoS,oZ k1 (show (0:Int) < 5 by decide),decide_eq_true hk,aAG,hL,Bool.not_false,aB8]
   · obtain ⟨l1,l2⟩:=Bool.and_eq_true _ _ |>.mp hL
     have l1:=of_decide_eq_true l1
     have l2:=of_decide_eq_true l2
     rcases send9 h (by omega) (f:=d.F) k7 (by omega) (by omega) with ⟨e,he,s1⟩ | ⟨a',s1,h'⟩
     · refine fin same ?_
       unfold o0 kk9
       rw [bK]
       simp only [bndD,nO hs,dS,iF hs,bnoS,oZ k1 (show (0:Int) < 5 by decide),decide_eq_true hk,aAG,hL,Bool.not_true,cU,ea,s1,decide_eq_false he]
       rfl
     · refine fin h' ?_
       have hmo:=h.mo
       unfold o0 kk9
       rw [bK]
       simp only [bndD,nO hs,dS,iF hs,bnoS,oZ k1 (show (0:Int) < 5 by decide),decide_eq_true hk,aAG,hL,Bool.not_true,cU,ea,s1,decide_true,jY (b:=96) (l:=l.sent) (m:=[d.F]) (by simp; omega) (by simp; omega),w64 (show -9223372036854775808 ≤ l.most + 70 by omega) (by omega)]
       rfl
 · -- bytes go
   obtain ⟨s,q,data,is,s1,s2,s3,s4,s5,s6,s7,s8⟩:=cpick h.cka h.al h.cl (by have:=h.len; omega) (p:=d.Path % 4) (m:=d.N) (by omega) (by omega)
   have hab:=h.ab
   cases is
   · have e2:=s2 rfl
     have h':=tK h s3 s4 s5 (by omega) (h.wn' s5) (Nat.le_succ n) (Nat.le_succ_of_le h.ml)
     refine fin h' ?_
     unfold o0 kk9
     rw [bK]
     simp only [bndD,nO hs,dS,iF hs,bnoS,oZ k1 (show (0:Int) < 5 by decide),decide_eq_false (show ¬ d.Kind % 5=0 by omega),decide_eq_true hk,cU,oZ k5 (show (0:Int) < 4 by decide),hw64,w64 (show -9223372036854775808 ≤ d.N by omega) (by omega),ea,s1]
     rfl
   · obtain ⟨t1,t2,t3,t4,_⟩:=s7 rfl
     have h':=tK h s3 s4 s5 (by omega) (m:=n + 1) (w:=l.went ++ [⟨q.From,data⟩]) (fun x hx=>by
      rcases List.mem_append.1 hx with hx | hx
      · exact h.wn' s5 x hx
      · rw [List.mem_singleton.1 hx]; exact ⟨t1,q.To,t2,t3,t4⟩) (Nat.le_succ n) (by rw [List.length_append,List.length_singleton]; omega)
     refine fin h' ?_
     unfold o0 kk9
     rw [bK]
     simp only [bndD,nO hs,dS,iF hs,bnoS,oZ k1 (show (0:Int) < 5 by decide),decide_eq_false (show ¬ d.Kind % 5=0 by omega),decide_eq_true hk,cU,oZ k5 (show (0:Int) < 4 by decide),hw64,w64 (show -9223372036854775808 ≤ d.N by omega) (by omega),ea,s1,jY (b:=24) (l:=l.went) (m:=[(⟨q.From,data⟩:Pe9)]) (by simp; omega) (by simp; omega)]
     rfl
 · -- a piece comes
   by_cases hlw:0 < (l.went.length:Int)
   · have hr:0 ≤ d.N % (l.went.length:Int) ∧ d.N % (l.went.length:Int) < l.went.length:=⟨Int.emod_nonneg _ (by omega),Int.emod_lt_of_pos _ hlw⟩
     have hlt:(d.N % (l.went.length:Int)).toNat < l.went.length:=by omega
     have hg2:l.went[(d.N % (l.went.length:Int)).toNat]? = some l.went[(d.N % (l.went.length:Int)).toNat]:=List.getElem?_eq_getElem hlt
     have hg1:gix l.went (d.N % (l.went.length:Int))=some l.went[(d.N % (l.went.length:Int)).toNat]:=by
      unfold gix; rw [if_pos hr.1,hg2]
     have hmem:=List.getElem_mem hlt
     generalize l.went[(d.N % (l.went.length:Int)).toNat]=q at *
     obtain ⟨w0,to,w1,w2,w3⟩:=h.wn q hmem
     obtain ⟨b',o,I',k',s1,s2,s3,h',_⟩:=data9 h (by omega) w0 w1 w2
     rw [← w3] at s1
     refine fin (l':=⟨l.a,b',l.sent,l.told ++ o,l.went,l.most⟩) ⟨h'.fr,h'.pr,Nat.le_succ_of_le h'.sn,h'.mo,h'.al,h'.cl,h'.ar,h'.ai,h'.bs,h'.rq,h'.be,h'.bz,h'.bi,h'.hi,h'.kn,h'.ab,h'.to,h'.wn,Nat.le_succ_of_le h'.ml⟩ ?_
     unfold o0 kk9
     rw [bK]
     simp only [bndD,nO hs,dS,iF hs,bnoS,oZ k1 (show (0:Int) < 5 by decide),decide_eq_false (show ¬ d.Kind % 5=0 by omega),decide_eq_false (show ¬ d.Kind % 5=1 by omega),decide_eq_true hk,cU,decide_eq_true hlw,w64 (show -9223372036854775808 ≤ d.N by omega) (by omega),oZ k3 hlw,hg1,hg2,eb,s1,s2,s3,decide_true,Bool.not_true]
     rfl
   · refine fin same ?_
     unfold o0 kk9
     rw [bK]
     simp only [bndD,nO hs,dS,iF hs,bnoS,oZ k1 (show (0:Int) < 5 by decide),decide_eq_false (show ¬ d.Kind % 5=0 by omega),decide_eq_false (show ¬ d.Kind % 5=1 by omega),decide_eq_true hk,cU,decide_eq_false hlw]
     rfl
 · -- a is told
   have hbk:=h.hi.1
   have hkn:=h.kn
   obtain ⟨s,s1,s2,s3,s4,s5,s6,s7⟩:=ccame h.cka h.al (n:=l.b.Recv.Recv.Base) h.ab (by omega)
   have h':=tK h s2 (s3.trans h.cl) (by omega) (by omega) (h.wn' (by omega)) (Nat.le_succ n) (Nat.le_succ_of_le h.ml)
   refine fin h' ?_
   have hak:kI l.b=some l.b.Recv.Recv.Base:=rfl
   unfold o0 kk9
   rw [bK]
   simp only [bndD,nO hs,dS,iF hs,bnoS,oZ k1 (show (0:Int) < 5 by decide),decide_eq_false (show ¬ d.Kind % 5=0 by omega),decide_eq_false (show ¬ d.Kind % 5=1 by omega),decide_eq_false (show ¬ d.Kind % 5=2 by omega),decide_eq_true hk,cU,ea,eb,hak,s1]
   rfl
 · -- a path dies
   have hab:=h.ab
   obtain ⟨s,s1,s2,s3,s4,s5,s6⟩:=cdead h.cka h.al (d.Path % 4)
   have h':=tK h s2 (s3.trans h.cl) (by omega) (by omega) (h.wn' (by omega)) (Nat.le_succ n) (Nat.le_succ_of_le h.ml)
   refine fin h' ?_
   unfold o0 kk9
   rw [bK]
   simp only [bndD,nO hs,dS,iF hs,bnoS,oZ k1 (show (0:Int) < 5 by decide),decide_eq_false (show ¬ d.Kind % 5=0 by omega),decide_eq_false (show ¬ d.Kind % 5=1 by omega),decide_eq_false (show ¬ d.Kind % 5=2 by omega),decide_eq_false (show ¬ d.Kind % 5=3 by omega),cU,oZ k5 (show (0:Int) < 4 by decide),hw64,ea,s1]
   rfl
end Go.Fn
open Go Go.IL
namespace Go.Fn
def Cov9 (l:L29) (I:List Iv):Prop:=∀ x,0 ≤ x → x < l.a.Send.Next → ¬ mem x l.a.Send.Lost → x < l.b.Recv.Recv.Base ∨ mem x I
theorem end9 {n:Nat} {l:L29} {I:List Iv} {k i:Int} {f:Nat} (h:OI n l I k) (hn:n ≤ 400) (hc:Cov9 l I) (hb:l.a.Send.Pieces=[] ∨ l.a.Send.Base=l.b.Recv.Recv.Base) (hL:l.a.Send.Lost=[]) (hN:¬ l.a.Send.Next < endS l.a.Send) (hw:hG l.a=some false) (hi:i < l.most):o4 l.sent l.most (f + 1) l.told i l.a l.b=some true:=by
 have hsn:=h.sn
 have hnd:=h.al.g.nd
 have hlen:=h.al.len
 have hend:endS l.a.Send=l.a.Send.Base + (l.a.Send.Data.length:Int):=rfl
 have hb0:=h.rq.b0
 have hbk:=h.hi.1
 have hkn:=h.kn
 have hbase:l.b.Recv.Recv.Base=l.a.Send.Next:=by
  by_cases hlt:l.b.Recv.Recv.Base < l.a.Send.Next
  · rcases hc _ hb0 hlt (by rw [hL]; rintro ⟨x,hx,_⟩; exact (List.not_mem_nil hx).elim) with hh | ⟨x,hx,hx1,_⟩
    · omega
    · have:=(h.rq.ib x hx).1; omega
  · omega
 have hdata:l.a.Send.Data=[]:=by
  apply List.eq_nil_of_length_eq_zero
  rcases hb with hb | hb
  · have:=aDi h.al.g hb hL
    omega
  · omega
 have hW:l.b.Recv.Recv.Base=((cats l.sent).length:Int):=by omega
 have heat:=aAV l.sent (fun f hf=>(h.fr f hf).1)
 have htold:l.told=l.sent:=by rw [h.to,hW,aFg,heat]
 have hbuf:l.b.In.Buf=[]:=by
  rw [h.bi,hW,aFg]
  show (eat (cats l.sent)).2.1=[]
  rw [heat]
 have hsame:=yU (a:=l.sent) (by omega) (fun g hg=>by have:=h.pr g hg; omega)
 have ea:=etaC l.a
 unfold o4
 rw [dP]
 simp only [bndD,decide_eq_true hi,beq_self_eq_true,gdtt,ea,hw,bnoS,Bool.and_false,cU]
 simp only [htold,hsame,hdata,hbuf,decide_true,Bool.and_self,aB8,bnoS,bndD,beq_self_eq_true,gdtt]
theorem round9 {n:Nat} {l:L29} {I:List Iv} {k i:Int} {f:Nat} (h:OI n l I k) (hn:n ≤ 400) (hc:Cov9 l I) (hg:l.a.Send.Lost ≠ [] ∨ l.a.Send.Next < endS l.a.Send) (hw:hG l.a=some true) (hi:i < l.most) (h0:0 ≤ i) :
 ∃ l' I' k',o4 l.sent l.most (f + 1) l.told i l.a l.b=o4 l'.sent l'.most f l'.told (i + 1) l'.a l'.b ∧ OI n l' I' k' ∧ Cov9 l' I' ∧ l'.a.Send.Base=l'.b.Recv.Recv.Base ∧ rest l'.a.Send + 1 ≤ rest l.a.Send ∧ l'.most=l.most:=by
 have hlen:=h.len
 have hab:=h.ab
 have hmo:=h.mo
 have hsn:=h.sn
 obtain ⟨s,q,data,is,s1,s2,s3,s4,s5,s6,s7,s8⟩:=cpick h.cka h.al h.cl (by omega) (p:=0) (m:=32) (by decide) (by decide)
 have hi1:=s8 (by decide) hg
 obtain ⟨t1,t2,t3,t4,t5,t6⟩:=s7 hi1
 have h1:=tK h s3 s4 s5 (by omega) (h.wn' s5) (Nat.le_refl n) h.ml
 obtain ⟨b',o,I',k',u1,u2,u3,h2,u4,u5⟩:=data9 h1 (by omega) t1 t2 t3
 have hbk:=h2.hi.1
 have hkn:=h2.kn
 have hab2:=h2.ab
 obtain ⟨v,v1,v2,v3,v4,v5,v6,v7⟩:=ccame h2.cka h2.al (n:=b'.Recv.Recv.Base) hab2 (Int.le_trans hbk hkn)
 have h3:=tK h2 v2 (v3.trans h2.cl) (Int.le_of_eq v4.symm) (Int.le_of_eq v5) (h2.wn' (Int.le_of_eq v4.symm)) (Nat.le_refl n) h2.ml
 have u1:fF l.b q.From data=some (b',o,0):=by rw [t4]; exact u1
 have u3:app 96 l.told o=some (l.told ++ o):=u3
 have v1:hT ⟨s,l.a.Recv,l.a.In⟩ b'.Recv.Recv.Base=some ⟨v,l.a.Recv,l.a.In⟩:=v1
 have v4:v.Next=s.Next:=v4
 have v6:rest v ≤ rest s:=v6
 refine ⟨⟨⟨v,l.a.Recv,l.a.In⟩,b',l.sent,l.told ++ o,l.went,l.most⟩,I',k',?_,h3,fun x x0 x1 x2=>?_,v5,by show rest v + 1 ≤ rest l.a.Send; omega,rfl⟩
 · have ea:=etaC l.a
   have eb:=etaC l.b
   have hak:kI b'=some b'.Recv.Recv.Base:=rfl
   unfold o4
   rw [dP]
   simp only [bndD,decide_eq_true hi,beq_self_eq_true,gdtt,ea,eb,hw,bnoS,Bool.and_self,dS,s1,u1,hak,v1,u2,u3,decide_true,Bool.not_true,cU,w64 (show -9223372036854775808 ≤ i + 1 by omega) (by omega)]
 · show x < b'.Recv.Recv.Base ∨ mem x I'
   have x1:x < v.Next:=x1
   rcases v7 x x2 with hh | hh
   · rcases t5 x (by omega) hh with ⟨y1,y2⟩ | y
     · rcases hc x x0 y1 y2 with z | z
       · exact u5 x (.inl z)
       · exact u5 x (.inr (.inl z))
     · exact u5 x (.inr (.inr y))
   · exact .inl hh
theorem o4_L {n:Nat} (hn:n ≤ 400):∀ (j f:Nat) (i:Int) (l:L29) (I:List Iv) (k:Int),OI n l I k → Cov9 l I → (l.a.Send.Pieces=[] ∨ l.a.Send.Base=l.b.Recv.Recv.Base) → rest l.a.Send + i + 1 ≤ l.most → rest l.a.Send ≤ j → j < f → 0 ≤ i → o4 l.sent l.most f l.told i l.a l.b=some true
 | j,0,_,_,_,_,_,_,_,_,_,hf,_=>absurd hf (by omega)
 | j,f + 1,i,l,I,k,h,hc,hb,hm,hj,hf,h0=>by
   have hr:=aDP h.al.g
   have hlen:=h.len
   have hle:=h.al.len
   obtain ⟨b,w1,w2⟩:=cwant h.cka h.al.g h.cl (by omega)
   cases b
   · have hno:¬ (l.a.Send.Lost ≠ [] ∨ l.a.Send.Next < endS l.a.Send):=fun hh=>by have:=w2.2 hh; cases this
     exact end9 h hn hc hb (Decidable.not_not.1 (fun hh=>hno (.inl hh))) (fun hh=>hno (.inr hh)) w1 (by omega)
   · obtain ⟨l',I',k',e,h',hc',hb',hr',hm'⟩:=round9 (f:=f) h hn hc (w2.1 rfl) w1 (by omega) h0
     rw [e]
     have hr2:=aDP h'.al.g
     obtain ⟨j,rfl⟩:∃ j',j=j' + 1:=⟨j - 1,by omega⟩
     exact o4_L hn j f (i + 1) l' I' k' h' hc' (.inr hb') (by omega) (by omega) (by omega) (by omega)
theorem o3_L {n:Nat} (hn:n ≤ 400):∀ (j f:Nat) (i:Int) (l:L29) (I:List Iv) (k:Int),OI n l I k → i + j=4 → 0 ≤ i → (∀ p ∈ l.a.Send.Pieces,i ≤ p.Path) → j < f → o3 l f i l.a=some true
 | j,0,_,_,_,_,_,_,_,_,hf=>absurd hf (by omega)
 | 0, f + 1,i,l,I,k,h,hij,h0,hp,hf=>by
   have hPc:l.a.Send.Pieces=[]:=by
    cases hs:l.a.Send.Pieces with
    | nil=>rfl
    | cons p r =>
      have hx:p ∈ l.a.Send.Pieces:=by rw [hs]; simp
      have:=hp p hx
      have:=(h.al.g.pb p hx).2.2
      omega
   have hab:=h.ab
   have hlen:=aB6 l.sent (fun f hf=>(h.fr f hf).1)
   have hle:=h.al.len
   have hmo:=h.mo
   have hsn:=h.sn
   have hcov:Cov9 l I:=fun x x0 x1 x2=>by
    left
    by_cases hx:x < l.a.Send.Base
    · omega
    · rcases h.al.g.cov x (by omega) x1 with hh | ⟨p,hpp,_⟩
      · exact absurd hh x2
      · rw [hPc] at hpp; exact (List.not_mem_nil hpp).elim
   have hrest:rest l.a.Send ≤ ((cats l.sent).length:Int):=by
    have a1:=sz_le h.al.g.lv.pw h.al.g.lv.ne h.al.g.lb h.al.g.bn
    have a2:=h.al.g.b0
    unfold rest; omega
   have:=o4_L hn (cats l.sent).length fuel 0 l I k h hcov (.inl hPc) (by omega) hrest (eM (by omega)) (Int.le_refl _)
   unfold o3
   rw [dQ,bndD,decide_eq_false (by omega),cU]
   exact this
 | j + 1,f + 1,i,l,I,k,h,hij,h0,hp,hf=>by
   have hab:=h.ab
   have ea:=etaC l.a
   obtain ⟨s,s1,s2,s3,s4,s5,s6⟩:=cdead h.cka h.al i
   have h':=tK h s2 (s3.trans h.cl) (by omega) (by omega) (h.wn' (by omega)) (Nat.le_refl n) h.ml
   have hrec:=o3_L hn j f (i + 1) _ I k h' (by omega) (by omega) (fun p hpp=>by
    have hpp:p ∈ s.Pieces:=hpp
    rw [s6] at hpp
    obtain ⟨q1,q2⟩:=List.mem_filter.1 hpp
    have q3:=hp p q1
    have q4:¬ p.Path=i:=by simpa using q2
    omega) (by omega)
   unfold o3
   rw [dQ]
   simp only [bndD,decide_eq_true (show i < 4 by omega),dS,ea,s1,bnoS,w64 (show -9223372036854775808 ≤ i + 1 by omega) (by omega)]
   exact hrec
theorem o0_L {ds:List D29} (hl:ds.length ≤ 80) (hd:∀ d ∈ ds,dOk9 d) (r:List D29):∀ (p:List D29) (f:Nat) (l:L29) (I:List Iv) (k:Int),ds=p ++ r → r.length < f → OI p.length l I k → o0 ds f (p.length:Int) l=some true:=by
 induction r with
 | nil =>
   intro p f l I k h hf hi
   obtain ⟨f,rfl⟩:∃ g,f=g + 1:=⟨f - 1,by omega⟩
   rw [List.append_nil] at h
   have hpl:p.length ≤ 80:=by rw [← h]; exact hl
   have:=o3_L (n:=p.length) (by omega) 4 fuel 0 l I k hi (by omega) (Int.le_refl _) (fun q hq=>(hi.al.g.pb q hq).2.1) (eM (by omega))
   unfold o0 kk9
   rw [bK,bndD,← h,sX,cU]
   exact this
 | cons d r ih =>
   intro p f l I k h hf hi
   obtain ⟨f,rfl⟩:∃ g,f=g + 1:=⟨f - 1,by omega⟩
   have hpl:p.length ≤ 80:=by rw [h] at hl; simp at hl; omega
   obtain ⟨l',I',k',e,hi'⟩:=step9 (f:=f) hi (by omega) hl h (hd d (by rw [h]; simp))
   rcases e with e | e
   · exact e
   · rw [e]
     exact ih (p ++ [d]) f l' I' k' (kS h) (by simpa using hf) (by rw [List.length_append,List.length_singleton]; exact hi')
theorem aEy:OI 0 ⟨ct0,ct0,[],[],[],4⟩ [] 0 :=
 ⟨fun _ h=>(List.not_mem_nil h).elim,fun _ h=>(List.not_mem_nil h).elim,Nat.le_refl _,rfl,⟨g_new,rfl,rfl⟩,rfl,rfl,rfl,rfl,rq0 (by decide),rfl,rfl,by show (⟨[],0,0⟩:cE)=stOf (sl [] 0 0); rw [vT (by decide)]; exact st0,⟨Int.le_refl _,fun _ h=>(List.not_mem_nil h).elim,.inl rfl⟩,Int.le_refl _,Int.le_refl _,by show ([]:List Fr)=(eat (sl [] 0 0)).1; rw [vT (by decide),tO rfl],fun _ h=>(List.not_mem_nil h).elim,Nat.le_refl _⟩
theorem aBa {ds:List D29} (hd:∀ d ∈ ds,(0 ≤ d.Kind ∧ d.Kind ≤ 255) ∧ (0 ≤ d.N ∧ d.N ≤ 255) ∧ (0 ≤ d.Path ∧ d.Path ≤ 255) ∧ (0 ≤ d.F.Kind ∧ d.F.Kind ≤ 255)):fL ds=some true:=by
 unfold fL
 rw [bndD]
 by_cases hl:80 < (ds.length:Int)
 · rw [decide_eq_true hl,dS,aB8,bnoS]
 · rw [decide_eq_false hl,cU,new29,bnoS,bnoS]
   have:=o0_L (ds:=ds) (by omega) hd ds [] fuel ⟨ct0,ct0,[],[],[],4⟩ [] 0 rfl (eM (by omega)) aEy
   exact this
end Go.Fn
open Go.RowKit Go.WideShapes Go.ChangeShapes
namespace Go.IL

def wW (v:Value):Prop:=∀ a n c,v = .slice (some a) n c → a.spot=none
theorem aAq {P:Program} {w:World} {r:Reach} {b:Nat} {t:TypeId} {v:Value} (h:Cell.okWide P w r b t v):wW v:=by
 intro a n c e
 subst e
 have h2:Cell.ok P w r b t (.slice (some a) n c):=by
  unfold Cell.okWide at h
  split at h <;> first | exact h | (rename_i h3 _; cases h3) | (rename_i h3; cases h3) | skip
  all_goals first | exact h | simp_all
 unfold Cell.ok at h2
 split at h2 <;> simp_all [World.has]
theorem aEk {P:Program} {w:World} {r:Reach} {b:Nat} {t:TypeId} {v:Value} (h:Value.okWide P w r b t v):∀ u ∈ v.cells.toList,wW u:=by
 have agg:∀ cs:Array Value,Row.okWide P w r b t cs → ∀ u ∈ cs.toList,wW u:=by
  intro cs ⟨ts,_,_,h3⟩ u hu
  obtain ⟨i,hi⟩:=List.getElem?_of_mem hu
  obtain ⟨q,_,hq⟩:=h3 i u (by simpa using hi)
  exact aAq hq
 unfold Value.okWide at h
 split at h
 · obtain ⟨cs,rfl,_,h⟩:=h; simpa [Value.cells] using agg cs h
 · obtain ⟨cs,rfl,_,h⟩:=h; simpa [Value.cells] using agg cs h
 · have h2:=aAq h
   intro u hu
   cases v with
   | agg cs =>
     exfalso
     unfold Cell.okWide at h
     split at h <;> simp_all [Cell.ok]
   | _=>simp [Value.cells] at hu; subst hu; exact h2

def Env.none (w:World):Env:=⟨w,fun _ _=>False⟩
def OpD (P:Program) (sp:Bool) (t:TypeId) (Q:List D → Prop):Prop :=
 ∀ {H:Type} {enc:TypeId × Value → H} {w:World} {base:Nat} {spare:Nat → Bool} {held:Bool} {fuel:Nat} {cs:List Value} {x:DataW H × List MemPlace},
   DataW.trod enc P w base spare held fuel t cs=some x → (sp=true → ∀ v ∈ cs,wW v) → ∃ ds,RdL (Env.none w) β0 cs ds ∧ Q ds
def qInt (k:IntKind) (ds:List D):Prop:=∃ n:Int,ds=[.int k n] ∧ (k.min ≤ n ∧ n ≤ k.max)
def qBool (ds:List D):Prop:=∃ b:Bool,ds=[.bool b]
def qStr (ds:List D):Prop:=∃ l:List UInt8,ds=[.str l] ∧ l.length ≤ 9223372036854775807
def qSlice {α:Type} (f:Enc α) (wf:α → Prop) (ds:List D):Prop:=∃ l:List α,ds=[.slice false (l.map f.d)] ∧ l.length ≤ 9223372036854775807 ∧ ∀ x ∈ l,wf x
def qList:List (List D → Prop) → List D → Prop
 | [],ds=>ds=[]
 | Q :: Qs,ds=>∃ a b,ds=a ++ b ∧ Q a ∧ qList Qs b

section
variable {P:Program} {sp:Bool} {t:TypeId}
theorem nV {k:IntKind} (hu:P.underlying t=some (.int k)):OpD P sp t (qInt k):=by
 intro H enc w base spare held fuel cs x h _
 obtain ⟨n,rfl,rfl,hw⟩:=DataW.trod_int hu h
 exact ⟨[.int k n],.cons (.int _ _ _) (.nil _),n,rfl,by simpa [Lit.wf] using hw⟩
theorem aEx (hu:P.underlying t=some .bool):OpD P sp t qBool:=by
 intro H enc w base spare held fuel cs x h _
 obtain ⟨b,rfl,rfl⟩:=DataW.trod_bool hu h
 exact ⟨[.bool b],.cons (.bool _ _) (.nil _),b,rfl⟩
theorem opd_str (hu:P.underlying t=some .string):OpD P sp t qStr:=by
 intro H enc w base spare held fuel cs x h _
 obtain ⟨s,rfl,rfl,hs⟩:=DataW.trod_string hu h
 refine ⟨[.str s.data.toList],.cons ?_ (.nil _),s.data.toList,rfl,?_⟩
 · have:=Rd.str (E:=Env.none w) β0 s.data.toList; rwa [aET] at this
 · have:s.data.toList.length=s.size:=rfl
   rw [this]; unfold maxLen at hs; omega
theorem aA9 {α:Type} {f:Enc α} {e:TypeId} {wf:α → Prop} (hu:P.underlying t=some (.slice e)) (hc:P.cellsOf e=f.sz) (he:OpD P false e (fun ds=>∃ a,ds=(f.d a).cells ∧ wf a)):OpD P sp t (qSlice f wf):=by
 intro H enc w base spare held fuel cs x h hs
 rcases DataW.trod_slice hu h with ⟨rfl,_⟩ | ⟨a,len,cap,elems,rest,n,_,rfl,rfl,hb,hl,hm,hlen,hel,_,_⟩
 · exact ⟨[.slice false []],.cons (.nslice _ _) (.nil _),[],rfl,by simp,by simp⟩
 · by_cases hl0:len=0
   · subst hl0; exact ⟨[.slice false []],.cons (.eslice _ a cap false (fun h=>by cases h)) (.nil _),[],rfl,by simp,by simp⟩
   have hsp0:a.spot=none:=by
    have h1:=hel 0 (by omega)
    have h2:elems[0]? = some (elems[0]'(by omega)):=List.getElem?_eq_getElem _
    rw [h2,Option.bind_eq_some_iff] at h1
    obtain ⟨vs,h3,_⟩:=h1
    have h7:=World.cells?_some h3
    have hp:=f.pos
    have h8:=h7.2.2 0 (by rw [hc]; exact hp)
    rw [Nat.zero_mul] at h8
    have e0:((a.add 0).add 0)=a:=rfl
    rw [e0] at h8
    cases hsp:a.spot with
    | none=>rfl
    | some q =>
      exfalso
      unfold World.cell? at h8
      rw [hsp] at h8
      split at h8
      · simp at h8; have:=h7.1; simp_all
      · have:=h7.1; simp_all
   have ha:a=⟨a.block,a.off,none⟩:=by cases a; simp_all
   have each:∀ i,i < len → ∃ (vs:List Value) (y:α),(∀ k v,vs[k]? = some v → w.cell? ⟨a.block,a.off + (i * f.sz + k),none⟩=some v) ∧ RdL (Env.none w) β0 vs (f.d y).cells ∧ wf y:=by
    intro i hi
    have h1:=hel i hi
    have h2:elems[i]? = some (elems[i]'(by omega)):=List.getElem?_eq_getElem _
    rw [h2,Option.bind_eq_some_iff] at h1
    obtain ⟨vs,h3,h4⟩:=h1
    obtain ⟨ds,h5,y,rfl,h6⟩:=he h4 (by simp)
    refine ⟨vs,y,fun k v hk=>?_,h5,h6⟩
    have h7:=World.cells?_some h3
    have hk':=(List.getElem?_eq_some_iff.1 hk).1
    have h8:=h7.2.2 k (by omega)
    rw [hk,ha,hc] at h8
    rw [← h8]
    congr 1
    by_cases h9:i * f.sz=0
    · by_cases h10:k=0
      · simp [Addr.add,h9,h10]
      · simp [Addr.add,h9,h10]
    · by_cases h10:k=0
      · simp [Addr.add,h9,h10]
      · simp [Addr.add,h9,h10,Nat.add_assoc]
   have all:∀ m,m ≤ len → ∃ (vs:List Value) (l:List α),l.length=m ∧ (∀ k v,vs[k]? = some v → w.cell? ⟨a.block,a.off + k,none⟩=some v) ∧ RdL (Env.none w) β0 vs (D.flat (l.map f.d)) ∧ ∀ y ∈ l,wf y:=by
    intro m
    induction m with
    | zero=>intro _; exact ⟨[],[],rfl,by simp,.nil _,by simp⟩
    | succ m ih =>
      intro hm'
      obtain ⟨vs,l,h1,h2,h3,h4⟩:=ih (by omega)
      obtain ⟨us,y,h5,h6,h7⟩:=each m (by omega)
      have hvl:vs.length=m * f.sz:=by rw [h3.length,f.flat_len,h1]
      refine ⟨vs ++ us,l ++ [y],by simp [h1],fun k v hk=>?_,?_,?_⟩
      · by_cases hk':k < vs.length
        · exact h2 k v (by rwa [List.getElem?_append_left hk'] at hk)
        · rw [List.getElem?_append_right (by omega)] at hk
          have:=h5 _ _ hk
          rwa [hvl,show m * f.sz + (k - m * f.sz)=k by omega] at this
      · rw [List.map_append]
        have e2:D.flat (l.map f.d ++ [y].map f.d)=D.flat (l.map f.d) ++ (f.d y).cells:=by simp [D.flat]
        rw [e2]; exact h3.append h6
      · intro z hz
        rcases List.mem_append.1 hz with h | h
        · exact h4 z h
        · simp at h; subst h; exact h7
   obtain ⟨vs,l,h1,h2,h3,h4⟩:=all len (Nat.le_refl _)
   refine ⟨[.slice false (l.map f.d)],.cons ?_ (.nil _),l,rfl,by unfold maxLen at hm; omega,h4⟩
   rw [ha]
   exact .slice _ _ _ len cap f.sz false vs _ (by rw [List.length_map,h1]) hl (by simp) (f.len l) f.pos (fun k v hk=>⟨h2 k v hk,fun h=>h⟩) h3

def wU (P:Program):Nat → List Field → Bool
 | _,[]=>true
 | k,f :: fs=>f.offset == k && wU P (k + P.cellsOf f.type) fs
inductive OpFs (P:Program) (sp:Bool):List Field → List (List D → Prop) → Prop
 | nil:OpFs P sp [] []
 | cons {f fs Q Qs} (h:OpD P sp f.type Q) (t:OpFs P sp fs Qs):OpFs P sp (f :: fs) (Q :: Qs)
theorem vO {fs:Array Field} {Qs:List (List D → Prop)} (hu:P.underlying t=some (.struct fs)) (hf:wU P 0 fs.toList=true) (hn:P.cellsOf t=(fs.toList.map fun f=>P.cellsOf f.type).sum) (h:OpFs P sp fs.toList Qs):OpD P sp t (qList Qs):=by
 intro H enc w base spare held fuel cs x hx hs
 obtain ⟨xs,n,_,_,hlen,hxl,hfld⟩:=DataW.trod_struct hu hx
 have key:∀ (l:List Field) (Qs:List (List D → Prop)) (k:Nat),OpFs P sp l Qs → wU P k l=true → k + (l.map fun f=>P.cellsOf f.type).sum=cs.length →
  (∀ f ∈ l,∃ y,DataW.trod enc P w base spare held n f.type ((cs.drop f.offset).take (P.cellsOf f.type))=some y) → ∃ ds,RdL (Env.none w) β0 (cs.drop k) ds ∧ qList Qs ds:=by
  intro l Qs k ho
  induction ho generalizing k with
  | nil =>
    intro _ h1 _
    refine ⟨[],?_,rfl⟩
    rw [List.drop_of_length_le (by simp at h1; omega)]; exact .nil _
  | @cons f fs Q Qs h t ih =>
    intro h1 h2 h3
    simp only [wU,Bool.and_eq_true,beq_iff_eq] at h1
    simp only [List.map_cons,List.sum_cons] at h2
    obtain ⟨y,hy⟩:=h3 f (by simp)
    rw [h1.1] at hy
    obtain ⟨ds,h4,h5⟩:=h hy (fun hsp v hv=>hs hsp v (List.mem_of_mem_drop (List.mem_of_mem_take hv)))
    obtain ⟨es,h6,h7⟩:=ih (k + P.cellsOf f.type) h1.2 (by omega) (fun g hg=>h3 g (by simp [hg]))
    refine ⟨ds ++ es,?_,ds,es,rfl,h5,h7⟩
    have:=h4.append h6
    rwa [← List.drop_drop,List.take_append_drop] at this
 have:=key fs.toList Qs 0 h hf (by rw [Nat.zero_add,← hn,hlen]) (fun f hf=>by
  obtain ⟨i,hi⟩:=List.getElem?_of_mem hf
  have h1:=hfld i f (by simpa using hi)
  have h2:i < xs.length:=by rw [hxl]; have:=(List.getElem?_eq_some_iff.1 hi).1; simpa using this
  exact ⟨xs[i],by rw [h1,List.getElem?_eq_getElem h2]⟩)
 rwa [List.drop_zero] at this
theorem OpD.to {Q R:List D → Prop} (h:OpD P sp t Q) (k:∀ ds,Q ds → R ds):OpD P sp t R:=by
 intro H enc w base spare held fuel cs x hx hs
 obtain ⟨ds,h1,h2⟩:=h hx hs
 exact ⟨ds,h1,k ds h2⟩
theorem opd_val {Q:List D → Prop} (h:OpD P true t Q) {H:Type} {enc:TypeId × Value → H} {w:World} {base b0:Nat} {spare:Nat → Bool} {held:Bool} {v:Value} {d:DataW H} {ps:List MemPlace} {r:Reach}
 (hv:Value.okWide P w r b0 t v) (hd:DataW.Trod enc P w base spare held t v d ps):∃ ds,RdL (Env.none w) β0 v.cells.toList ds ∧ Q ds:=by
 obtain ⟨fuel,hf⟩:=hd
 exact h hf (fun _=>aEk hv)
theorem aDT {E:Env} {v:Value} {d:D} (h:RdL E β0 v.cells.toList [d]) (hn:∀ cs,v ≠ .agg cs):Rd E β0 v d:=by
 cases v with
 | agg cs=>exact absurd rfl (hn cs)
 | _=>simp [Value.cells] at h; cases h with | cons h _=>exact h
section
variable {H:Type} {enc:TypeId × Value → H}
theorem tT (hl:laidOutB P=true) {W W':World} (hb:Below W.heap.size W W') {sp:Nat → Bool}:∀ {ts:List TypeId} {vs:List Value} {ds:List (DataW H)} {ps:List MemPlace},
 (∀ t ∈ ts,P.readableRec t=true ∧ t < P.types.size) → DataW.TrodAll enc P W 0 (fun _=>true) true ts vs ds ps → (∀ x ∈ ps,x.block < W.heap.size) → (∀ x ∈ ps,sp x.block=true) →
 DataW.TrodAll enc P W' 0 sp true ts vs ds ps
 | [],vs,ds,ps,_,h,_,_=>by
   obtain ⟨rfl,rfl,rfl⟩:=trodAll_nil h; exact rfl
 | t :: ts,vs,ds,ps,hr,h,hlt,hsp=>by
   obtain ⟨v,vs',d,ds',p,q,rfl,rfl,rfl,h1,h2⟩:=trodAll_cons h
   refine ⟨p,q,?_,tT hl hb (fun t ht=>hr t (by simp [ht])) h2 (fun x hx=>hlt x (by simp [hx])) (fun x hx=>hsp x (by simp [hx])),rfl⟩
   have hx:∀ x ∈ p,x ∈ p ++ q:=fun x hx=>by simp [hx]
   exact WideElems.Trod_stays hl (hr t (by simp)).1 (hr t (by simp)).2 h1 (fun x hxp=>hb.same (hlt x (hx x hxp))) (fun x hxp=>hsp x (hx x hxp))
theorem zZ {f:Func} {s:ChangeSpec} {apart fresh handsOn again:Bool} {W W':World} {args:Array Value} {v:Value} {ds gs:List (DataW H)} {before pa pv:List MemPlace}
 (hW:DataW.Whole enc P f.params.toList s.vars apart W args.toList ds gs before)
 (hres:∀ (b:Nat) (sp:Nat → Bool) (hd:Bool),DataW.TrodAll enc P W' b sp hd f.resultTypes.toList (v.resultList f.resultTypes.size) (s.fn H (ds ++ gs)).results [])
 (hargs:∀ sp:Nat → Bool,(∀ p ∈ before,sp p.block=true) → DataW.TrodAll enc P W' 0 sp true f.params.toList args.toList (s.fn H (ds ++ gs)).args pa)
 (hvars:∀ sp:Nat → Bool,(∀ p ∈ before,sp p.block=true) → DataW.TrodVars enc P W' sp s.vars (s.fn H (ds ++ gs)).vars pv)
 (hps:before=pa ++ pv) (hb:Below W.heap.size W W')
 (hok:∀ (j:Nat) (t:TypeId) (r:Value),f.resultTypes[j]? = some t → (v.resultList f.resultTypes.size)[j]? = some r → Value.okWide P W' .any 0 t r) :
 s.post enc P f apart fresh handsOn again W args v W':=by
 have hlt:∀ p ∈ before,p.block < W.heap.size:=fun p hp=>hW.lt p hp
 have hold:∀ p ∈ before,(fun b=>decide (b < W.heap.size)) p.block=true:=fun p hp=>by simpa using hlt p hp
 refine ⟨ds,gs,before,[],pa,pv,hW,hres _ _ _,hargs _ hold,hvars _ hold,World.keptBut_mono (fun p hp=>⟨hp,?_⟩) (hb.frame (· ∈ before)),fun _=>?_⟩
 · rw [hps,List.mem_append] at hp
   exact Or.inr hp
 · obtain ⟨_,_,_,_,_,hz,hn⟩:=hW
   refine ⟨hok,_,_,([] ++ pa) ++ pv,⟨[] ++ pa,pv,trodAll_append (hargs _ (fun _ _=>rfl)) (hres _ _ _),hvars _ (fun _ _=>rfl),rfl,?_,?_⟩,?_⟩
   · intro b off hp
     have hin:MemPlace.cell b off ∈ before:=by rw [hps]; simpa using hp
     rw [hb.frozen (hlt _ hin)]
     exact hz b off hin
   · intro ha
     have:=hn ha
     rw [hps] at this
     simpa using this
   · intro p hp _
     rw [hps]
     simpa using hp
theorem aE2 {f:Func} {s:ChangeSpec} {apart fresh handsOn again:Bool} {W W':World} {args:Array Value} {ds gs:List (DataW H)} {before:List MemPlace} {tb:TypeId}
 (hl:laidOutB P=true) (hr:∀ t ∈ f.params.toList,P.readableRec t=true ∧ t < P.types.size) (hv:s.vars=[]) (hres:f.resultTypes = #[tb]) (hbool:P.underlying tb=some .bool)
 (hfn:s.fn H (ds ++ gs) = { results:=[.lit (.bool true)],args:=ds })
 (hW:DataW.Whole enc P f.params.toList s.vars apart W args.toList ds gs before) (hb:Below W.heap.size W W'):s.post enc P f apart fresh handsOn again W args (.bool true) W':=by
 have hW':=hW
 obtain ⟨p,q,hA,hV,hbef,hfz,hnd⟩:=hW
 rw [hv] at hV
 obtain ⟨rfl,rfl⟩:=trodVars_none hV
 have hlt:∀ x ∈ before,x.block < W.heap.size:=fun x hx=>hW'.lt x hx
 have hsub:∀ x ∈ p,x ∈ before:=fun x hx=>by rw [hbef]; simp [hx]
 refine zZ (pa:=p) (pv:=[]) hW' ?_ ?_ ?_ ?_ hb ?_
 · intro b sp hd
   rw [hfn,hres]
   exact trodAll_mk1 (shut_bool hbool true)
 · intro sp hsp
   rw [hfn]
   exact tT hl hb hr hA (fun x hx=>hlt x (hsub x hx)) (fun x hx=>hsp x (hsub x hx))
 · intro sp hsp
   rw [hfn,hv]; exact rfl
 · exact hbef
 · exact ok_one hres rfl (okWide_bool_mk hbool true)
end
end
end Go.IL
namespace Go.IL
theorem aCm {P:Program} {w W:World} {r:Reach} {b:Nat} {t:TypeId} {v:Value} {d:D} (hv:Value.okWide P W r b t v) (hg:gJ P t=false) (h:RdL (Env.none w) β0 v.cells.toList [d]):Rd (Env.none w) β0 v d:=by
 refine aDT h fun cs e=>?_
 subst e
 unfold gJ at hg
 unfold Value.okWide at hv
 split at hv
 · rename_i h1; rw [h1] at hg; cases hg
 · rename_i h1; rw [h1] at hg; cases hg
 · unfold Cell.okWide at hv
   split at hv <;> simp_all [Cell.ok]
end Go.IL
open Go.RowKit Go.WideShapes Go.ChangeShapes
namespace Go.IL
end Go.IL
