/-
  A part of the proof: rules and plain facts. No condition.
-/
import Derived.Test.YtbacpjjiklkgfaaGreatIlA20D
import Derived.KernelRfl
import Derived.Test.YtbacpjjiklkgfaaGreatIlZ
import Derived.ProofKit
import Derived.OpenShut
set_option linter.all false
open Go Go.IL
namespace Go.Fn
theorem awake20:kC=some true:=by kernel_rfl
def inB (a b c:Int):Bool:=decide (b≤a)&&decide (a≤c)
theorem xN (a b c:Int):jH a b c=some (inB a b c):=rfl
theorem xR (a b c:Int):fA a b c=some (inB a b c):=rfl
theorem inB_iff {a b c:Int}:inB a b c=true↔b≤a∧a≤c:=by unfold inB; rw [Bool.and_eq_true,decide_eq_true_eq,decide_eq_true_eq]
def nearE (a b:aQ) (c d m:Int):Bool :=
 decide (max ((a.Sent-c)*b.Weight-(b.Sent-d)*a.Weight) (-((a.Sent-c)*b.Weight-(b.Sent-d)*a.Weight))≤m*(a.Weight+b.Weight))
def uJ (a b:aQ) (c d m:Int):Bool :=
 inB a.Weight 1 256&&inB b.Weight 1 256&&inB a.Sent 0 1099511627776&&inB b.Sent 0 1099511627776&&inB m 0 1099511627776&&inB c 0 a.Sent&&inB d 0 b.Sent
theorem aAp {x w k m:Int} (h0:0≤x) (h1:x≤k) (h2:0≤w) (h3:w≤m) (hk:0≤k):0≤x*w∧x*w≤k*m :=
 ⟨Int.mul_nonneg h0 h2,Int.mul_le_mul h1 h3 h2 hk⟩
theorem wR {a b:aQ} {c d m:Int} (h:uJ a b c d m=true) :
 IntKind.wrap .i64 (a.Sent-c)=a.Sent-c∧IntKind.wrap .i64 ((a.Sent-c)*b.Weight)=(a.Sent-c)*b.Weight∧IntKind.wrap .i64 (b.Sent-d)=b.Sent-d∧IntKind.wrap .i64 ((b.Sent-d)*a.Weight)=(b.Sent-d)*a.Weight ∧
 IntKind.wrap .i64 ((a.Sent-c)*b.Weight-(b.Sent-d)*a.Weight)=(a.Sent-c)*b.Weight-(b.Sent-d)*a.Weight∧IntKind.wrap .i64 (0-((a.Sent-c)*b.Weight-(b.Sent-d)*a.Weight)) = -((a.Sent-c)*b.Weight-(b.Sent-d)*a.Weight) ∧
 IntKind.wrap .i64 (a.Weight+b.Weight)=a.Weight+b.Weight∧IntKind.wrap .i64 (m*(a.Weight+b.Weight))=m*(a.Weight+b.Weight):=by
 simp only [uJ,Bool.and_eq_true,inB_iff] at h
 obtain ⟨⟨⟨⟨⟨⟨h1,h2⟩,h3⟩,h4⟩,h5⟩,h6⟩,h7⟩:=h
 have e1:=aAp (x:=a.Sent-c) (w:=b.Weight) (k:=1099511627776) (m:=256) (by omega) (by omega) (by omega) (by omega) (by omega)
 have e2:=aAp (x:=b.Sent-d) (w:=a.Weight) (k:=1099511627776) (m:=256) (by omega) (by omega) (by omega) (by omega) (by omega)
 have e3:=aAp (x:=m) (w:=a.Weight+b.Weight) (k:=1099511627776) (m:=512) (by omega) (by omega) (by omega) (by omega) (by omega)
 refine ⟨w64 (by omega) (by omega),w64 (by omega) (by omega),w64 (by omega) (by omega),w64 (by omega) (by omega),w64 (by omega) (by omega),?_,w64 (by omega) (by omega),w64 (by omega) (by omega)⟩
 rw [Int.zero_sub]; exact w64 (by omega) (by omega)
theorem vE (a b:aQ) (n:kN) (m:Int):lO a b n m=some (uJ a b n.c0 n.c1 m&&nearE a b n.c0 n.c1 m):=by
 unfold lO
 simp only [xN,bnoS,bndD]
 cases hc:uJ a b n.c0 n.c1 m with
 | true =>
   obtain ⟨t1,t2,t3,t4,t5,t6,t7,t8⟩:=wR hc
   simp only [uJ,Bool.and_eq_true] at hc
   obtain ⟨⟨⟨⟨⟨⟨h1,h2⟩,h3⟩,h4⟩,h5⟩,h6⟩,h7⟩:=hc
   simp only [h1,h2,h3,h4,h5,h6,h7]
   show (bif false then (some false:Option Bool) else _)=_
   rw [aCG,t1,t2,t3,t4,t5,t6,t7,t8]; rfl
 | false =>
   unfold uJ at hc
   revert hc
   generalize inB a.Weight 1 256=p1
   generalize inB b.Weight 1 256=p2
   generalize inB a.Sent 0 1099511627776=p3
   generalize inB b.Sent 0 1099511627776=p4
   generalize inB m 0 1099511627776=p5
   generalize inB n.c0 0 a.Sent=p6
   generalize inB n.c1 0 b.Sent=p7
   intro hc
   cases p1 <;> cases p2 <;> cases p3 <;> cases p4 <;> cases p5 <;> cases p6 <;> cases p7 <;> first | rfl | (cases hc)
theorem vL (a b:aQ) (n:kN) (m:Int):jM a b n m=some (uJ a b n.c0 n.c1 m&&nearE a b n.c0 n.c1 m):=by
 unfold jM
 simp only [xR,bnoS,bndD]
 cases hc:uJ a b n.c0 n.c1 m with
 | true =>
   obtain ⟨t1,t2,t3,t4,t5,t6,t7,t8⟩:=wR hc
   simp only [uJ,Bool.and_eq_true] at hc
   obtain ⟨⟨⟨⟨⟨⟨h1,h2⟩,h3⟩,h4⟩,h5⟩,h6⟩,h7⟩:=hc
   simp only [h1,h2,h3,h4,h5,h6,h7]
   show (bif false then (some false:Option Bool) else _)=_
   rw [aCG,t1,t2,t3,t4,t5,t6,t7,t8]
   unfold nearE
   generalize (a.Sent-n.c0)*b.Weight-(b.Sent-n.c1)*a.Weight=x
   generalize m*(a.Weight+b.Weight)=y
   rw [Bool.true_and,←Bool.decide_and]
   refine congrArg some (decide_eq_decide.2 ?_)
   omega
 | false =>
   unfold uJ at hc
   revert hc
   generalize inB a.Weight 1 256=p1
   generalize inB b.Weight 1 256=p2
   generalize inB a.Sent 0 1099511627776=p3
   generalize inB b.Sent 0 1099511627776=p4
   generalize inB m 0 1099511627776=p5
   generalize inB n.c0 0 a.Sent=p6
   generalize inB n.c1 0 b.Sent=p7
   intro hc
   cases p1 <;> cases p2 <;> cases p3 <;> cases p4 <;> cases p5 <;> cases p6 <;> cases p7 <;> first | rfl | (cases hc)
theorem zU (a b:aQ) (n:oB):fJ a b n=some true:=by
 unfold fJ
 rw [vE,vL]
 simp only [bnoS,bndD,beq_self_eq_true,gd_tt,awake20,Bool.and_self]
end Go.Fn
open Go.RowKit Go.WideShapes Go.ChangeShapes
namespace Go.IL

def sS (v:Value):Prop:=∀ a n c,v = .slice (some a) n c→a.spot=none
theorem wI {P:Program} {w:World} {r:Reach} {b:Nat} {t:TypeId} {v:Value} (h:Cell.okWide P w r b t v):sS v:=by
 intro a n c e
 subst e
 have h2:Cell.ok P w r b t (.slice (some a) n c):=by
  unfold Cell.okWide at h
  split at h <;> first | exact h | (rename_i h3 _; cases h3) | (rename_i h3; cases h3) | skip
  all_goals first | exact h | simp_all
 unfold Cell.ok at h2
 split at h2 <;> simp_all [World.has]
theorem aBc {P:Program} {w:World} {r:Reach} {b:Nat} {t:TypeId} {v:Value} (h:Value.okWide P w r b t v):∀ u∈v.cells.toList,sS u:=by
 have agg:∀ cs:Array Value,Row.okWide P w r b t cs→∀ u∈cs.toList,sS u:=by
  intro cs ⟨ts,_,_,h3⟩ u hu
  obtain ⟨i,hi⟩:=List.getElem?_of_mem hu
  obtain ⟨q,_,hq⟩:=h3 i u (by simpa using hi)
  exact wI hq
 unfold Value.okWide at h
 split at h
 · obtain ⟨cs,rfl,_,h⟩:=h; simpa [Value.cells] using agg cs h
 · obtain ⟨cs,rfl,_,h⟩:=h; simpa [Value.cells] using agg cs h
 · have h2:=wI h
   intro u hu
   cases v with
   | agg cs =>
     exfalso
     unfold Cell.okWide at h
     split at h <;> simp_all [Cell.ok]
   | _=>simp [Value.cells] at hu; subst hu; exact h2

def Env.none (w:World):Env:=⟨w,fun _ _=>False⟩
def OpD (P:Program) (sp:Bool) (t:TypeId) (Q:List D→Prop):Prop :=
 ∀ {H:Type} {enc:TypeId×Value→H} {w:World} {base:Nat} {spare:Nat→Bool} {held:Bool} {fuel:Nat} {cs:List Value} {x:DataW H×List MemPlace},
   DataW.trod enc P w base spare held fuel t cs=some x→(sp=true→∀ v∈cs,sS v)→∃ ds,RdL (Env.none w) β0 cs ds∧Q ds
def qInt (k:IntKind) (ds:List D):Prop:=∃ n:Int,ds=[.int k n]∧(k.min≤n∧n≤k.max)
def aAm:List (List D→Prop)→List D→Prop
 | [],ds=>ds=[]
 | Q::Qs,ds=>∃ a b,ds=a++b∧Q a∧aAm Qs b

section
variable {P:Program} {sp:Bool} {t:TypeId}
theorem vS {k:IntKind} (hu:P.underlying t=some (.int k)):OpD P sp t (qInt k):=by
 intro H enc w base spare held fuel cs x h _
 obtain ⟨n,rfl,rfl,hw⟩:=DataW.trod_int hu h
 exact ⟨[.int k n],.cons (.int _ _ _) (.nil _),n,rfl,by simpa [Lit.wf] using hw⟩
def sQ (P:Program):Nat→List Field→Bool
 | _,[]=>true
 | k,f::fs=>f.offset == k&&sQ P (k+P.cellsOf f.type) fs
inductive OpFs (P:Program) (sp:Bool):List Field→List (List D→Prop)→Prop
 | nil:OpFs P sp [] []
 | cons {f fs Q Qs} (h:OpD P sp f.type Q) (t:OpFs P sp fs Qs):OpFs P sp (f::fs) (Q::Qs)
theorem zY {fs:Array Field} {Qs:List (List D→Prop)} (hu:P.underlying t=some (.struct fs)) (hf:sQ P 0 fs.toList=true) (hn:P.cellsOf t=(fs.toList.map fun f=>P.cellsOf f.type).sum) (h:OpFs P sp fs.toList Qs):OpD P sp t (aAm Qs):=by
 intro H enc w base spare held fuel cs x hx hs
 obtain ⟨xs,n,_,_,hlen,hxl,hfld⟩:=DataW.trod_struct hu hx
 have key:∀ (l:List Field) (Qs:List (List D→Prop)) (k:Nat),OpFs P sp l Qs→sQ P k l=true→k+(l.map fun f=>P.cellsOf f.type).sum=cs.length →
  (∀ f∈l,∃ y,DataW.trod enc P w base spare held n f.type ((cs.drop f.offset).take (P.cellsOf f.type))=some y)→∃ ds,RdL (Env.none w) β0 (cs.drop k) ds∧aAm Qs ds:=by
  intro l Qs k ho
  induction ho generalizing k with
  | nil =>
    intro _ h1 _
    refine ⟨[],?_,rfl⟩
    rw [List.drop_of_length_le (by simp at h1; omega)]; exact .nil _
  | @cons f fs Q Qs h t ih =>
    intro h1 h2 h3
    simp only [sQ,Bool.and_eq_true,beq_iff_eq] at h1
    simp only [List.map_cons,List.sum_cons] at h2
    obtain ⟨y,hy⟩:=h3 f (by simp)
    rw [h1.1] at hy
    obtain ⟨ds,h4,h5⟩:=h hy (fun hsp v hv=>hs hsp v (List.mem_of_mem_drop (List.mem_of_mem_take hv)))
    obtain ⟨es,h6,h7⟩:=ih (k+P.cellsOf f.type) h1.2 (by omega) (fun g hg=>h3 g (by simp [hg]))
    refine ⟨ds++es,?_,ds,es,rfl,h5,h7⟩
    have:=h4.append h6
    rwa [←List.drop_drop,List.take_append_drop] at this
 have:=key fs.toList Qs 0 h hf (by rw [Nat.zero_add,←hn,hlen]) (fun f hf=>by
  obtain ⟨i,hi⟩:=List.getElem?_of_mem hf
  have h1:=hfld i f (by simpa using hi)
  have h2:i<xs.length:=by rw [hxl]; have:=(List.getElem?_eq_some_iff.1 hi).1; simpa using this
  exact ⟨xs[i],by rw [h1,List.getElem?_eq_getElem h2]⟩)
 rwa [List.drop_zero] at this
theorem OpD.to {Q R:List D→Prop} (h:OpD P sp t Q) (k:∀ ds,Q ds→R ds):OpD P sp t R:=by
 intro H enc w base spare held fuel cs x hx hs
 obtain ⟨ds,h1,h2⟩:=h hx hs
 exact ⟨ds,h1,k ds h2⟩
theorem xV {Q:List D→Prop} (h:OpD P true t Q) {H:Type} {enc:TypeId×Value→H} {w:World} {base b0:Nat} {spare:Nat→Bool} {held:Bool} {v:Value} {d:DataW H} {ps:List MemPlace} {r:Reach}
 (hv:Value.okWide P w r b0 t v) (hd:DataW.Trod enc P w base spare held t v d ps):∃ ds,RdL (Env.none w) β0 v.cells.toList ds∧Q ds:=by
 obtain ⟨fuel,hf⟩:=hd
 exact h hf (fun _=>aBc hv)
theorem aAl {E:Env} {cs:Array Value} {ds:List D} (h:RdL E β0 (Value.cells (.agg cs)).toList ds):Rd E β0 (.agg cs) (.agg ds):=by
 have:=Rd.agg (E:=E) β0 cs.toList ds (by simpa [Value.cells] using h)
 simpa using this

section
variable {H:Type} {enc:TypeId×Value→H}
theorem qK (hl:laidOutB P=true) {W W':World} (hb:Below W.heap.size W W') {sp:Nat→Bool}:∀ {ts:List TypeId} {vs:List Value} {ds:List (DataW H)} {ps:List MemPlace},
 (∀ t∈ts,P.readableRec t=true∧t<P.types.size)→DataW.TrodAll enc P W 0 (fun _=>true) true ts vs ds ps→(∀ x∈ps,x.block<W.heap.size)→(∀ x∈ps,sp x.block=true) →
 DataW.TrodAll enc P W' 0 sp true ts vs ds ps
 | [],vs,ds,ps,_,h,_,_=>by
   obtain ⟨rfl,rfl,rfl⟩:=trodAll_nil h; exact rfl
 | t::ts,vs,ds,ps,hr,h,hlt,hsp=>by
   obtain ⟨v,vs',d,ds',p,q,rfl,rfl,rfl,h1,h2⟩:=trodAll_cons h
   refine ⟨p,q,?_,qK hl hb (fun t ht=>hr t (by simp [ht])) h2 (fun x hx=>hlt x (by simp [hx])) (fun x hx=>hsp x (by simp [hx])),rfl⟩
   have hx:∀ x∈p,x∈p++q:=fun x hx=>by simp [hx]
   exact WideElems.Trod_stays hl (hr t (by simp)).1 (hr t (by simp)).2 h1 (fun x hxp=>hb.same (hlt x (hx x hxp))) (fun x hxp=>hsp x (hx x hxp))
theorem vO {f:Func} {s:ChangeSpec} {apart fresh handsOn again:Bool} {W W':World} {args:Array Value} {v:Value} {ds gs:List (DataW H)} {before pa pv:List MemPlace}
 (hW:DataW.Whole enc P f.params.toList s.vars apart W args.toList ds gs before)
 (hres:∀ (b:Nat) (sp:Nat→Bool) (hd:Bool),DataW.TrodAll enc P W' b sp hd f.resultTypes.toList (v.resultList f.resultTypes.size) (s.fn H (ds++gs)).results [])
 (hargs:∀ sp:Nat→Bool,(∀ p∈before,sp p.block=true)→DataW.TrodAll enc P W' 0 sp true f.params.toList args.toList (s.fn H (ds++gs)).args pa)
 (hvars:∀ sp:Nat→Bool,(∀ p∈before,sp p.block=true)→DataW.TrodVars enc P W' sp s.vars (s.fn H (ds++gs)).vars pv)
 (hps:before=pa++pv) (hb:Below W.heap.size W W')
 (hok:∀ (j:Nat) (t:TypeId) (r:Value),f.resultTypes[j]? = some t→(v.resultList f.resultTypes.size)[j]? = some r→Value.okWide P W' .any 0 t r) :
 s.post enc P f apart fresh handsOn again W args v W':=by
 have hlt:∀ p∈before,p.block<W.heap.size:=fun p hp=>hW.lt p hp
 have hold:∀ p∈before,(fun b=>decide (b<W.heap.size)) p.block=true:=fun p hp=>by simpa using hlt p hp
 refine ⟨ds,gs,before,[],pa,pv,hW,hres _ _ _,hargs _ hold,hvars _ hold,World.keptBut_mono (fun p hp=>⟨hp,?_⟩) (hb.frame (· ∈ before)),fun _=>?_⟩
 · rw [hps,List.mem_append] at hp
   exact Or.inr hp
 · obtain ⟨_,_,_,_,_,hz,hn⟩:=hW
   refine ⟨hok,_,_,([]++pa)++pv,⟨[]++pa,pv,trodAll_append (hargs _ (fun _ _=>rfl)) (hres _ _ _),hvars _ (fun _ _=>rfl),rfl,?_,?_⟩,?_⟩
   · intro b off hp
     have hin:MemPlace.cell b off∈before:=by rw [hps]; simpa using hp
     rw [hb.frozen (hlt _ hin)]
     exact hz b off hin
   · intro ha
     have:=hn ha
     rw [hps] at this
     simpa using this
   · intro p hp _
     rw [hps]
     simpa using hp
theorem aBn {f:Func} {s:ChangeSpec} {apart fresh handsOn again:Bool} {W W':World} {args:Array Value} {ds gs:List (DataW H)} {before:List MemPlace} {tb:TypeId}
 (hl:laidOutB P=true) (hr:∀ t∈f.params.toList,P.readableRec t=true∧t<P.types.size) (hv:s.vars=[]) (hres:f.resultTypes = #[tb]) (hbool:P.underlying tb=some .bool)
 (hfn:s.fn H (ds++gs) = { results:=[.lit (.bool true)],args:=ds })
 (hW:DataW.Whole enc P f.params.toList s.vars apart W args.toList ds gs before) (hb:Below W.heap.size W W'):s.post enc P f apart fresh handsOn again W args (.bool true) W':=by
 have hW':=hW
 obtain ⟨p,q,hA,hV,hbef,hfz,hnd⟩:=hW
 rw [hv] at hV
 obtain ⟨rfl,rfl⟩:=trodVars_none hV
 have hlt:∀ x∈before,x.block<W.heap.size:=fun x hx=>hW'.lt x hx
 have hsub:∀ x∈p,x∈before:=fun x hx=>by rw [hbef]; simp [hx]
 refine vO (pa:=p) (pv:=[]) hW' ?_ ?_ ?_ ?_ hb ?_
 · intro b sp hd
   rw [hfn,hres]
   exact trodAll_mk1 (shut_bool hbool true)
 · intro sp hsp
   rw [hfn]
   exact qK hl hb hr hA (fun x hx=>hlt x (hsub x hx)) (fun x hx=>hsp x (hsub x hx))
 · intro sp hsp
   rw [hfn,hv]; exact rfl
 · exact hbef
 · exact ok_one hres rfl (okWide_bool_mk hbool true)
end
end
end Go.IL
namespace Go.IL
theorem rJ {P:Program} {w W:World} {r:Reach} {b:Nat} {t:TypeId} {v:Value} {ds:List D} (hv:Value.okWide P W r b t v) (hg:iO P t=true) (h:RdL (Env.none w) β0 v.cells.toList ds):Rd (Env.none w) β0 v (.agg ds):=by
 unfold iO at hg
 unfold Value.okWide at hv
 split at hv
 · obtain ⟨cs,rfl,_⟩:=hv; exact aAl h
 · obtain ⟨cs,rfl,_⟩:=hv; exact aAl h
 · rename_i h1 h2
   split at hg
   · rename_i h3; exact absurd h3 (h1 _)
   · rename_i h3; exact absurd h3 (h2 _ _)
   · cases hg
end Go.IL
open Go.RowKit Go.WideShapes Go.ChangeShapes
namespace Go.IL
theorem aAn {P:Program} {sp:Bool} {t e:TypeId} {n:Nat} {Q:List D→Prop} (hu:P.underlying t=some (.array n e)) (hn:P.cellsOf t=n*P.cellsOf e) (he:OpD P sp e Q):OpD P sp t (aAm (List.replicate n Q)):=by
 intro H enc w base spare held fuel cs x hx hs
 obtain ⟨xs,m,_,_,hlen,hxl,hel⟩:=DataW.trod_array hu hx
 have key:∀ (j k:Nat),k+j=n→∃ ds,RdL (Env.none w) β0 (cs.drop (k*P.cellsOf e)) ds∧aAm (List.replicate j Q) ds:=by
  intro j
  induction j with
  | zero =>
    intro k hk
    refine ⟨[],?_,rfl⟩
    rw [List.drop_of_length_le (by rw [hlen,hn,←hk]; simp)]; exact .nil _
  | succ j ih =>
    intro k hk
    obtain ⟨es,h1,h2⟩:=ih (k+1) (by omega)
    have h3:=hel k (by omega)
    rw [List.getElem?_eq_getElem (by omega)] at h3
    obtain ⟨ds,h4,h5⟩:=he h3 (fun hsp v hv=>hs hsp v (List.mem_of_mem_drop (List.mem_of_mem_take hv)))
    refine ⟨ds++es,?_,ds,es,rfl,h5,h2⟩
    have h6:=h4.append h1
    have e1:(k+1)*P.cellsOf e=k*P.cellsOf e+P.cellsOf e:=by rw [Nat.add_mul,Nat.one_mul]
    rwa [e1,←List.drop_drop,List.take_append_drop] at h6
 have:=key n 0 (by omega)
 rwa [Nat.zero_mul,List.drop_zero] at this
end Go.IL
