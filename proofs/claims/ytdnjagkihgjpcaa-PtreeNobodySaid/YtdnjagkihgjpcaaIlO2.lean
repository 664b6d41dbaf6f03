/-
  A part of the proof: rules and plain facts. No condition.
-/
import Derived.Test.YtdnjagkihgjpcaaIlA19D
import Derived.KernelRfl
import Derived.Test.YtdnjagkihgjpcaaIlMb
import Derived.ProofKit
import Derived.OpenShut
set_option linter.all false
open Go Go.IL
namespace Go.Fn
theorem yG:gB=some true:=by kernel_rfl
theorem yL {n:Int} (h0:0 ≤ n) (h1:n ≤ 255):∃ r,remI n 6=some r:=⟨_,rem_ok h0 (by decide)⟩
theorem do_none {a:eY} (h0:0 ≤ a.Kind) (h1:a.Kind ≤ 255):nC a=some 1:=by
 obtain ⟨r,hr⟩:=yL h0 h1
 unfold nC
 rw [hr,bnoS,bndD]
 unfold lM lL
 by_cases h:r=0
 · rw [decide_eq_true h]; rfl
 · rw [decide_eq_false h,vQ,bndD]
   by_cases h:r=1
   · rw [decide_eq_true h]; rfl
   · rw [decide_eq_false h,vQ,bndD]
     by_cases h:r=2
     · rw [decide_eq_true h]; rfl
     · rw [decide_eq_false h,vQ,bndD]
       by_cases h:r=3
       · rw [decide_eq_true h]; rfl
       · rw [decide_eq_false h,vQ,bndD]
         by_cases h:r=4
         · rw [decide_eq_true h]; rfl
         · rw [decide_eq_false h]; rfl
theorem vU {a:eY} (l:List Int) (h0:0 ≤ a.Kind) (h1:a.Kind ≤ 255):iD a l=some true:=by
 unfold iD
 rw [bndD]
 by_cases h:40 < l.length
 · rw [decide_eq_true (by omega),bif_tt,yG]; rfl
 · rw [decide_eq_false (by omega),vQ,do_none h0 h1,bnoS,bndD,yG]
   rfl
end Go.Fn
open Go.RowKit Go.WideShapes Go.ChangeShapes
namespace Go.IL

def tE (v:Value):Prop:=∀ a n c,v = .slice (some a) n c → a.spot=none
theorem vE {P:Program} {w:World} {r:Reach} {b:Nat} {t:TypeId} {v:Value} (h:Cell.okWide P w r b t v):tE v:=by
 intro a n c e
 subst e
 have h2:Cell.ok P w r b t (.slice (some a) n c):=by
  unfold Cell.okWide at h
  split at h <;> first | exact h | (rename_i h3 _; cases h3) | (rename_i h3; cases h3) | skip
  all_goals first | exact h | simp_all
 unfold Cell.ok at h2
 split at h2 <;> simp_all [World.has]
theorem yH {P:Program} {w:World} {r:Reach} {b:Nat} {t:TypeId} {v:Value} (h:Value.okWide P w r b t v):∀ u ∈ v.cells.toList,tE u:=by
 have agg:∀ cs:Array Value,Row.okWide P w r b t cs → ∀ u ∈ cs.toList,tE u:=by
  intro cs ⟨ts,_,_,h3⟩ u hu
  obtain ⟨i,hi⟩:=List.getElem?_of_mem hu
  obtain ⟨q,_,hq⟩:=h3 i u (by simpa using hi)
  exact vE hq
 unfold Value.okWide at h
 split at h
 · obtain ⟨cs,rfl,_,h⟩:=h; simpa [Value.cells] using agg cs h
 · obtain ⟨cs,rfl,_,h⟩:=h; simpa [Value.cells] using agg cs h
 · have h2:=vE h
   intro u hu
   cases v with
   | agg cs =>
     exfalso
     unfold Cell.okWide at h
     split at h <;> simp_all [Cell.ok]
   | _=>simp [Value.cells] at hu; subst hu; exact h2

def Env.none (w:World):Env:=⟨w,fun _ _=>False⟩
def OpD (P:Program) (sp:Bool) (t:TypeId) (Q:List D → Prop):Prop :=
 ∀ {H:Type} {enc:TypeId × Value → H} {w:World} {base:Nat} {spare:Nat → Bool} {held:Bool} {fuel:Nat} {cs:List Value} {x:DataW H × List MemPlace},
   DataW.trod enc P w base spare held fuel t cs=some x → (sp=true → ∀ v ∈ cs,tE v) → ∃ ds,RdL (Env.none w) β0 cs ds ∧ Q ds
def qInt (k:IntKind) (ds:List D):Prop:=∃ n:Int,ds=[.int k n] ∧ (k.min ≤ n ∧ n ≤ k.max)
def qBool (ds:List D):Prop:=∃ b:Bool,ds=[.bool b]
def qSlice {α:Type} (f:Enc α) (wf:α → Prop) (ds:List D):Prop:=∃ l:List α,ds=[.slice false (l.map f.d)] ∧ l.length ≤ 9223372036854775807 ∧ ∀ x ∈ l,wf x
def qList:List (List D → Prop) → List D → Prop
 | [],ds=>ds=[]
 | Q :: Qs,ds=>∃ a b,ds=a ++ b ∧ Q a ∧ qList Qs b

section
variable {P:Program} {sp:Bool} {t:TypeId}
theorem tJ {k:IntKind} (hu:P.underlying t=some (.int k)):OpD P sp t (qInt k):=by
 intro H enc w base spare held fuel cs x h _
 obtain ⟨n,rfl,rfl,hw⟩:=DataW.trod_int hu h
 exact ⟨[.int k n],.cons (.int _ _ _) (.nil _),n,rfl,by simpa [Lit.wf] using hw⟩
theorem yP (hu:P.underlying t=some .bool):OpD P sp t qBool:=by
 intro H enc w base spare held fuel cs x h _
 obtain ⟨b,rfl,rfl⟩:=DataW.trod_bool hu h
 exact ⟨[.bool b],.cons (.bool _ _) (.nil _),b,rfl⟩
theorem xN {α:Type} {f:Enc α} {e:TypeId} {wf:α → Prop} (hu:P.underlying t=some (.slice e)) (hc:P.cellsOf e=f.sz) (he:OpD P false e (fun ds=>∃ a,ds=(f.d a).cells ∧ wf a)):OpD P sp t (qSlice f wf):=by
 intro H enc w base spare held fuel cs x h hs
 rcases DataW.trod_slice hu h with ⟨rfl,_⟩ | ⟨a,len,cap,elems,rest,n,_,rfl,rfl,hb,hl,hm,hlen,hel,_,_⟩
 · exact ⟨[.slice false []],.cons (.nslice _ _) (.nil _),[],rfl,by simp,by simp⟩
 · by_cases hl0:len=0
   · subst hl0; exact ⟨[.slice false []],.cons (.eslice _ a cap false (fun h=>by cases h)) (.nil _),[],rfl,by simp,by simp⟩
   have hsp0:a.spot=none:=by
    have h1:=hel 0 (by omega)
    have h2:elems[0]? = some (elems[0]'(by omega)):=List.getElem?_eq_getElem _
    rw [h2,Option.bind_eq_some_iff] at h1
    obtain ⟨vs,h3,_⟩:=h1
    have h7:=World.cells?_some h3
    have hp:=f.pos
    have h8:=h7.2.2 0 (by rw [hc]; exact hp)
    rw [Nat.zero_mul] at h8
    have e0:((a.add 0).add 0)=a:=rfl
    rw [e0] at h8
    cases hsp:a.spot with
    | none=>rfl
    | some q =>
      exfalso
      unfold World.cell? at h8
      rw [hsp] at h8
      split at h8
      · simp at h8; have:=h7.1; simp_all
      · have:=h7.1; simp_all
   have ha:a=⟨a.block,a.off,none⟩:=by cases a; simp_all
   have each:∀ i,i < len → ∃ (vs:List Value) (y:α),(∀ k v,vs[k]? = some v → w.cell? ⟨a.block,a.off + (i * f.sz + k),none⟩=some v) ∧ RdL (Env.none w) β0 vs (f.d y).cells ∧ wf y:=by
    intro i hi
    have h1:=hel i hi
    have h2:elems[i]? = some (elems[i]'(by omega)):=List.getElem?_eq_getElem _
    rw [h2,Option.bind_eq_some_iff] at h1
    obtain ⟨vs,h3,h4⟩:=h1
    obtain ⟨ds,h5,y,rfl,h6⟩:=he h4 (by simp)
    refine ⟨vs,y,fun k v hk=>?_,h5,h6⟩
    have h7:=World.cells?_some h3
    have hk':=(List.getElem?_eq_some_iff.1 hk).1
    have h8:=h7.2.2 k (by omega)
    rw [hk,ha,hc] at h8
    rw [← h8]
    congr 1
    by_cases h9:i * f.sz=0
    · by_cases h10:k=0
      · simp [Addr.add,h9,h10]
      · simp [Addr.add,h9,h10]
    · by_cases h10:k=0
      · simp [Addr.add,h9,h10]
      · simp [Addr.add,h9,h10,Nat.add_assoc]
   have all:∀ m,m ≤ len → ∃ (vs:List Value) (l:List α),l.length=m ∧ (∀ k v,vs[k]? = some v → w.cell? ⟨a.block,a.off + k,none⟩=some v) ∧ RdL (Env.none w) β0 vs (D.flat (l.map f.d)) ∧ ∀ y ∈ l,wf y:=by
    intro m
    induction m with
    | zero=>intro _; exact ⟨[],[],rfl,by simp,.nil _,by simp⟩
    | succ m ih =>
      intro hm'
      obtain ⟨vs,l,h1,h2,h3,h4⟩:=ih (by omega)
      obtain ⟨us,y,h5,h6,h7⟩:=each m (by omega)
      have hvl:vs.length=m * f.sz:=by rw [h3.length,f.flat_len,h1]
      refine ⟨vs ++ us,l ++ [y],by simp [h1],fun k v hk=>?_,?_,?_⟩
      · by_cases hk':k < vs.length
        · exact h2 k v (by rwa [List.getElem?_append_left hk'] at hk)
        · rw [List.getElem?_append_right (by omega)] at hk
          have:=h5 _ _ hk
          rwa [hvl,show m * f.sz + (k - m * f.sz)=k by omega] at this
      · rw [List.map_append]
        have e2:D.flat (l.map f.d ++ [y].map f.d)=D.flat (l.map f.d) ++ (f.d y).cells:=by simp [D.flat]
        rw [e2]; exact h3.append h6
      · intro z hz
        rcases List.mem_append.1 hz with h | h
        · exact h4 z h
        · simp at h; subst h; exact h7
   obtain ⟨vs,l,h1,h2,h3,h4⟩:=all len (Nat.le_refl _)
   refine ⟨[.slice false (l.map f.d)],.cons ?_ (.nil _),l,rfl,by unfold maxLen at hm; omega,h4⟩
   rw [ha]
   exact .slice _ _ _ len cap f.sz false vs _ (by rw [List.length_map,h1]) hl (by simp) (f.len l) f.pos (fun k v hk=>⟨h2 k v hk,fun h=>h⟩) h3

def tC (P:Program):Nat → List Field → Bool
 | _,[]=>true
 | k,f :: fs=>f.offset == k && tC P (k + P.cellsOf f.type) fs
inductive OpFs (P:Program) (sp:Bool):List Field → List (List D → Prop) → Prop
 | nil:OpFs P sp [] []
 | cons {f fs Q Qs} (h:OpD P sp f.type Q) (t:OpFs P sp fs Qs):OpFs P sp (f :: fs) (Q :: Qs)
theorem wQ {fs:Array Field} {Qs:List (List D → Prop)} (hu:P.underlying t=some (.struct fs)) (hf:tC P 0 fs.toList=true) (hn:P.cellsOf t=(fs.toList.map fun f=>P.cellsOf f.type).sum) (h:OpFs P sp fs.toList Qs):OpD P sp t (qList Qs):=by
 intro H enc w base spare held fuel cs x hx hs
 obtain ⟨xs,n,_,_,hlen,hxl,hfld⟩:=DataW.trod_struct hu hx
 have key:∀ (l:List Field) (Qs:List (List D → Prop)) (k:Nat),OpFs P sp l Qs → tC P k l=true → k + (l.map fun f=>P.cellsOf f.type).sum=cs.length →
  (∀ f ∈ l,∃ y,DataW.trod enc P w base spare held n f.type ((cs.drop f.offset).take (P.cellsOf f.type))=some y) → ∃ ds,RdL (Env.none w) β0 (cs.drop k) ds ∧ qList Qs ds:=by
  intro l Qs k ho
  induction ho generalizing k with
  | nil =>
    intro _ h1 _
    refine ⟨[],?_,rfl⟩
    rw [List.drop_of_length_le (by simp at h1; omega)]; exact .nil _
  | @cons f fs Q Qs h t ih =>
    intro h1 h2 h3
    simp only [tC,Bool.and_eq_true,beq_iff_eq] at h1
    simp only [List.map_cons,List.sum_cons] at h2
    obtain ⟨y,hy⟩:=h3 f (by simp)
    rw [h1.1] at hy
    obtain ⟨ds,h4,h5⟩:=h hy (fun hsp v hv=>hs hsp v (List.mem_of_mem_drop (List.mem_of_mem_take hv)))
    obtain ⟨es,h6,h7⟩:=ih (k + P.cellsOf f.type) h1.2 (by omega) (fun g hg=>h3 g (by simp [hg]))
    refine ⟨ds ++ es,?_,ds,es,rfl,h5,h7⟩
    have:=h4.append h6
    rwa [← List.drop_drop,List.take_append_drop] at this
 have:=key fs.toList Qs 0 h hf (by rw [Nat.zero_add,← hn,hlen]) (fun f hf=>by
  obtain ⟨i,hi⟩:=List.getElem?_of_mem hf
  have h1:=hfld i f (by simpa using hi)
  have h2:i < xs.length:=by rw [hxl]; have:=(List.getElem?_eq_some_iff.1 hi).1; simpa using this
  exact ⟨xs[i],by rw [h1,List.getElem?_eq_getElem h2]⟩)
 rwa [List.drop_zero] at this
theorem OpD.to {Q R:List D → Prop} (h:OpD P sp t Q) (k:∀ ds,Q ds → R ds):OpD P sp t R:=by
 intro H enc w base spare held fuel cs x hx hs
 obtain ⟨ds,h1,h2⟩:=h hx hs
 exact ⟨ds,h1,k ds h2⟩
theorem xM {Q:List D → Prop} (h:OpD P true t Q) {H:Type} {enc:TypeId × Value → H} {w:World} {base b0:Nat} {spare:Nat → Bool} {held:Bool} {v:Value} {d:DataW H} {ps:List MemPlace} {r:Reach}
 (hv:Value.okWide P w r b0 t v) (hd:DataW.Trod enc P w base spare held t v d ps):∃ ds,RdL (Env.none w) β0 v.cells.toList ds ∧ Q ds:=by
 obtain ⟨fuel,hf⟩:=hd
 exact h hf (fun _=>yH hv)
theorem xI {E:Env} {v:Value} {d:D} (h:RdL E β0 v.cells.toList [d]) (hn:∀ cs,v ≠ .agg cs):Rd E β0 v d:=by
 cases v with
 | agg cs=>exact absurd rfl (hn cs)
 | _=>simp [Value.cells] at h; cases h with | cons h _=>exact h
theorem xL {E:Env} {cs:Array Value} {ds:List D} (h:RdL E β0 (Value.cells (.agg cs)).toList ds):Rd E β0 (.agg cs) (.agg ds):=by
 have:=Rd.agg (E:=E) β0 cs.toList ds (by simpa [Value.cells] using h)
 simpa using this

section
variable {H:Type} {enc:TypeId × Value → H}
theorem rO (hl:laidOutB P=true) {W W':World} (hb:Below W.heap.size W W') {sp:Nat → Bool}:∀ {ts:List TypeId} {vs:List Value} {ds:List (DataW H)} {ps:List MemPlace},
 (∀ t ∈ ts,P.readableRec t=true ∧ t < P.types.size) → DataW.TrodAll enc P W 0 (fun _=>true) true ts vs ds ps → (∀ x ∈ ps,x.block < W.heap.size) → (∀ x ∈ ps,sp x.block=true) →
 DataW.TrodAll enc P W' 0 sp true ts vs ds ps
 | [],vs,ds,ps,_,h,_,_=>by
   obtain ⟨rfl,rfl,rfl⟩:=trodAll_nil h; exact rfl
 | t :: ts,vs,ds,ps,hr,h,hlt,hsp=>by
   obtain ⟨v,vs',d,ds',p,q,rfl,rfl,rfl,h1,h2⟩:=trodAll_cons h
   refine ⟨p,q,?_,rO hl hb (fun t ht=>hr t (by simp [ht])) h2 (fun x hx=>hlt x (by simp [hx])) (fun x hx=>hsp x (by simp [hx])),rfl⟩
   have hx:∀ x ∈ p,x ∈ p ++ q:=fun x hx=>by simp [hx]
   exact WideElems.Trod_stays hl (hr t (by simp)).1 (hr t (by simp)).2 h1 (fun x hxp=>hb.same (hlt x (hx x hxp))) (fun x hxp=>hsp x (hx x hxp))
theorem uM {f:Func} {s:ChangeSpec} {apart fresh handsOn again:Bool} {W W':World} {args:Array Value} {v:Value} {ds gs:List (DataW H)} {before pa pv:List MemPlace}
 (hW:DataW.Whole enc P f.params.toList s.vars apart W args.toList ds gs before)
 (hres:∀ (b:Nat) (sp:Nat → Bool) (hd:Bool),DataW.TrodAll enc P W' b sp hd f.resultTypes.toList (v.resultList f.resultTypes.size) (s.fn H (ds ++ gs)).results [])
 (hargs:∀ sp:Nat → Bool,(∀ p ∈ before,sp p.block=true) → DataW.TrodAll enc P W' 0 sp true f.params.toList args.toList (s.fn H (ds ++ gs)).args pa)
 (hvars:∀ sp:Nat → Bool,(∀ p ∈ before,sp p.block=true) → DataW.TrodVars enc P W' sp s.vars (s.fn H (ds ++ gs)).vars pv)
 (hps:before=pa ++ pv) (hb:Below W.heap.size W W')
 (hok:∀ (j:Nat) (t:TypeId) (r:Value),f.resultTypes[j]? = some t → (v.resultList f.resultTypes.size)[j]? = some r → Value.okWide P W' .any 0 t r) :
 s.post enc P f apart fresh handsOn again W args v W':=by
 have hlt:∀ p ∈ before,p.block < W.heap.size:=fun p hp=>hW.lt p hp
 have hold:∀ p ∈ before,(fun b=>decide (b < W.heap.size)) p.block=true:=fun p hp=>by simpa using hlt p hp
 refine ⟨ds,gs,before,[],pa,pv,hW,hres _ _ _,hargs _ hold,hvars _ hold,World.keptBut_mono (fun p hp=>⟨hp,?_⟩) (hb.frame (· ∈ before)),fun _=>?_⟩
 · rw [hps,List.mem_append] at hp
   exact Or.inr hp
 · obtain ⟨_,_,_,_,_,hz,hn⟩:=hW
   refine ⟨hok,_,_,([] ++ pa) ++ pv,⟨[] ++ pa,pv,trodAll_append (hargs _ (fun _ _=>rfl)) (hres _ _ _),hvars _ (fun _ _=>rfl),rfl,?_,?_⟩,?_⟩
   · intro b off hp
     have hin:MemPlace.cell b off ∈ before:=by rw [hps]; simpa using hp
     rw [hb.frozen (hlt _ hin)]
     exact hz b off hin
   · intro ha
     have:=hn ha
     rw [hps] at this
     simpa using this
   · intro p hp _
     rw [hps]
     simpa using hp
theorem yR {f:Func} {s:ChangeSpec} {apart fresh handsOn again:Bool} {W W':World} {args:Array Value} {ds gs:List (DataW H)} {before:List MemPlace} {tb:TypeId}
 (hl:laidOutB P=true) (hr:∀ t ∈ f.params.toList,P.readableRec t=true ∧ t < P.types.size) (hv:s.vars=[]) (hres:f.resultTypes = #[tb]) (hbool:P.underlying tb=some .bool)
 (hfn:s.fn H (ds ++ gs) = { results:=[.lit (.bool true)],args:=ds })
 (hW:DataW.Whole enc P f.params.toList s.vars apart W args.toList ds gs before) (hb:Below W.heap.size W W'):s.post enc P f apart fresh handsOn again W args (.bool true) W':=by
 have hW':=hW
 obtain ⟨p,q,hA,hV,hbef,hfz,hnd⟩:=hW
 rw [hv] at hV
 obtain ⟨rfl,rfl⟩:=trodVars_none hV
 have hlt:∀ x ∈ before,x.block < W.heap.size:=fun x hx=>hW'.lt x hx
 have hsub:∀ x ∈ p,x ∈ before:=fun x hx=>by rw [hbef]; simp [hx]
 refine uM (pa:=p) (pv:=[]) hW' ?_ ?_ ?_ ?_ hb ?_
 · intro b sp hd
   rw [hfn,hres]
   exact trodAll_mk1 (shut_bool hbool true)
 · intro sp hsp
   rw [hfn]
   exact rO hl hb hr hA (fun x hx=>hlt x (hsub x hx)) (fun x hx=>hsp x (hsub x hx))
 · intro sp hsp
   rw [hfn,hv]; exact rfl
 · exact hbef
 · exact ok_one hres rfl (okWide_bool_mk hbool true)
end
end
end Go.IL
namespace Go.IL
theorem wP {P:Program} {w W:World} {r:Reach} {b:Nat} {t:TypeId} {v:Value} {ds:List D} (hv:Value.okWide P W r b t v) (hg:kJ P t=true) (h:RdL (Env.none w) β0 v.cells.toList ds):Rd (Env.none w) β0 v (.agg ds):=by
 unfold kJ at hg
 unfold Value.okWide at hv
 split at hv
 · obtain ⟨cs,rfl,_⟩:=hv; exact xL h
 · obtain ⟨cs,rfl,_⟩:=hv; exact xL h
 · rename_i h1 h2
   split at hg
   · rename_i h3; exact absurd h3 (h1 _)
   · rename_i h3; exact absurd h3 (h2 _ _)
   · cases hg
theorem wO {P:Program} {w W:World} {r:Reach} {b:Nat} {t:TypeId} {v:Value} {d:D} (hv:Value.okWide P W r b t v) (hg:kJ P t=false) (h:RdL (Env.none w) β0 v.cells.toList [d]):Rd (Env.none w) β0 v d:=by
 refine xI h fun cs e=>?_
 subst e
 unfold kJ at hg
 unfold Value.okWide at hv
 split at hv
 · rename_i h1; rw [h1] at hg; cases hg
 · rename_i h1; rw [h1] at hg; cases hg
 · unfold Cell.okWide at hv
   split at hv <;> simp_all [Cell.ok]
end Go.IL
open Go.RowKit Go.WideShapes Go.ChangeShapes
namespace Go.IL
end Go.IL
