/-
  A part of the proof: rules and plain facts. No condition.
-/
import Derived.Test.YtbacpjjiklkgfaaGreatIlZ
import Derived.RangeFuncIn
import Derived.Laws.FloatArith
import Derived.Laws.Cover2
import Derived.Laws.Externs
import Derived.Lib.AppendZerosOnto
import Derived.Laws.CopyRow
import Derived.Lib.Overlaps
import Derived.Lib.Bytealg
import Derived.Lib.ItoaNum
import Derived.Lib.Join
import Derived.Laws.Pointers
import Derived.LaidEqlPtr
import Derived.Lib.Builder
import Derived.Lib.UnsafeStr
import Derived.Shelf.Sort.Plain
import Derived.Shelf.Slices.In.SortNone
import Derived.Shelf.SlSortCmp.WholeK
import Derived.Shelf.SlSortCmp.NoneTotal
import Derived.MapKept
set_option linter.all false
namespace Go.IL
open RowKit (Below)

def noK (k:Nat):Ent→Bool
 | .kept j _=>!(j == k)
 | .loop j ..=>!(j == k)
 | _=>true
def xG (k:Nat) (ids:List Nat) (H:List (Nat×Ent)):Bool:=H.all fun x=>ids.elem x.1||noK k x.2
theorem lJ {k:Nat} {ids:List Nat} {H:List (Nat×Ent)} (h:xG k ids H=true) {id:Nat} (hid:id ∉ ids):noK k (entL H id)=true:=by
 unfold entL
 rcases kP (z:=defE id) (t:=id) (l:=H) with h1 | h1
 · rw [h1]; unfold defE; split <;> rfl
 · have h2:=List.all_eq_true.1 h _ h1
   simp only [Bool.or_eq_true,List.elem_eq_mem,decide_eq_true_eq] at h2
   exact h2.resolve_left hid

def bK.same (O O':bK):Prop:=O'.w=O.w∧O'.X=O.X∧O'.foot=O.foot∧O'.given=O.given∧O'.mb=O.mb
def mH (O O':bK):Ent→Prop
 | .kept j _=>O'.kv j=O.kv j∧O'.dv j=O.dv j
 | .loop j ..=>O'.lv j=O.lv j∧O'.lc j=O.lc j
 | _=>True
theorem kX.swap {O O':bK} {E:Env} {β:bH} {id:Nat} {e:Ent} (h:kX O E β id e) (hs:O.same O') (hc:mH O O' e):kX O' E β id e:=by
 obtain ⟨s1,s2,s3,s4,_⟩:=hs
 have hown:∀ b,O.own b→O'.own b:=fun b hb=>by unfold bK.own at hb ⊢; rw [s1,s3]; exact hb
 cases e with
 | none=>trivial
 | fresh=>exact h
 | blk e ds =>
   rcases h with h | ⟨b,vs,sp,h1,h2,h3⟩
   · exact .inl h
   · exact .inr ⟨b,vs,sp,h1,hown b h2,h3⟩
 | tail e sz n =>
   rcases h with h | ⟨b,c,h1,h2,h3⟩
   · exact .inl h
   · exact .inr ⟨b,c,h1,hown b h2,h3⟩
 | loop lk ds st pend =>
   obtain ⟨b,r,h1,h2,h3,h4,h5,h6,h7,h8,h9,h10,h11⟩:=h
   obtain ⟨c1,c2⟩:O'.lv lk=O.lv lk∧O'.lc lk=O.lc lk:=hc
   exact ⟨b,r,h1,hown b h2,h3,h4,by rw [c2]; exact h5,by rw [c2]; exact h6,by rw [c2]; exact h7,h8,h9,c1.trans h10,h11⟩
 | mp ks ds =>
   obtain ⟨b,es,cl,h1,h2,h3⟩:=h
   exact ⟨b,es,cl,h1,hown b h2,h3⟩
 | kept k ds =>
   obtain ⟨c1,c2⟩:O'.kv k=O.kv k∧O'.dv k=O.dv k:=hc
   exact ⟨c1 ▸ h.1,fun b hb=>h.2 b (c2 ▸ hb)⟩
theorem HOk.swap {O O':bK} {E:Env} {β:bH} {H H':Nat→Ent} (h:HOk O E β H) (hs:O.same O') (hc:∀ id,(H' id=H id∧mH O O' (H id))∨H' id = .none):HOk O' E β H' where
 os:=by rw [hs.1]; exact h.os
 tab:=by rw [hs.1,hs.2.1]; exact h.tab
 tape:=by rw [hs.1]; exact h.tape
 output:=by rw [hs.1]; exact h.output
 size:=by rw [hs.1]; exact h.size
 mbs:=by rw [hs.1,hs.2.2.2.2]; exact h.mbs
 block k hk hf:=by rw [hs.1] at hk ⊢; rw [hs.2.2.1] at hf; exact h.block k hk hf
 xlt:=h.xlt
 xold b o hb hf:=by rw [hs.1] at hb; rw [hs.2.2.1] at hf; rw [hs.2.1]; exact h.xold b o hb hf
 ent id:=by
  rcases hc id with ⟨h1,h2⟩ | h1
  · rw [h1]; exact (h.ent id).swap hs h2
  · rw [h1]; trivial
 inj i j b hi hj:=by
  have key:∀ i,(H' i).held=true→(H i).held=true:=fun i hi=>by
   rcases hc i with ⟨h1,_⟩ | h1
   · rwa [h1] at hi
   · rw [h1] at hi; cases hi
  exact h.inj i j b (key i hi) (key j hj)
 le:=by rw [hs.1,hs.2.1]; exact h.le
 gid:=by rw [hs.2.2.2.1]; exact h.gid
 given:=by rw [hs.2.2.2.1]; exact h.given
theorem HOk.addK {O:bK} {E:Env} {β:bH} {H:List (Nat×Ent)} (h:HOk O E β (entL H)) {id k:Nat} {ds:List D} (hr:RdL E β (O.kv k) ds) (hd:∀ b∈O.dv k,E.w.heap[b]? = some (.deferred (some []))):HOk O E β (entL ((id,.kept k ds)::H)) :=
 { h with
   ent:=fun j=>by
    show kX O E β j (look _ _ _)
    rw [aT]
    by_cases hj:id=j
    · rw [if_pos hj]; exact ⟨hr,hd⟩
    · rw [if_neg hj]; exact h.ent j
   inj:=fun i j b hi hj=>by
    have key:∀ i,(entL ((id,.kept k ds)::H) i).held=true→(entL H i).held=true:=fun i hi=>by
     have hi':(look (defE i) i ((id,.kept k ds)::H)).held=true:=hi
     rw [aT] at hi'
     by_cases h:id=i
     · rw [if_pos h] at hi'; cases hi'
     · rw [if_neg h] at hi'; exact hi'
    exact h.inj i j b (key i hi) (key j hj) }

theorem qM {E:Env} {β:bH} {vs:List Value} {ds:List D} (hv:RdL E β vs ds) (n:Nat) (s:Nat):Rd E β ((vs.toArray++Array.replicate n undef).getD s undef) (look .dead s ((List.range ds.length).zip ds)):=by
 have key : ∀ (ds:List D) (vs:List Value) (k:Nat),RdL E β vs ds→Rd E β (if s<k then undef else vs.getD (s-k) undef) (look .dead s ((List.range' k ds.length).zip ds)):=by
  intro ds
  induction ds with
  | nil=>intro vs k _; simp [look]; exact .dead _ _
  | cons d ds ih =>
    intro vs k hv
    cases hv with
    | cons h1 h2 =>
      simp only [List.length_cons,List.range'_succ,List.zip_cons_cons,aT]
      by_cases hks:k=s
      · subst hks; simpa using h1
      · rw [if_neg hks]
        have:=ih _ (k+1) h2
        by_cases hlt:s<k
        · simpa [hlt,show s<k+1 by omega] using this
        · have h3:¬ s<k+1:=by omega
          rw [if_neg hlt]; rw [if_neg h3] at this
          rw [show s-k=(s-(k+1))+1 by omega]
          simpa using this
 have:=key ds vs 0 hv
 rw [List.range_eq_range']
 simp only [Nat.not_lt_zero,if_false,Nat.sub_zero] at this
 have hg:(vs.toArray++Array.replicate n undef).getD s undef=vs.getD s undef:=by
  by_cases hs:s<vs.length
  · simp [hs,Array.getElem?_append]
  · simp [Array.getElem?_append,hs,List.getElem?_eq_none (Nat.le_of_not_lt hs)]
    simp [Array.getElem?_replicate]
    split <;> rfl
 rw [hg]
 exact this
theorem nU {E:Env} {β:bH} {a:Array Value} {ds:List D} (hv:RdL E β a.toList ds) (s:Nat):Rd E β (a.getD s undef) (look .dead s ((List.range ds.length).zip ds)):=by
 have:=qM hv 0 s
 simpa using this
def allD (N:Nat) (S:St):List D:=(List.range N).map S.get
theorem sM {O:bK} {N:Nat} {S:St} {E:Env} {β:bH} {a:Act} (hr:Rel O N S E β a):RdL E β a.tmps.toList (allD N S):=by
 have key:∀ (l:List Value) (k:Nat),(∀ s,s<l.length→Rd E β (l.getD s undef) (S.get (k+s)))→RdL E β l ((List.range' k l.length).map S.get):=by
  intro l
  induction l with
  | nil=>intro k _; exact .nil _
  | cons v l ih =>
    intro k h
    rw [List.length_cons,List.range'_succ,List.map_cons]
    refine .cons (by simpa using h 0 (by simp)) (ih (k+1) fun s hs=>?_)
    have:=h (s+1) (by simpa using hs)
    rw [show k+1+s=k+(s+1) by omega]
    simpa using this
 unfold allD
 have hn:a.tmps.toList.length=N:=by simpa using hr.n
 have:=key a.tmps.toList 0 fun s hs=>by
  have h1:=hr.sl s
  rw [Nat.zero_add]
  simpa using h1
 rwa [hn,←List.range_eq_range'] at this
theorem HOk.turn {O:bK} {E:Env} {β:bH} {H:List (Nat×Ent)} (h:HOk O E β (entL H)) {id k:Nat} {ds:List D} {st:LoopState} {pend:Option Code} (he:entL H id = .loop k ds st pend) :
 ∃ r,E.w.heap[O.lv k]? = some (.loop r)∧β id=some (O.lv k)∧r.params=(O.lc k).1∧r.assign=(O.lc k).2.1∧r.body=(O.lc k).2.2∧r.state=st∧r.pending=pend∧∀ st' pend',(E).le ⟨E.w.putObj (O.lv k) (.loop { r with state:=st',pending:=pend' }),E.X⟩ ∧
   HOk O ⟨E.w.putObj (O.lv k) (.loop { r with state:=st',pending:=pend' }),E.X⟩ β (entL ((id,.loop k ds st' pend')::H)):=by
 have hh:=h.ent id
 rw [he] at hh
 obtain ⟨b,r,h1,h2,h3,h4,h5,h6,h7,h8,h9,h10,h11⟩:=hh
 subst h10
 refine ⟨r,h3,h1,h5,h6,h7,h8,h9,fun st' pend'=>?_⟩
 let E':Env:=⟨E.w.putObj (O.lv k) (.loop { r with state:=st',pending:=pend' }),E.X⟩
 have hs:Step O E E' (O.lv k):=⟨rfl,rfl,rfl,by simp [E',World.putObj],by simpa [E',World.putObj] using cK h3,h2,fun j _ hj=>World.putObj_heap_other hj,fun _ _ _=>Iff.rfl,fun _ hx=>by rw [h3] at hx; cases hx⟩
 have hle:E.le E':=hs.le (fun o v _ hx=>absurd (h4 o) hx) (fun c e f hx=>by rw [h3] at hx; cases hx)
 refine ⟨hle,HOk.put h hs hle (bH.le.refl _) (id:=id) (fun j hj=>?_) (fun j hj hh hb=>?_) h1 ?_ (fun _ _=>trivial)⟩
 · left; exact ⟨by show look _ _ _=_; rw [aT,if_neg (Ne.symm hj)]; rfl,rfl⟩
 · have hh':(look (defE j) j ((id,.loop k ds st' pend')::H)).held=true:=hh
   rw [aT,if_neg (Ne.symm hj)] at hh'
   exact hj (h.inj j id _ hh' (by rw [he]; rfl) hb h1)
 · show aAY O E' β _ (look _ _ _)
   rw [aT,if_pos rfl]
   exact ⟨_,World.putObj_heap_same (cK h3),h4,h5,h6,h7,rfl,rfl,rfl,RdL.mono hle (bH.le.refl _) h11⟩
end Go.IL
namespace Go.IL
open RowKit (Below)
section
variable {P:Program} {O:bK} {N:Nat} {S S':St} {Q:Exit→St→Prop}

@[reducible] def aCA (P:Program) (O:bK) (N k:Nat) (Q:Exit→St→Prop) (e:Exit) (S':St):Prop :=
 (e = .normal∨e = .ret)∧∃ iL iK dl ds' st pend,S'.ent iL = .loop k dl st pend∧st ≠ .busy∧S'.ent iK = .kept k ds'∧xG k [iL,iK] S'.H=true ∧
   ∃ S2 ρ,Weak ⟨(List.range N).zip ds',(iK,.none)::(iL,.none)::S'.H⟩ S2 ρ∧match pend with
   | none=>Q .normal S2
   | some c=>IWP P O N c S2 Q

theorem iwp_range {g:Operand} {ps:Array Tmp} {acx bd:Code} {f:FuncId} {fn:Func} {c:Code} {caps:List D} (k idL idK:Nat)
 (hg:SV S g (.fn f caps)) (hc:bF P f) (hf:P.funcs[f]? = some fn) (hb:fn.body=some c) (hres:fn.results = #[]) {N':Nat} (hn:fn.ntmps=N') (hN':caps.length+1≤N')
 (hfr:xG k [] S.H=true) (hL:S.ent idL = .fresh) (hO:O.Plain)
 (h:∀ O',O'.round=none→O'.lc k=(ps,acx,bd)→IWP P O' N' c ⟨(List.range (.yld idL::caps).length).zip (.yld idL::caps),(idK,.kept k (allD N S))::(idL,.loop k (allD N S) .ready none)::S.H⟩ (aCA P O N k Q)):IWP P O N (.rangeFunc g ps acx bd) S Q:=by
 subst hn
 obtain ⟨Ow,OX,Of,Og,Or,Okv,Olv,Odv,Olc,Omb⟩:=O
 obtain ⟨hro,hfoot,hdv⟩:=hO
 simp only at hro hfoot hdv
 subst hro
 intro E β a hr
 obtain ⟨bs,hbs,hnd,hall⟩:=hr.nd
 obtain ⟨vs,hev,hcaps⟩:=zX (hg.rd hr)
 refine wpIn_rangeFunc ?_
 intro fn0 _
 let r0:Loop:={ state:=.ready,pending:=none,fn:=fn0,tmps:=a.tmps,params:=ps,assign:=acx,body:=bd,defers:=E.w.heap.size }
 let W0:=E.w.alloc (.deferred (some []))
 have hsz0:W0.heap.size=E.w.heap.size+1:=by simp [W0]
 let W1:=W0.alloc (.loop r0)
 have hb0:Below E.w.heap.size E.w W0:=(Below.refl _ _).alloc (Nat.le_refl _) _
 refine ⟨E.w.heap.size+1,[{ target:=.collected E.w.heap.size,args:=#[] }],W1,{ target:=.fn (.func f) vs.toArray,args:=#[.func (.yield (E.w.heap.size+1)) #[] #[]] },W1,f,
  #[.func (.yield (E.w.heap.size+1)) #[] #[]]++vs.toArray,W1,run_enterLoop_outer _ _ _ _ _,?_,fun _ _=>trivial,?_,fun h=>by simp [fen,Fence.wide] at h,?_⟩
 · simp only [resolve,hev]
   simp [go_sem]
 · simp [invoke,eS hc]
 let O':bK:=⟨Ow,OX,Of,Og,none,fun j=>if j=k then a.tmps.toList else Okv j,fun j=>if j=k then E.w.heap.size+1 else Olv j,fun j=>if j=k then E.w.heap.size::bs else Odv j,fun j=>if j=k then (ps,acx,bd) else Olc j,Omb⟩
 have hsame:(⟨Ow,OX,Of,Og,none,Okv,Olv,Odv,Olc,Omb⟩:bK).same O':=⟨rfl,rfl,rfl,rfl,rfl⟩
 have hcomp : ∀ e,noK k e=true→mH ⟨Ow,OX,Of,Og,none,Okv,Olv,Odv,Olc,Omb⟩ O' e∧mH O' ⟨Ow,OX,Of,Og,none,Okv,Olv,Odv,Olc,Omb⟩ e:=fun e he=>by
  cases e with
  | kept j ds => have:j≠k:=by simpa [noK] using he
                 simp [mH,O',this]
  | loop j => have:j≠k:=by simpa [noK] using he
              simp [mH,O',this]
  | _=>exact ⟨trivial,trivial⟩
 have h0:HOk O' ⟨W0,E.X⟩ β (entL S.H):=(hr.h.below hb0).swap hsame fun id=>.inl ⟨rfl,(hcomp _ (lJ hfr (by simp))).1⟩
 let E1:Env:=⟨W1,fun b o=>b=E.w.heap.size+1∨E.X b o⟩
 let β1:bH:=fun j=>if j=idL then some (E.w.heap.size+1) else β j
 have hfrL:β idL=none:=by have:=hr.h.ent idL; rw [hL] at this; exact this
 have hβ:β.le β1:=fun j b hj=>by
  by_cases hji:j=idL
  · subst hji; rw [hfrL] at hj; cases hj
  · simp [β1,hji,hj]
 have hs:Step O' ⟨W0,E.X⟩ E1 (E.w.heap.size+1) :=
  ⟨rfl,rfl,rfl,by simp [E1,W1],by simp [E1,W1,hsz0],.inl (by have:=h0.size; simp only [hsz0] at this; exact this),fun j hj _=>heap_alloc_old _ _ hj,fun j o hj=>by simp [E1,hj],fun _ hx=>by have h9:E.w.heap.size+1<W0.heap.size:=cK hx; omega⟩
 have hle:(⟨W0,E.X⟩:Env).le E1:=hs.le (fun o v hx _=>by have:=World.block_lt_of_cell? _ _ hx; simp [hsz0] at this) (fun c e f hx=>by have:=cK hx; simp [hsz0] at this)
 have hle0:E.le E1:=(kQ hb0).trans hle
 have hnew:W1.heap[E.w.heap.size+1]? = some (.loop r0):=by have:=World.alloc_heap_new W0 (.loop r0); rwa [hsz0] at this
 have hdef:W1.heap[E.w.heap.size]? = some (.deferred (some [])):=(heap_alloc_old _ _ (by omega)).trans (World.alloc_heap_new E.w _)
 have hrd:RdL E1 β1 a.tmps.toList (allD N S):=RdL.mono hle0 hβ (sM hr)
 have h1:HOk O' E1 β1 (entL ((idL,.loop k (allD N S) .ready none)::S.H)):=by
  refine HOk.put h0 hs hle hβ (id:=idL) (fun j hj=>?_) (fun j hj hh hb=>?_) (by simp [β1]) ?_ (fun _ _=>trivial)
  · left; exact ⟨by show look _ _ _=_; rw [aT,if_neg (Ne.symm hj)]; rfl,by simp [β1,hj]⟩
  · have hh':(look (defE j) j ((idL,.loop k (allD N S) .ready none)::S.H)).held=true:=hh
    rw [aT,if_neg (Ne.symm hj)] at hh'
    have:=h0.lt (j:=j) hh' hb
    simp [hsz0] at this
  · show aAY O' E1 β1 _ (look _ _ _)
    rw [aT,if_pos rfl]
    exact ⟨r0,hnew,fun o=>.inl rfl,by simp [O',r0],by simp [O',r0],by simp [O',r0],rfl,rfl,by simp [O'],hrd⟩
 have h2:HOk O' E1 β1 (entL ((idK,.kept k (allD N S))::(idL,.loop k (allD N S) .ready none)::S.H)):=by
  refine h1.addK (by simpa [O'] using hrd) fun b hb=>?_
  have hb':b∈E.w.heap.size::bs:=by simpa [O'] using hb
  rcases List.mem_cons.1 hb' with rfl | hb'
  · exact hdef
  · have hx:=(hall b hb').2
    have hlt:=cK hx
    exact ((heap_alloc_old W0 _ (by omega)).trans (heap_alloc_old E.w _ hlt)).trans hx
 have hargs:RdL E1 β1 (Value.func (.yield (E.w.heap.size+1)) #[] #[]::vs) (.yld idL::caps):=.cons (.yld _ _ _ (by simp [β1])) (RdL.mono hle0 hβ hcaps)
 have hlen:=hargs.length
 have hrel:Rel O' fn.ntmps ⟨(List.range (D.yld idL::caps).length).zip (.yld idL::caps),(idK,.kept k (allD N S))::(idL,.loop k (allD N S) .ready none)::S.H⟩ E1 β1
  { tmps:=(#[Value.func (.yield (E.w.heap.size+1)) #[] #[]]++vs.toArray)++Array.replicate (fn.ntmps-(#[Value.func (.yield (E.w.heap.size+1)) #[] #[]]++vs.toArray).size) undef,defers:=[] }:=by
  refine ⟨by simp at hlen ⊢; omega,nS.nil,h2,fun s=>?_⟩
  have:=qM hargs (fn.ntmps-(#[Value.func (.yield (E.w.heap.size+1)) #[] #[]]++vs.toArray).size) s
  show Rd E1 β1 _ (look _ _ _)
  simpa using this
 refine callsIn_wide (n:=0) |>.2 (kU (E:=E1) (O:=O') hf hb rfl hfoot hrel (h O' rfl (by simp [O'])) ?_)
 rintro e S2 E2 β2 a2 hr2 ⟨he,iL,iK,dl,ds',st,pend,hentL,hst,hentK,hfree,S3,ρ3,hw3,hQ⟩
 refine ⟨he,.tuple #[],by simp [results,hres],?_⟩
 obtain ⟨r,g1,g2,g3,g4,g5,g6,g7,g8⟩:=hr2.h.turn (H:=S2.H) hentL
 obtain ⟨g9,g10⟩:=g8 .exhausted pend
 have hlk:O'.lv k=E.w.heap.size+1:=by simp [O']
 rw [hlk] at g1 g9 g10
 have hkept:=hr2.h.ent iK
 rw [hentK] at hkept
 obtain ⟨k1,k2⟩:=hkept
 have hkv:O'.kv k=a.tmps.toList:=by simp [O']
 have hdk:O'.dv k=E.w.heap.size::bs:=by simp [O']
 rw [hkv] at k1; rw [hdk] at k2
 have hds':ds'.length=N:=by rw [←k1.length]; simpa using hr.n
 let E3:Env:=⟨E2.w.putObj (E.w.heap.size+1) (.loop { r with state:=.exhausted,pending:=pend }),E2.X⟩
 have hrel3:Rel ⟨Ow,OX,Of,Og,none,Okv,Olv,Odv,Olc,Omb⟩ N ⟨(List.range N).zip ds',(iK,.none)::(iL,.none)::S2.H⟩ E3 β2 { a with defers:={ target:=.collected E.w.heap.size,args:=#[] }::a.defers }:=by
  refine ⟨hr.n,⟨E.w.heap.size::bs,by rw [List.map_cons,←hbs],?_,?_⟩,?_,fun s=>?_⟩
  · rw [List.nodup_cons]
    exact ⟨fun hm=>Nat.lt_irrefl _ (cK (hall _ hm).2),hnd⟩
  · intro b hb
    refine ⟨⟨?_,fun j=>by simp [hdv]⟩,(World.putObj_heap_other ?_).trans (k2 b hb)⟩
    · rcases List.mem_cons.1 hb with rfl | hb
      · exact Nat.le_trans hr.h.mbs hr.h.size
      · exact (hall b hb).1.1
    · rintro rfl; have:=k2 _ hb; rw [g1] at this; cases this
  · refine HOk.swap (O:=O') (H:=entL ((iL,.loop k dl .exhausted pend)::S2.H)) g10 ⟨rfl,rfl,rfl,rfl,rfl⟩ fun id=>?_
    show (look _ _ _=look _ _ _∧_)∨_
    simp only [aT]
    by_cases h5:iK=id
    · right; show look _ _ _=_; rw [aT,if_pos h5]
    · by_cases h6:iL=id
      · right; show look _ _ _=_; rw [aT,if_neg h5,aT,if_pos h6]
      · left
        rw [if_neg h5,if_neg h6]
        refine ⟨by first | rfl | rw [if_neg h6],(hcomp _ ?_).2⟩
        show noK k (look _ _ _)=true
        rw [aT,if_neg h6]
        exact lJ hfree (by simp; exact ⟨Ne.symm h6,Ne.symm h5⟩)
  · have:=nU (RdL.mono g9 (bH.le.refl _) k1) s
    rw [hds'] at this
    exact this
 refine ⟨pend,E3.w,?_,?_⟩
 · have:=run_endLoop (P:=P) (l:=E.w.heap.size+1) g1 (by rw [g6]; exact hst)
   rw [g7] at this
   exact this
 · cases pend with
   | none=>obtain ⟨β4,hr4⟩:=hrel3.weak hw3; exact ⟨_,E3,β4,rfl,hr4,hQ⟩
   | some c=>obtain ⟨β4,hr4⟩:=hrel3.weak hw3; exact hQ E3 β4 _ hr4

def jumpOf:Exit→Option (Option Code)
 | .normal=>some none
 | .ret=>some (some .ret)
 | .exit i=>some (some (.exit i))
 | _=>none
@[reducible] def yieldQ (P:Program) (O:bK) (N t k k2:Nat) (ops:Array Oper) (l:List Oper) (Q:Exit→St→Prop) (e:Exit) (S':St):Prop :=
 ∃ iL iK dl dk j,jumpOf e=some j∧S'.ent iL = .loop k dl .busy none∧S'.ent iK = .kept k2 dk∧xG k2 [iK] S'.H=true∧iL≠iK ∧
   ∃ S2 ρ,Weak ⟨(t,.bool j.isNone)::(List.range N).zip dk,(iL,.loop k dl (if j.isNone then .ready else .done) j)::(iK,.none)::S'.H⟩ S2 ρ∧ILS P O N ops l S2 Q
def aBd (S:St) (l:List (Nat×D)):St:=l.foldl (fun S x=>S.set x.1 x.2) S
theorem yR {E:Env} {β:bH}:∀ (ps:List Nat) (vs:List Value) (ds:List D) (S:St) (a:Array Value),(∀ p∈ps,p<N)→RdL E β vs ds→Rel O N S E β { tmps:=a,defers:=[] } →
 Rel O N (aBd S (ps.zip ds)) E β { tmps:=(ps.zip vs).foldl (fun t x=>t.setIfInBounds x.1 x.2) a,defers:=[] }
 | [],_,_,S,a,_,_,h=>by simpa [aBd] using h
 | _::_,_,_,S,a,_,.nil _,h=>by simpa [aBd] using h
 | p::ps,_,_,S,a,hp,.cons hv hvs,h=>yR ps _ _ _ _ (fun q hq=>hp q (by simp [hq])) hvs (h.set (hp p (by simp)) hv)
theorem mG {ops:Array Oper} {o:Oper} {l:List Oper} {x:Operand} {xs:List Operand} {ts:Array TypeId} {t k:Nat} {ps:Array Tmp} {acx bd:Code} {ds da:List D} {N0:Nat} (k2 idL idK:Nat) (hg:vN o=true)
 (ho:o.op = .call { callee:=.value x,args:=xs.toArray,argTypes:=ts }) (hd:o.dst=some t) (ht:t<N) (hx:S.op x = .yld idL) (hxs:SVs S xs da) (he:S.ent idL = .loop k ds .ready none)
 (hn:ds.length=N0) (hps:ps.toList.length=da.length) (hpl:(ps.toList.all fun p=>Nat.blt p N0)=true) (hfr:xG k2 [] S.H=true) (hK:S.ent idK = .fresh) (hro:O.round=none) (hlc:O.lc k=(ps,acx,bd))
 (S0:St) (ρ0:Nat→Nat) (hw0:Weak (aBd ⟨(List.range ds.length).zip ds,(idK,.kept k2 (allD N S))::S.H⟩ (ps.toList.zip da)) S0 ρ0)
 (h:∀ O',IWP P O' N0 acx S0 (fun e S1=>e = .normal∧∃ iL dl,S1.ent iL = .loop k dl .ready none ∧
   ∃ S2 ρ,Weak ⟨S1.sl,(iL,.loop k dl .busy none)::S1.H⟩ S2 ρ∧IWP P O' N0 bd S2 (yieldQ P O N t k k2 ops l Q))):ILS P O N ops (o::l) S Q:=by
 subst hn
 replace hpl:∀ p∈ps.toList,p<ds.length:=fun p hp=>by simpa using List.all_eq_true.1 hpl p hp
 obtain ⟨Ow,OX,Of,Og,Or,Okv,Olv,Odv,Olc,Omb⟩:=O
 simp only at hro
 subst hro
 intro E β a hr
 obtain ⟨bs,hbs,hnd,hall⟩:=hr.nd
 have hkk:k2≠k:=by
  have:=lJ hfr (id:=idL) (by simp)
  have he':entL S.H idL=_:=he
  rw [he'] at this
  intro e; subst e; simp [noK] at this
 have hidne:idK≠idL:=by rintro rfl; rw [hK] at he; cases he
 refine wpListIn_plain (mD hg).1 fun K hK'=>⟨fun _ _=>trivial,?_⟩
 rw [Oper.semAt_eq _ _ _ (uS (mD hg).2)]
 have hent:=hr.h.ent idL
 rw [he] at hent
 obtain ⟨b,r,e1,e2,e3,e4,e5,e6,e7,e8,e9,e10,e11⟩:=hent
 have hev:a.eval x = .func (.yield b) #[] #[]:=by
  have:=hr.op x
  rw [hx] at this
  generalize a.eval x=v at this
  cases this with
  | yld _ _ l hl=>rw [e1] at hl; cases hl; rfl
 have hargs:=hxs.rd hr
 have hal:=hargs.length
 have hrun:(execOp a.eval o).run P E.w = .ok (.round b r.fn ((r.params.zip (xs.map a.eval).toArray).foldl (fun tmps (t,a)=>tmps.setIfInBounds t a) r.tmps) r.assign r.body) E.w:=by
  have hy:=run_yield (P:=P) (args:=(xs.map a.eval).toArray) e3 (by rw [e5,hlc]; simp at hal ⊢; simp at hps; omega)
  simp [execOp,ho,resolve,Deferred.ofValue,hev,invoke]
  simpa using hy
 rw [hrun,Oper.uponIn_round]
 refine ⟨fun h=>by simp [fen,Fence.wide] at h,roundIn_of_wpIn trivial ?_⟩
 have hlc':Olc k=(ps,acx,bd):=hlc
 rw [e6,e7]
 simp only [hlc']
 have hlen:r.tmps.size=ds.length:=by have:=e11.length; simpa using this
 let O':bK:=⟨Ow,OX,Of,Og,some b,fun j=>if j=k2 then a.tmps.toList else Okv j,Olv,fun j=>if j=k2 then bs else Odv j,Olc,Omb⟩
 have hcomp:∀ e,noK k2 e=true→mH ⟨Ow,OX,Of,Og,none,Okv,Olv,Odv,Olc,Omb⟩ O' e∧mH O' ⟨Ow,OX,Of,Og,none,Okv,Olv,Odv,Olc,Omb⟩ e:=fun e he=>by
  cases e with
  | kept j ds => have:j≠k2:=by simpa [noK] using he
                 simp [mH,O',this]
  | _=>exact ⟨by first | trivial | rfl,by first | trivial | rfl⟩
 have h0:HOk O' E β (entL S.H):=hr.h.swap ⟨rfl,rfl,rfl,rfl,rfl⟩ fun id=>.inl ⟨rfl,(hcomp _ (lJ hfr (by simp))).1⟩
 have h1:HOk O' E β (entL ((idK,.kept k2 (allD N S))::S.H)):=h0.addK (by simpa [O'] using sM hr) fun c hc=>(hall c (by simpa [O'] using hc)).2
 have hrel0:Rel O' ds.length ⟨(List.range ds.length).zip ds,(idK,.kept k2 (allD N S))::S.H⟩ E β { tmps:=r.tmps,defers:=[] } :=
  ⟨hlen,nS.nil,h1,fun s=>nU e11 s⟩
 have hrel1:=yR ps.toList (xs.map a.eval) da _ r.tmps hpl hargs hrel0
 have htm:(r.params.zip (xs.map a.eval).toArray).foldl (fun tmps (t,a)=>tmps.setIfInBounds t a) r.tmps=(ps.toList.zip (xs.map a.eval)).foldl (fun t x=>t.setIfInBounds x.1 x.2) r.tmps:=by
  rw [e5,hlc,←Array.foldl_toList]; simp
 rw [htm]
 obtain ⟨β6,hr6⟩:=hrel1.weak hw0
 refine wpIn_mono (h O' E β6 _ hr6) ?_
 rintro e a1 w1 ⟨S1,E1,β1,rfl,hr1,rfl,iL,dl,hentL,S7,ρ7,hw7,hbody⟩
 obtain ⟨r1,g1,g2,g3,g4,g5,g6,g7,g8⟩:=hr1.h.turn (H:=S1.H) hentL
 obtain ⟨g9,g10⟩:=g8 .busy none
 have hlk:O'.lv k=b:=e10
 rw [hlk] at g1 g9 g10
 let E2:Env:=⟨E1.w.putObj b (.loop { r1 with state:=.busy,pending:=none }),E1.X⟩
 have hw2:(Instr.beginRound b).run P E1.w = .ok () E2.w:=by
  have:=run_beginRound (P:=P) g1 g6
  rw [this]
  show _=Result.ok () (E1.w.putObj b (.loop { r1 with state:=.busy,pending:=none }))
  congr 3
  rw [←g7]
 refine ⟨E2.w,hw2,?_⟩
 have hrel2:Rel O' ds.length ⟨S1.sl,(iL,.loop k dl .busy none)::S1.H⟩ E2 β1 a1 :=
  ⟨hr1.n,hr1.nd.mono (fun c hc=>(World.putObj_heap_other (by rintro rfl; rw [g1] at hc; cases hc)).trans hc),g10,fun s=>Rd.mono g9 (bH.le.refl _) (hr1.sl s)⟩
 obtain ⟨β7,hr7⟩:=hrel2.weak hw7
 refine wpIn_mono (hbody E2 β7 a1 hr7) ?_
 rintro e a3 w3 ⟨S3,E3,β3,rfl,hr3,iL3,iK3,dl3,dk3,j,hj,hL3,hK3,hf3,hne3,S5,ρ5,hw5,hils⟩
 obtain ⟨r3,m1,m2,m3,m4,m5,m6,m7,m8⟩:=hr3.h.turn (H:=S3.H) hL3
 obtain ⟨m9,m10⟩:=m8 (if j.isNone then .ready else .done) j
 rw [hlk] at m1 m9 m10
 have hkept:=hr3.h.ent iK3
 rw [hK3] at hkept
 obtain ⟨k1,k2'⟩:=hkept
 have hkv:O'.kv k2=a.tmps.toList:=by simp [O']
 have hdk:O'.dv k2=bs:=by simp [O']
 rw [hkv] at k1; rw [hdk] at k2'
 have hdk3:dk3.length=N:=by rw [←k1.length]; simpa using hr.n
 let E4:Env:=⟨E3.w.putObj b (.loop { r3 with state:=if j.isNone then .ready else .done,pending:=j }),E3.X⟩
 have hend:(Instr.endRound b j).run P E3.w = .ok (.bool j.isNone) E4.w:=run_endRound (P:=P) j m1
 have hrel4:Rel ⟨Ow,OX,Of,Og,none,Okv,Olv,Odv,Olc,Omb⟩ N ⟨(t,.bool j.isNone)::(List.range N).zip dk3,(iL3,.loop k dl3 (if j.isNone then .ready else .done) j)::(iK3,.none)::S3.H⟩ E4 β3 (a.put (some t) (.bool j.isNone)):=by
  refine Rel.set (S:=⟨(List.range N).zip dk3,(iL3,.loop k dl3 (if j.isNone then .ready else .done) j)::(iK3,.none)::S3.H⟩) ⟨hr.n,⟨bs,hbs,hnd,fun c hc=>⟨(hall c hc).1,(World.putObj_heap_other (by rintro rfl; have:=k2' _ hc; rw [m1] at this; cases this)).trans (k2' c hc)⟩⟩,?_,fun s=>?_⟩ ht (.bool _ _)
  · refine HOk.swap (O:=O') (H:=entL ((iL3,.loop k dl3 (if j.isNone then .ready else .done) j)::S3.H)) m10 ⟨rfl,rfl,rfl,rfl,rfl⟩ fun id=>?_
    by_cases h6:iL3=id
    · left
      subst h6
      refine ⟨by show look _ _ _=look _ _ _; rw [aT,if_pos rfl,aT,if_pos rfl],(hcomp _ ?_).2⟩
      show noK k2 (look _ _ _)=true
      rw [aT,if_pos rfl]
      simp [noK,Ne.symm hkk]
    · by_cases h5:iK3=id
      · right; show look _ _ _=_; rw [aT,if_neg h6,aT,if_pos h5]
      · left
        refine ⟨by show look _ _ _=look _ _ _; rw [aT,if_neg h6,aT,if_neg h5,aT,if_neg h6],(hcomp _ ?_).2⟩
        show noK k2 (look _ _ _)=true
        rw [aT,if_neg h6]
        exact lJ hf3 (by simp; exact Ne.symm h5)
  · have:=nU (RdL.mono m9 (bH.le.refl _) k1) s
    rw [hdk3] at this
    exact this
 have hfin:K (a.put o.dst (.bool j.isNone)) E4.w:=by
  rw [hd]
  obtain ⟨β5,hr5⟩:=hrel4.weak hw5
  exact hK' _ _ (hils E4 β5 _ hr5)
 cases e with
 | normal=>cases hj; exact ⟨_,_,hend,hfin⟩
 | ret=>cases hj; exact ⟨_,_,hend,hfin⟩
 | exit i=>cases hj; exact ⟨_,_,hend,hfin⟩
 | goto i=>cases hj
 | panic c=>cases hj
 | outgrown=>cases hj

theorem aBe {E:Env} {β:bH} {S:St} {a:Act} {rs:List D} {fn:Func} (hr:Rel O N S E β a) (hres:rU P S fn.results.toList rs):∃ v,(results fn a.tmps).run P E.w = .ok v E.w∧Rd E β v (retD rs):=by
 obtain ⟨vs',h1,h2⟩:=mX (P:=P) hr hres
 have hrun:(results fn a.tmps).run P E.w = .ok (if h:vs'.toArray.size=1 then vs'.toArray[0] else .tuple vs'.toArray) E.w:=by
  have hF:results fn a.tmps=(fn.results.mapM (resF a.tmps)) >>= fun vs=>pure (if h:vs.size=1 then vs[0] else .tuple vs):=by
   unfold results
   congr 2
  rw [hF,←Array.toArray_toList (xs:=fn.results),List.mapM_toArray]
  simp only [Sem.run_bind,Sem.run_map,h1,Result.andThen_ok,Sem.run_pure]
 refine ⟨_,hrun,?_⟩
 cases h2 with
 | nil=>simpa [retD] using Rd.tuple (E:=E) β [] [] (.nil _)
 | cons h5 h6 =>
   cases h6 with
   | nil=>simpa [retD] using h5
   | cons h7 h8 =>
     simp only [retD,List.size_toArray,List.length_cons]
     rw [dif_neg (by omega)]
     exact .tuple _ _ _ (.cons h5 (.cons h7 h8))
@[reducible] def inlQ (P:Program) (O:bK) (N t k2:Nat) (fn:Func) (ops:Array Oper) (l:List Oper) (Q:Exit→St→Prop) (e:Exit) (S':St):Prop :=
 (e = .normal∨e = .ret)∧∃ iK dk rs,rU P S' fn.results.toList rs∧S'.ent iK = .kept k2 dk∧xG k2 [iK] S'.H=true ∧
   ∃ S2 ρ,Weak ⟨(t,retD rs)::(List.range N).zip dk,(iK,.none)::S'.H⟩ S2 ρ∧ILS P O N ops l S2 Q
end
end Go.IL
namespace Go.IL

section
variable {P:Program} {O:bK} {N:Nat} {S S':St} {o:Oper} {t:Nat}
end
def wG (P : Program) (f : FuncId) (g : Array Value → Sem Value) : Prop := ∃ fn, P.funcs[f]? = some fn ∧ (fn.name == "runtime.NumGoroutine") = false ∧ fn.body.isNone = true ∧ Extern.findNext fn = none ∧ Extern.find fn = some g
section
variable {P:Program} {O:bK} {N:Nat} {S S':St} {o:Oper} {t:Nat}
end
section
variable {P:Program} {O:bK} {N:Nat} {S S':St} {o:Oper} {t:Nat}
end
section
variable {P:Program} {O:bK} {N:Nat} {S S':St} {o:Oper} {t:Nat}
theorem sJ {T e:TypeId} {len esz eb:Nat} {ez:Value} {ps:List (Nat×Operand)} {dps:List (Nat×D)} {ds:List D} (ho:o.op = .buildSlice T len ps.toArray) (hd:o.dst=some t) (ht:t<N)
 (hu:P.underlying T=some (.slice e)) (he:TI P e (some ez) esz eb) (hsp:0<esz) (hx:PVs S ps dps)
 (hfill:sL (fun i=>some (i*esz,esz)) (List.replicate (len*esz) .dead) dps=some (D.flat ds)) (hl:ds.length=len) (hz:∀ d∈ds,d.cells.length=esz) (hp:D.refsInL noRef (D.flat ds)=true) (hb:len*esz≤2 ^ 24) :
 IOp P O N o S (S.set t (.slice false ds)):=by
 subst hl
 refine aBA hd ht fun E β a hr=>?_
 obtain ⟨i,h1,h2,h3,_⟩:=he.at
 let init:Array Value:=(Array.range (ds.length*esz)).map fun k=>(if ds.length*esz=0 then #[] else ez.cells)[k % (if ds.length*esz=0 then #[] else ez.cells).size]!
 have hinit:RdL E β init.toList (List.replicate (ds.length*esz) .dead):=by
  have:=oG E β init.toList
  rwa [show init.toList.length=ds.length*esz by simp [init]] at this
 obtain ⟨cells,h4,h5⟩:=rR hr hx hinit hfill
 have hcl:cells.size=ds.length*esz:=by have:=h5.length; rw [kT hz] at this; simpa using this
 have hbel:RowKit.Below E.w.heap.size E.w (E.w.alloc (.cells cells e)):=(RowKit.Below.refl _ _).alloc (Nat.le_refl _) _
 refine ⟨.slice (some ⟨E.w.heap.size,0,none⟩) ds.length ds.length,E.w.alloc (.cells cells e),?_,hbel,?_⟩
 · have hb':¬ (2 ^ 24<ds.length*esz):=by omega
   simp only [execOp,ho,Instr.buildSlice,Sem.run_bind,run_underlying hu,Result.andThen_ok,he.run_size]
   rw [if_neg (by simpa using hb')]
   by_cases h0:ds.length*esz=0
   · have h4':=h4
     simp only [init,h0,if_true] at h4' ⊢
     simp at h4'
     simp [h4',newRow]
   · have h4':=h4
     simp only [init,h0,if_false] at h4' ⊢
     simp [zeroValue,typeInfo,h1,h2,h4',newRow]
 · refine .slice _ _ 0 _ _ esz false cells.toList _ rfl (Nat.le_refl _) (by simp) hz hsp (fun k v hk=>⟨?_,fun h=>by have:=hr.h.xlt _ _ h; omega⟩) (RdL.mono (kQ hbel) (bH.le.refl _) (h5.bare hp))
   rw [Nat.zero_add]
   refine (cell_of_row _ E.w.heap.size k _ _ _ (heap_alloc_new E.w _)).trans ?_
   simpa using hk
theorem iop_bsF {α:Type} (f:Enc α) (xs:List α) {T e:TypeId} {len eb:Nat} {ez:Value} {ps:List (Nat×Operand)} {dps:List (Nat×D)} (ho:o.op = .buildSlice T len ps.toArray) (hd:o.dst=some t) (ht:t<N)
 (hu:P.underlying T=some (.slice e)) (he:TI P e (some ez) f.sz eb) (hx:PVs S ps dps)
 (hfill:sL (fun i=>some (i*f.sz,f.sz)) (List.replicate (len*f.sz) .dead) dps=some (D.flat (xs.map f.d))) (hl:xs.length=len) (hb:len*f.sz≤2 ^ 24) :
 IOp P O N o S (S.set t (.slice false (xs.map f.d))) :=
 sJ ho hd ht hu he f.pos hx hfill (by rw [List.length_map]; exact hl) (f.len xs) (f.noRef xs) hb
end
end Go.IL
namespace Go.IL
theorem bnd_d {α β:Type} (e:α) (f:α→Option β):bnd e f=f e:=rfl
theorem bno_s {α β:Type} (x:α) (f:α→Option β):bno (some x) f=f x:=rfl
theorem gd_tt {α:Type} (o:Option α) (d:α):gd true o d=o:=rfl
theorem aCH {α:Type} {b:Nat} {l m:List α} (h:l.length+m.length≤9223372036854775807) (h1:(l.length+m.length)*b≤140737488355328):app b l m=some (l++m):=if_pos ⟨h,h1⟩
theorem w64 {n:Int} (h0 : -9223372036854775808≤n) (h1:n≤9223372036854775807):IntKind.wrap .i64 n=n:=wrap_i64 h0 h1
theorem bndD {α β:Type} (e:α) (f:α→Option β):bnd e f=f e:=(Eq.refl _).trans (bnd_d e f)
theorem bnoS {α β:Type} (x:α) (f:α→Option β):bno (some x) f=f x:=(Eq.refl _).trans (bno_s x f)
theorem aCG {α:Type} (a b:α):(bif false then a else b)=b:=(Eq.refl _).trans (Eq.refl _)
end Go.IL
open Go.RowKit
namespace Go.IL
def At (cs:List D) (size sz:Nat):Nat→List (List D)→Prop
 | _,[]=>True
 | off,c::L=>(cs.drop off).take size=c∧At cs size sz (off+sz) L
theorem At.get {cs:List D} {size sz:Nat}:∀ {L:List (List D)} {off i:Nat} {c:List D},At cs size sz off L→L[i]? = some c→(cs.drop (off+i*sz)).take size=c
 | [],_,_,_,_,h=>by simp at h
 | x::L,off,0,c,h,hi=>by
   simp only [List.getElem?_cons_zero,Option.some.injEq] at hi
   subst hi; rw [Nat.zero_mul,Nat.add_zero]; exact h.1
 | x::L,off,i+1,c,h,hi=>by
   simp only [List.getElem?_cons_succ] at hi
   have:=At.get h.2 hi
   rw [←this]; congr 2; rw [Nat.add_mul,Nat.one_mul]; omega
def aB5:Nat→(Nat→Prop)→Prop
 | 0,_=>True
 | n+1,p=>aB5 n p∧p n
theorem aB5.get:∀ {n:Nat} {p:Nat→Prop},aB5 n p→∀ j,j<n→p j
 | 0,_,_,_,h=>by omega
 | n+1,p,h,j,hj=>by
   by_cases e:j=n
   · subst e; exact h.2
   · exact aB5.get h.1 j (by omega)
section
variable {P:Program} {O:bK} {N:Nat} {S S':St} {o:Oper} {t:Nat}
end
end Go.IL
open Go.RowKit (Below)
namespace Go.IL
section
variable {P:Program} {O:bK} {N:Nat} {S S':St} {o:Oper} {t:Nat} {Q:Exit→St→Prop}
theorem qN {E:Env} {β:bH} {v:Value} {id sz off len cap:Nat} (h:Rd E β v (.rsl id sz off len cap)) :
 ∃ b p c e f,v = .slice (some ⟨b,p,none⟩) len cap∧β id=some b∧len≤cap∧0<sz∧(0<cap→p=off)∧p≤off∧E.w.heap[b]? = some (Obj.cells c e f)∧off+cap*sz≤c.size∧cap≤maxLen:=by
 cases h with
 | rsl _ _ _ _ _ _ b p h1 h2 h3 h4 c e f h5 h6 h7=>exact ⟨b,p,c,e,f,rfl,h1,h2,h3,h4.1,h4.2,h5,h6,h7⟩
theorem rC {S:St} {id t:Nat} {e:Ent} {d:D}:((S.setE id e).set t d).ent id=e:=by simp [St.ent,entL,St.setE,St.set,aT]
theorem pV {S:St} {id t j:Nat} {e:Ent} {d:D} (h:j≠id):((S.setE id e).set t d).ent j=S.ent j:=by simp [St.ent,entL,St.setE,St.set,aT,Ne.symm h]
theorem Rel.turn {E:Env} {β:bH} {a:Act} (h:Rel O N S E β a) {id b:Nat} {e:TypeId} {ds ds':List D} {d:D} (he:S.ent id = .blk e ds) (hb:β id=some b)
 (hk:∀ vs sp,E.w.heap[b]? = some (.cells (List.toArray (vs++sp)) e (0,0))→RdL E β vs ds→∃ vs' sp',vs'++sp'=vs++sp∧RdL E β vs' ds') (hd:Rd E β (a.tmps.getD t undef) d) :
 Rel O N ((S.setE id (.blk e ds')).set t d) E β a:=by
 have hent:=h.h.ent id
 rw [he] at hent
 obtain ⟨vs,sp,h1,h2,h3,h4⟩:=mR hent hb
 obtain ⟨vs',sp',h5,h6⟩:=hk vs sp h2 h4
 have held:∀ j,(((S.setE id (.blk e ds')).set t d).ent j).held=(S.ent j).held:=fun j=>by
  by_cases hj:j=id
  · subst hj; rw [rC,he]; rfl
  · rw [pV hj]
 refine ⟨h.n,h.nd,?_,fun s=>?_⟩
 · refine { h.h with ent:=fun j=>?_,inj:=fun i j k hi hj=>h.h.inj i j k (held i ▸ hi) (held j ▸ hj) }
   by_cases hj:j=id
   · subst hj; rw [rC]; exact .inr ⟨b,vs',sp',hb,h1,by rw [h5]; exact h2,h3,h6⟩
   · rw [pV hj]; exact h.h.ent j
 · by_cases hst:t=s
   · subst hst; simpa [St.get,St.set,aT] using hd
   · have:=h.sl s
     simpa [St.get,St.set,St.setE,aT,hst] using this
theorem Rel.opened {E:Env} {β:bH} {a:Act} (h:Rel O N S E β a) {id sz n:Nat} {e:TypeId} {ds:List D} (hS:S.get t = .osl id sz n) (he:S.ent id = .blk e ds) (hl:ds.length=n*sz) :
 (n=0∧Rel O N (S.set t .nils) E β a)∨∃ cap,n≤cap∧cap≤maxLen∧Rel O N ((S.setE id (.blk e (ds++List.replicate ((cap-n)*sz) .dead))).set t (.rsl id sz 0 n cap)) E β a:=by
 have h1:=h.sl t
 rw [hS] at h1
 generalize hv:a.tmps.getD t undef=v at h1
 cases h1 with
 | nosl =>
   left
   refine ⟨rfl,h.n,h.nd,?_,fun s=>?_⟩
   · exact h.h
   · by_cases hst:t=s
     · subst hst; simp only [St.get,St.set,aT,if_true]; rw [hv]; exact .nils _
     · have:=h.sl s
       simpa [St.get,St.set,aT,hst] using this
 | osl _ _ b _ cap _ hb hc hsz c e' f hcap hcs hcm =>
   right
   refine ⟨cap,hc,hcm,h.turn he hb (fun vs sp hh hvs=>?_) ?_⟩
   · rw [hh] at hcap; cases hcap
     have hvl:=hvs.length
     have hle:(cap-n)*sz≤sp.length:=by
      simp only [List.size_toArray,List.length_append,hvl,hl] at hcs
      have:cap*sz=n*sz+(cap-n)*sz:=by rw [←Nat.add_mul]; congr 1; omega
      omega
     refine ⟨vs++sp.take ((cap-n)*sz),sp.drop ((cap-n)*sz),by rw [List.append_assoc,List.take_append_drop],hvs.append ?_⟩
     have:=oG E β (sp.take ((cap-n)*sz))
     rwa [List.length_take,Nat.min_eq_left hle] at this
   · rw [hv]; exact .rsl _ _ _ _ _ _ b 0 hb hc hsz ⟨fun _=>rfl,Nat.le_refl _⟩ c e' f hcap (by rw [Nat.zero_add]; exact hcs) hcm
theorem Rel.closed {E:Env} {β:bH} {a:Act} (h:Rel O N S E β a) {id sz n cap:Nat} {e:TypeId} {ds j:List D} (hS:S.get t = .rsl id sz 0 n cap) (he:S.ent id = .blk e (ds++j)) (hl:ds.length=n*sz) :
 Rel O N ((S.setE id (.blk e ds)).set t (.osl id sz n)) E β a:=by
 have h1:=h.sl t
 rw [hS] at h1
 obtain ⟨b,p,c,e',f,hv,hb,hc,hsz,hp,hp',hcap,hcs,hcm⟩:=qN h1
 refine h.turn he hb (fun vs sp hh hvs=>?_) ?_
 · refine ⟨vs.take ds.length,vs.drop ds.length++sp,by rw [←List.append_assoc,List.take_append_drop],?_⟩
   have:=hvs.take ds.length
   rwa [List.take_append_of_le_length (Nat.le_refl _),List.take_length] at this
 · rw [hv]
   have:p=0:=by omega
   subst this
   exact .osl _ _ b n cap sz hb hc hsz c e' f hcap (by omega) hcm
theorem zB {c:Code} (t:Nat) {id sz n:Nat} {e:TypeId} {ds:List D} (hS:S.get t = .osl id sz n) (he:S.ent id = .blk e ds) (hl:ds.length=n*sz) (h0:n=0→IWP P O N c (S.set t .nils) Q)
 (h1:∀ cap,n≤cap→cap≤maxLen→IWP P O N c ((S.setE id (.blk e (ds++List.replicate ((cap-n)*sz) .dead))).set t (.rsl id sz 0 n cap)) Q):IWP P O N c S Q:=by
 intro E β a hr
 rcases hr.opened hS he hl with ⟨h2,h3⟩ | ⟨cap,h2,h3,h4⟩
 · exact h0 h2 E β a h3
 · exact h1 cap h2 h3 E β a h4
theorem tM {c:Code} (t:Nat) {id sz n cap:Nat} {e:TypeId} {ds j:List D} (hS:S.get t = .rsl id sz 0 n cap) (he:S.ent id = .blk e (ds++j)) (hl:ds.length=n*sz) (h:IWP P O N c ((S.setE id (.blk e ds)).set t (.osl id sz n)) Q):IWP P O N c S Q :=
 fun E β a hr=>h E β a (hr.closed hS he hl)
theorem aBE {ops:Array Oper} {c:List Oper} (t:Nat) {id sz n cap:Nat} {e:TypeId} {ds j:List D} (hS:S.get t = .rsl id sz 0 n cap) (he:S.ent id = .blk e (ds++j)) (hl:ds.length=n*sz) (h:ILS P O N ops c ((S.setE id (.blk e ds)).set t (.osl id sz n)) Q):ILS P O N ops c S Q :=
 fun E β a hr=>h E β a (hr.closed hS he hl)
theorem yF {T e:TypeId} {x:Operand} {id sz off len cap:Nat} {n:Int} (ho:o.op = .call { callee:=.builtin .cap,args:=#[x],argTypes:=#[T] }) (hd:o.dst=some t) (ht:t<N) (hu:P.underlying T=some (.slice e))
 (hx:SV S x (.rsl id sz off len cap)) (hn:(cap:Int)=n):IOp P O N o S (S.set t (.int .i64 n)) :=
 eY hd ht fun E β a hr=>⟨.int .i64 n,by
  subst hn
  obtain ⟨b,p,c,e',f,hv,_⟩:=qN (hx.rd hr)
  simp [execOp,ho,resolve,invoke,builtin,Builtin.cap_,run_underlying hu,hv,goInt],.int _ _ _⟩
theorem yB {T e:TypeId} {x:Operand} {id sz off len cap:Nat} {n:Int} (ho:o.op = .call { callee:=.builtin .len,args:=#[x],argTypes:=#[T] }) (hd:o.dst=some t) (ht:t<N) (hu:P.underlying T=some (.slice e))
 (hx:SV S x (.rsl id sz off len cap)) (hn:(len:Int)=n):IOp P O N o S (S.set t (.int .i64 n)) :=
 eY hd ht fun E β a hr=>⟨.int .i64 n,by
  subst hn
  obtain ⟨b,p,c,e',f,hv,_⟩:=qN (hx.rd hr)
  simp [execOp,ho,resolve,invoke,builtin,Builtin.len_,run_underlying hu,hv,goInt],.int _ _ _⟩
theorem xO {E:Env} {β:bH} {a:Act} (hr:Rel O N S E β a) {len cap:Nat} {lo hi mx:Option Operand} {l h m:Int} (hlo:rG S 0 lo l) (hhi:rG S len hi h) (hmx:rG S cap mx m) (hs:mx.isSome=true→hi.isSome=true) (h0:0≤l) (h1:l≤h) (h2:h≤m) (h3:m≤cap) :
 (Instr.sliceBounds true len cap (lo.map a.eval) (hi.map a.eval) (mx.map a.eval)).run P E.w = .ok (l.toNat,h.toNat,m.toNat) E.w:=by
 have e1:0≤h:=by omega
 have e0:0≤m:=by omega
 have e2:l≤(h.toNat:Int):=by omega
 have e3:h≤(m.toNat:Int):=by omega
 have m1:max h 0=h:=Int.max_eq_left e1
 have m2:max m 0=m:=Int.max_eq_left e0
 cases mx with
 | none =>
   have hmx:m=cap:=hmx
   subst hmx
   cases lo with
   | none =>
     have hlo:l=0:=hlo
     subst hlo
     cases hi with
     | none=>have hhi:h=len:=hhi; subst hhi; simp [Instr.sliceBounds]
     | some y=>obtain ⟨k,hy⟩:=hhi; simp [Instr.sliceBounds,Instr.sliceBound,fZ (hy.rd hr),asIntOf,e1,h2]
   | some x =>
     obtain ⟨k,hx⟩:=hlo
     cases hi with
     | none=>have hhi:h=len:=hhi; subst hhi; simp [Instr.sliceBounds,Instr.sliceBound,fZ (hx.rd hr),asIntOf,h0,h1]
     | some y=>obtain ⟨k',hy⟩:=hhi; simp [Instr.sliceBounds,Instr.sliceBound,fZ (hx.rd hr),fZ (hy.rd hr),asIntOf,h0,e1,e2,h2,m1,h1]
 | some z =>
   obtain ⟨kz,hz⟩:=hmx
   cases hi with
   | none=>exact absurd (hs rfl) (by simp)
   | some y =>
     obtain ⟨k',hy⟩:=hhi
     cases lo with
     | none =>
       have hlo:l=0:=hlo
       subst hlo
       simp [Instr.sliceBounds,Instr.sliceBound,fZ (hy.rd hr),fZ (hz.rd hr),asIntOf,e0,e1,e3,h3,m2,h2]
     | some x =>
       obtain ⟨k,hx⟩:=hlo
       simp [Instr.sliceBounds,Instr.sliceBound,fZ (hx.rd hr),fZ (hy.rd hr),fZ (hz.rd hr),asIntOf,h0,e0,e1,e2,e3,h3,m1,m2,h1,h2]
theorem fE {T e:TypeId} {x:Operand} {lo hi mx:Option Operand} {id sz off len cap:Nat} {l h m:Int} {z:Option Value} {bytes:Nat} {d:D} (ho:o.op = .slice T x lo hi mx) (hd:o.dst=some t) (ht:t<N) (hu:P.underlying T=some (.slice e)) (hi':TI P e z sz bytes)
 (hx:SV S x (.rsl id sz off len cap)) (hlo:rG S 0 lo l) (hhi:rG S len hi h) (hmx:rG S cap mx m) (hs:mx.isSome=true→hi.isSome=true) (h0:0≤l) (h1:l≤h) (h2:h≤m) (h3:m≤cap)
 (hdd:D.rsl id sz (off+l.toNat*sz) (h.toNat-l.toNat) (m.toNat-l.toNat)=d):IOp P O N o S (S.set t d) :=
 eY hd ht fun E β a hr=>by
  subst hdd
  obtain ⟨b,p,c,e',f,hv,hb,hlc,hsz,hp,hp',hcap,hcs,hcm⟩:=qN (hx.rd hr)
  have hbd:=xO (P:=P) hr hlo hhi hmx hs h0 h1 h2 h3
  have hmc:m.toNat≤cap:=by omega
  have hlm:l.toNat≤m.toNat:=by omega
  have hfit:off+l.toNat*sz+(m.toNat-l.toNat)*sz≤c.size:=by
   have:l.toNat*sz+(m.toNat-l.toNat)*sz≤cap*sz:=by rw [←Nat.add_mul]; exact Nat.mul_le_mul_right _ (by omega)
   omega
  refine ⟨.slice (if m.toNat=l.toNat then some ⟨b,p,none⟩ else some ⟨b,p+l.toNat*sz,none⟩) (h.toNat-l.toNat) (m.toNat-l.toNat),?_,?_⟩
  · simp only [execOp,ho,hv,Instr.sliceAt,Instr.slice,Sem.run_bind,run_underlying hu,Result.andThen_ok,hbd,hi'.run_size,Sem.run_pure]
    split <;> simp [iX]
  · split
    · rename_i hml
      exact .rsl _ _ _ _ _ _ b p hb (by omega) hsz ⟨fun h=>by omega,by omega⟩ c e' f hcap hfit (by omega)
    · rename_i hml
      have hpo:=hp (by omega)
      exact .rsl _ _ _ _ _ _ b _ hb (by omega) hsz ⟨fun _=>by rw [hpo],by omega⟩ c e' f hcap hfit (by omega)
theorem aAa {y:Operand} {id sz off len cap:Nat} {e:TypeId} {ds:List D} (hy:SV S y (.rsl id sz off len cap)) (he:S.ent id = .blk e ds) (hl:off+len*sz≤ds.length):∀ E β a,Rel O N S E β a→Src E β (a.eval y) len ((ds.drop off).take (len*sz)):=by
 intro E β a hr
 obtain ⟨b,p,c,e',f,hv,hb,hlc,hsz,hp,hp',hcap,hcs,hcm⟩:=qN (hy.rd hr)
 have hent:=hr.h.ent id
 rw [he] at hent
 obtain ⟨vs,sp,_,hh,_,hvs⟩:=mR hent hb
 by_cases h0:len=0
 · subst h0; exact .inl ⟨.inr ⟨_,_,hv⟩,rfl,by simp⟩
 · have hpo:=hp (by omega)
   subst hpo
   have hvl:=hvs.length
   refine .inr ⟨b,p,cap,(vs.drop p).take (len*sz),hv,fun j u hj=>?_,(hvs.drop p).take _⟩
   rw [iX,cell_of_row _ _ _ _ _ _ hh]
   rw [List.getElem?_take] at hj
   split at hj
   · rename_i hjl
     rw [List.getElem?_drop] at hj
     have hlt:=(List.getElem?_eq_some_iff.1 hj).1
     simpa [List.getElem?_append_left hlt] using hj
   · cases hj
theorem zT {vs us sp:List Value} {off:Nat} (h:off+us.length≤vs.length):((vs++sp).take off++us++(vs++sp).drop (off+us.length))=(vs.take off++us++vs.drop (off+us.length))++sp:=by
 rw [List.take_append_of_le_length (by omega),List.drop_append_of_le_length h]; simp
theorem yV {E:Env} {β:bH} {a:Act} (hr:Rel O N S E β a) {id b off:Nat} {e:TypeId} {ds es:List D} {vs us sp:List Value} (he:S.ent id = .blk e ds) (hb:β id=some b) (hown:O.own b) (hh:E.w.heap[b]? = some (.cells (List.toArray (vs++sp)) e (0,0))) (hX:∀ o,E.X b o)
 (hl:RdL E β vs ds) (hc:RdL E β us es) (hn:off+es.length≤ds.length) :
 ∃ E':Env,E'.w=E.w.setRow b ((vs++sp).take off++us++(vs++sp).drop (off+us.length)).toArray∧E'.X=E.X∧E.le E'∧Rel O N (S.setE id (.blk e (eR ds off es))) E' β a:=by
 have hvl:=hl.length
 have hul:=hc.length
 have e1:=zT (sp:=sp) (show off+us.length≤vs.length by omega)
 let E':Env:=⟨E.w.setRow b ((vs++sp).take off++us++(vs++sp).drop (off+us.length)).toArray,E.X⟩
 have hs:Step O E E' b:=⟨rfl,rfl,rfl,by simp [E'],by simpa [E'] using cK hh,hown,fun k _ hk=>setRow_other _ _ _ _ hk,fun _ _ _=>Iff.rfl,fun _ h=>by rw [hh] at h; cases h⟩
 have hle:E.le E':=hs.le (fun o v _ h2=>absurd (hX o) h2) (fun c e' f h3=>by
  rw [hh] at h3; cases h3
  exact ⟨_,_,setRow_heap _ _ _ _ _ _ hh,by rw [e1]; simp; omega⟩)
 refine ⟨E',rfl,rfl,hle,hr.n,hr.nd.step hs,?_,fun s=>Rd.mono hle (bH.le.refl _) (hr.sl s)⟩
 refine HOk.put hr.h hs hle (bH.le.refl _) ?_ ?_ hb ?_ (fun _ _=>trivial)
 · intro j hj; left; exact ⟨by simp [St.ent,entL,St.setE,aT,Ne.symm hj],rfl⟩
 · intro j hj hheld hbj
   have:(S.ent j).held=true:=by simpa [St.ent,entL,St.setE,aT,Ne.symm hj] using hheld
   exact hj (hr.h.inj j id b this (by rw [he]; rfl) hbj hb)
 · simp only [St.ent,entL,St.setE,aT,if_true]
   refine ⟨_,sp,by rw [←e1]; exact setRow_heap _ _ _ _ _ _ hh,hX,?_⟩
   rw [eR,←hul]
   exact RdL.mono hle (bH.le.refl _) (((hl.take off).append hc).append (hl.drop _))
theorem uD {es:List D} (h:es.all D.one=true) (k:Nat):(es.take k).all D.one=true:=by
 rw [List.all_eq_true] at h ⊢
 exact fun x hx=>h x (List.mem_of_mem_take hx)
theorem aBV {T T2 e:TypeId} {x y:Operand} {id sz off len cap m:Nat} {e':TypeId} {ds es ds':List D} {z:Option Value} {bytes:Nat} {k:Int} (ho:o.op = .call { callee:=.builtin .copy,args:=#[x,y],argTypes:=#[T,T2] }) (hd:o.dst=some t) (ht:t<N)
 (hu:P.underlying T=some (.slice e)) (hi:TI P e z sz bytes) (he:S.ent id = .blk e' ds) (hy:∀ E β a,Rel O N S E β a→Src E β (a.eval y) m es) (hes:es.length=m*sz) (hone:(es.take (min m len*sz)).all D.one=true)
 (hfit:off+len*sz≤ds.length) (hk:((min m len:Nat):Int)=k) (hds:eR ds off (es.take (min m len*sz))=ds'):∀ E β a,Rel O N S E β a→Rd E β (a.eval x) (.rsl id sz off len cap)→∀ (next:Act→World→Prop) Q,(∀ E' β' a',Rel O N ((S.setE id (.blk e' ds')).set t (.int .i64 k)) E' β' a'→next a' E'.w)→o.wp P a E.w next Q:=by
 intro E β a hr hxr next Q hn
 subst hk hds
 obtain ⟨b,p,c,e'',f,hv,hb,hlc,hsz,hp,hp',hcap,hcs,hcm⟩:=qN hxr
 have hent:=hr.h.ent id
 rw [he] at hent
 obtain ⟨vs,sp,hown,hh,hX,hvs⟩:=mR hent hb
 obtain ⟨i,hi1,hi2,hi3,hi4⟩:=hi.at
 have hvl:=hvs.length
 have hrun0:∀ r,(Builtin.copy_ #[T,T2] o.type #[a.eval x,a.eval y]).run P E.w=r→(execOp a.eval o).run P E.w=r.andThen fun v w'=>.ok (.value v) w':=fun r hr'=>by
  simp [execOp,ho,resolve,invoke,builtin,hr']
 have key:∀ us:List Value,RdL E β us (es.take (min m len*sz))→(0<min m len→p=off)→(Builtin.copy_ #[T,T2] o.type #[a.eval x,a.eval y]).run P E.w = .ok (goInt ((min m len:Nat):Int)) (E.w.setRow b ((vs++sp).take p++us++(vs++sp).drop (p+us.length)).toArray) →
  o.wp P a E.w next Q:=by
  intro us hus hpo hra
  unfold Oper.wp
  rw [hrun0 _ hra]
  have hul:=hus.length
  rw [List.length_take,hes] at hul
  have hmin:min (min m len*sz) (m*sz)=min m len*sz:=Nat.min_eq_left (Nat.mul_le_mul_right _ (Nat.min_le_left _ _))
  rw [hmin] at hul
  have hle2:min m len*sz≤len*sz:=Nat.mul_le_mul_right _ (Nat.min_le_right _ _)
  have hlt:(es.take (min m len*sz)).length=min m len*sz:=by rw [List.length_take,hes,hmin]
  have heq:E.w.setRow b ((vs++sp).take p++us++(vs++sp).drop (p+us.length)).toArray=E.w.setRow b ((vs++sp).take off++us++(vs++sp).drop (off+us.length)).toArray:=by
   by_cases h0:0<min m len
   · rw [hpo h0]
   · have:us=[]:=List.length_eq_zero_iff.1 (by rw [hul,show min m len=0 by omega,Nat.zero_mul])
     subst this
     simp
  rw [heq]
  obtain ⟨E',h1,h2,h3,h4⟩:=yV hr he hb hown hh hX hvs hus (off:=off) (by rw [hlt]; omega)
  simp only [Result.andThen_ok,Oper.upon,hd]
  rw [←h1]
  have:=h4.set ht (v:=goInt ((min m len:Nat):Int)) (d:=.int .i64 ((min m len:Nat):Int)) (by unfold goInt; exact .int _ _ _)
  exact hn E' β _ this
 have none_:m=0∨len=0→∀ yo sc,a.eval y = .slice yo m sc→o.wp P a E.w next Q:=by
  intro h0 yo sc hyv
  have hm0:min m len=0:=by omega
  refine key [] (by rw [hm0,Nat.zero_mul]; exact .nil _) (fun h=>by omega) ?_
  have e1:E.w.setRow b ((vs++sp).take p++[]++(vs++sp).drop (p+([]:List Value).length)).toArray=E.w:=by
   simp only [List.append_nil,List.length_nil,Nat.add_zero,List.take_append_drop]
   exact setRow_self _ _ _ _ _ hh
  rw [e1,hm0,hv,hyv]
  have hl0:∀ q:Addr,(loadCells q 0).run P E.w = .ok #[] E.w:=fun q=>by simpa using run_loadCells_list (P:=P) E.w q [] (by simp)
  have hmn:Nat.min m len=0:=hm0
  cases yo <;> simp [Builtin.copy_,run_underlying hu,Builtin.lenOf,Builtin.firstCells,hi.run_size,hmn,storeCells,hl0]
 rcases hy E β a hr with ⟨hyv,hm0,he0⟩ | ⟨yb,yoff,ycap,us,hyv,hyr,hus⟩
 · subst hm0
   rcases hyv with hyv | ⟨ad,sc,hyv⟩
   · exact none_ (.inl rfl) _ _ hyv
   · exact none_ (.inl rfl) _ _ hyv
 · by_cases h0:m=0∨len=0
   · exact none_ h0 _ _ hyv
   · have hmin:min m len*sz≤m*sz:=Nat.mul_le_mul_right _ (Nat.min_le_left _ _)
     have hle2:min m len*sz≤len*sz:=Nat.mul_le_mul_right _ (Nat.min_le_right _ _)
     have hul:us.length=m*sz:=by rw [hus.length,hes]
     have hpo:=hp (by omega)
     have hus':=hus.take (min m len*sz)
     have hlt:(us.take (min m len*sz)).length=min m len*sz:=by rw [List.length_take,hul]; omega
     refine key _ hus' (fun _=>hpo) ?_
     have hl:=run_loadCells_list (P:=P) E.w ⟨yb,yoff,none⟩ (us.take (min m len*sz)) (fun j u hj=>by
      rw [List.getElem?_take] at hj
      split at hj
      · exact hyr j u hj
      · cases hj)
     have hst:=run_storeCells_at P b p e' (us.take (min m len*sz)) 0 (vs++sp).toArray E.w hh (by simp; omega) (sZ hus' hone)
     simp only [Nat.add_zero] at hst
     rw [hv,hyv]
     have hmm:Nat.min m len=min m len:=rfl
     rw [hlt] at hl hst ⊢
     simp [Builtin.copy_,run_underlying hu,Builtin.lenOf,Builtin.firstCells,hi.run_size,hmm,hl,hst]
theorem nM {T T2 e:TypeId} {x y:Operand} {id sz off len cap m:Nat} {e':TypeId} {ds es ds':List D} {z:Option Value} {bytes:Nat} {k:Int} (ho:o.op = .call { callee:=.builtin .copy,args:=#[x,y],argTypes:=#[T,T2] }) (hd:o.dst=some t) (ht:t<N)
 (hu:P.underlying T=some (.slice e)) (hi:TI P e z sz bytes) (hx:SV S x (.rsl id sz off len cap)) (he:S.ent id = .blk e' ds) (hy:∀ E β a,Rel O N S E β a→Src E β (a.eval y) m es) (hes:es.length=m*sz) (hone:(es.take (min m len*sz)).all D.one=true)
 (hfit:off+len*sz≤ds.length) (hk:((min m len:Nat):Int)=k) (hds:eR ds off (es.take (min m len*sz))=ds'):IOp P O N o S ((S.setE id (.blk e' ds')).set t (.int .i64 k)) :=
 fun E β a hr next Q hn=>aBV ho hd ht hu hi he hy hes hone hfit hk hds E β a hr (hx.rd hr) next Q hn
end
end Go.IL
open Go.RowKit (Below)
namespace Go.IL
section
variable {P:Program} {O:bK} {N:Nat} {S S':St} {o:Oper} {t:Nat} {Q:Exit→St→Prop}
theorem xD {T tn e:TypeId} {x y:Operand} {z:Value} {id sz l cap k bytes:Nat} {ki kn:IntKind} {n:Int} {ds:List D} (id':Nat)
 (ho:o.op = .call { callee:=.builtin .append,args:=#[x,y],argTypes:=#[T,tn] }) (hd:o.dst=some t) (ht:t<N)
 (hu:P.underlying T=some (.slice e)) (htn:P.underlying tn=some (.int kn)) (hi:TI P e (some z) sz bytes) (hz:z.cells.size=sz)
 (hx:SV S x (.rsl id sz 0 l cap)) (he:S.ent id = .blk e ds) (hfr:S.ent id' = .fresh) (hy:SV S y (.int ki n)) (hn:n=(k:Int)) (hk:0<k) (hl:l*sz≤ds.length)
 (hg:cap<l+k) (hm:l+k≤maxLen) (hb:(l+k)*bytes≤140737488355328) :
 IOp P O N o S ((S.setE id' (.blk e (ds.take (l*sz)++List.replicate (k*sz) .dead))).set t (.osl id' sz (l+k))):=by
 intro E β a hr next Q hnx
 subst hn
 obtain ⟨b,p,c,e'',f,hv,hb',hlc,hsz,hp,hp',hcap,hcs,hcm⟩:=qN (hx.rd hr)
 have hp0:p=0:=by omega
 subst hp0
 have hent:=hr.h.ent id
 rw [he] at hent
 obtain ⟨vs,sp,hown,hh,hX,hvs⟩:=mR hent hb'
 obtain ⟨i,hi1,hi2,hi3,hi4⟩:=hi.at
 have hvl:=hvs.length
 have hfre:β id'=none:=by have:=hr.h.ent id'; rw [hfr] at this; exact this
 have hold:(Builtin.firstCells i.size l (.slice (some ⟨b,0,none⟩) l cap)).run P E.w.drew = .ok (vs.take (l*sz)).toArray E.w.drew:=by
  refine run_firstCells_some (P:=P) E.w.drew i.size l ⟨b,0,none⟩ l cap (vs.take (l*sz)) (by rw [List.length_take,hi3]; omega) fun j u hj=>?_
  rw [iX,Nat.zero_add]
  have h1:E.w.drew.cell? ⟨b,j,none⟩=E.w.cell? ⟨b,j,none⟩:=rfl
  rw [h1,cell_of_row _ _ _ _ _ _ hh]
  rw [List.getElem?_take] at hj
  split at hj
  · have hlt:=(List.getElem?_eq_some_iff.1 hj).1
    simpa [List.getElem?_append_left hlt] using hj
  · cases hj
 have hkb:k*i.bytes≤281474976710656:=by
  have:k*i.bytes≤(l+k)*i.bytes:=Nat.mul_le_mul_right _ (by omega)
  rw [hi4] at this ⊢; omega
 have hra:=Go.Lib.run_append_grow_zeros (P:=P) E.w T tn o.type e i z ki kn hu htn hi1 hi2 (some ⟨b,0,none⟩) l cap (vs.take (l*sz)) hold k hk (by rw [hi3]; exact hsz) hg (by simp [maxLen] at hm; omega) hkb (growslice_fits (by omega) (by rw [hi4]; exact hb))
 have hyv:=fZ (hy.rd hr)
 have hrun:(execOp a.eval o).run P E.w=((Builtin.append_ #[T,tn] o.type #[a.eval x,a.eval y]).run P E.w).andThen fun v w'=>.ok (.value v) w':=by
  simp [execOp,ho,resolve,invoke,builtin]
 unfold Oper.wp
 rw [hrun,hv,hyv,hra]
 simp only [Result.andThen_ok,Oper.upon,hd]
 let C:Array Value:=(vs.take (l*sz)).toArray++Builtin.zeroCells z.cells k++Builtin.zeroCells z.cells (grownCap E.w (l+k) cap e-(l+k))
 let E':Env:=⟨E.w.drew.alloc (.cells C e),fun b o=>b=E.w.heap.size∨E.X b o⟩
 let β':bH:=fun j=>if j=id' then some E.w.heap.size else β j
 have hβ:β.le β':=fun j b hj=>by
  by_cases hji:j=id'
  · subst hji; rw [hfre] at hj; cases hj
  · simp [β',hji,hj]
 have hs:Step O E E' E.w.heap.size :=
  ⟨rfl,rfl,rfl,by simp [E'],by simp [E'],.inl hr.h.size,fun k hk _=>heap_alloc_old E.w.drew _ hk,fun k o hk=>by simp [E',hk],fun _ h=>Nat.lt_irrefl _ (cK h)⟩
 have hle:E.le E':=hs.le (fun o v h1 _=>by have:=World.block_lt_of_cell? _ _ h1; simp at this) (fun c e f h1=>by have:=cK h1; simp at this)
 have hnew:E'.w.heap[E.w.heap.size]? = some (.cells C e (0,0)):=heap_alloc_new E.w.drew _
 have hts:t<a.tmps.size:=hr.n ▸ ht
 refine hnx E' β' _ ⟨by simp [Act.put,hr.n],hr.nd.step hs,?_,fun s=>?_⟩
 · refine HOk.put hr.h hs hle hβ ?_ ?_ (id:=id') (by simp [β']) ?_ (fun _ _=>trivial)
   · intro j hj; left; constructor
     · simp [St.ent,entL,St.setE,St.set,aT,Ne.symm hj]
     · simp [β',hj]
   · intro j hj hheld hbj
     have:(S.ent j).held=true:=by simpa [St.ent,entL,St.setE,St.set,aT,Ne.symm hj] using hheld
     have:=hr.h.held_lt this hbj
     omega
   · simp only [St.ent,entL,St.setE,St.set,aT,if_true]
     refine ⟨vs.take (l*sz)++(Builtin.zeroCells z.cells k).toList,(Builtin.zeroCells z.cells (grownCap E.w (l+k) cap e-(l+k))).toList,by rw [hnew]; simp [C],fun o=>.inl rfl,(RdL.mono hle hβ (hvs.take _)).append ?_⟩
     have:=oG E' β' (Builtin.zeroCells z.cells k).toList
     rwa [show (Builtin.zeroCells z.cells k).toList.length=k*sz by rw [Array.length_toList,size_zeroCells,hz]] at this
 · by_cases hst:t=s
   · subst hst
     simp only [Act.put,St.get,St.set,aT,if_true,Array.getD_eq_getD_getElem?,Array.getElem?_setIfInBounds_self,hts,Option.getD_some]
     refine .osl _ _ E.w.heap.size _ (grownCap E.w (l+k) cap e) sz (by simp [β']) (grownCap_ge _ _ _ _) hsz _ _ _ hnew ?_ (grownCap_le_maxLen _ _ _ _ hm)
     have h1:=grownCap_ge E.w (l+k) cap e
     simp only [C,Array.size_append,List.size_toArray,size_zeroCells,hz,List.length_take]
     rw [Nat.min_eq_left (by omega),←Nat.add_mul,←Nat.add_mul]
     exact Nat.mul_le_mul_right _ (by omega)
   · have:=Rd.mono hle hβ (hr.sl s)
     simpa [Act.put,St.get,St.set,St.setE,aT,hst,Array.getElem?_setIfInBounds_ne] using this
theorem wB {T e:TypeId} {x:Operand} {z:Value} {id sz off len cap bytes:Nat} {e':TypeId} {ds ds':List D} (ho:o.op = .call { callee:=.builtin .clear,args:=#[x],argTypes:=#[T] }) (hd:o.dst=none)
 (hu:P.underlying T=some (.slice e)) (hi:TI P e (some z) sz bytes) (hz:z.cells.size=sz) (hz1:z.cells.toList.all Value.oneCell'=true) (hx:SV S x (.rsl id sz off len cap)) (he:S.ent id = .blk e' ds) (hfit:off+len*sz≤ds.length)
 (hds:eR ds off (List.replicate (len*sz) .dead)=ds'):IOp P O N o S (S.setE id (.blk e' ds')):=by
 intro E β a hr next Q hn
 subst hds
 obtain ⟨b,p,c,e'',f,hv,hb,hlc,hsz,hp,hp',hcap,hcs,hcm⟩:=qN (hx.rd hr)
 have hent:=hr.h.ent id
 rw [he] at hent
 obtain ⟨vs,sp,hown,hh,hX,hvs⟩:=mR hent hb
 obtain ⟨i,hi1,hi2,hi3,hi4⟩:=hi.at
 have hvl:=hvs.length
 have hrun0:∀ r,(Builtin.clear_ #[T] o.type #[a.eval x]).run P E.w=r→(execOp a.eval o).run P E.w=r.andThen fun v w'=>.ok (.value v) w':=fun r hr'=>by
  simp [execOp,ho,resolve,invoke,builtin,hr']
 have key:∀ us:List Value,us.length=len*sz→(Builtin.clear_ #[T] o.type #[a.eval x]).run P E.w = .ok (.tuple #[]) (E.w.setRow b ((vs++sp).take off++us++(vs++sp).drop (off+us.length)).toArray)→o.wp P a E.w next Q:=by
  intro us hul hra
  unfold Oper.wp
  rw [hrun0 _ hra]
  have hus:=oG E β us
  rw [hul] at hus
  obtain ⟨E',h1,h2,h3,h4⟩:=yV hr he hb hown hh hX hvs hus (off:=off) (by rw [List.length_replicate]; exact hfit)
  simp only [Result.andThen_ok,Oper.upon,hd,Act.put]
  rw [←h1]
  exact hn E' β _ h4
 by_cases h0:len=0
 · subst h0
   refine key [] (by simp) ?_
   have e1:E.w.setRow b ((vs++sp).take off++[]++(vs++sp).drop (off+([]:List Value).length)).toArray=E.w:=by
    simp only [List.append_nil,List.length_nil,Nat.add_zero,List.take_append_drop]
    exact setRow_self _ _ _ _ _ hh
   rw [e1,hv]
   simp [Builtin.clear_,run_underlying hu]
 · have hpo:=hp (by omega)
   have hl:(Builtin.zeroCells z.cells len).toList.length=len*sz:=by rw [Array.length_toList,size_zeroCells,hz]
   refine key (Builtin.zeroCells z.cells len).toList hl ?_
   have hone:∀ v∈(Builtin.zeroCells z.cells len).toList,v.oneCell'=true:=by
    intro v hv
    rw [List.all_eq_true] at hz1
    simp only [Builtin.zeroCells,Array.toList_map,List.mem_map] at hv
    obtain ⟨j,_,rfl⟩:=hv
    have hlt:j % z.cells.size<z.cells.size:=Nat.mod_lt _ (by rw [hz]; exact hsz)
    rw [getElem!_pos z.cells (j % z.cells.size) hlt]
    exact hz1 _ (by simp)
   have hst:=run_storeCells_at P b p e' (Builtin.zeroCells z.cells len).toList 0 (vs++sp).toArray E.w hh (by rw [hl]; simp; omega) hone
   simp only [Nat.add_zero] at hst
   rw [hv]
   subst hpo
   cases len with
   | zero=>exact absurd rfl h0
   | succ len=>simp [Builtin.clear_,run_underlying hu,zeroValue,typeInfo,hi1,hi2,hst]
theorem yE {f:FuncId} {g:Array Value→Sem Value} {xs:List Operand} {ts:Array TypeId} {d:D} (ho:o.op = .call { callee:=.value (.func f),args:=xs.toArray,argTypes:=ts }) (hd:o.dst=some t) (ht:t<N)
 (hc:wG P f g) (hg:∀ (E:Env) β a,Rel O N S E β a→∃ v,(g (xs.map a.eval).toArray).run P E.w = .ok v E.w∧Rd E β v d):IOp P O N o S (S.set t d) :=
 eY hd ht fun E β a hr=>by
  obtain ⟨fn,h1,h2,h3,h4,h5⟩:=hc
  obtain ⟨v,hv,hrd⟩:=hg E β a hr
  exact ⟨v,by simp [execOp,ho,resolve,Deferred.ofValue,Act.eval,invoke,run_callFunc_extern h1 h2 h3 h4 h5,hv,Result.andThen],hrd⟩
theorem xA {f:FuncId} {T tr e:TypeId} {x y:Operand} {ts:Array TypeId} {l:List D} {full:Bool} {id sz off len cap:Nat} {e':TypeId} {ds:List D} {z:Option Value} {bytes:Nat} (ho:o.op = .call { callee:=.value (.func f),args:=#[x,y],argTypes:=ts }) (hd:o.dst=some t) (ht:t<N)
 (hc:wG P f (Extern.SlicesOverlaps.overlaps #[T,T] #[tr])) (hu:P.underlying T=some (.slice e)) (hi:TI P e z sz bytes) (hx:SV S x (.slice full l)) (hne:l≠[]) (hy:SV S y (.rsl id sz off len cap)) (he:S.ent id = .blk e' ds) (hlen:ds≠[]):IOp P O N o S (S.set t (.bool false)):=by
 refine yE (xs:=[x,y]) ho hd ht hc fun E β a hr=>?_
 obtain ⟨b,p,c,e'',f',hv,hb,hlc,hsz,hp,hp',hcap,hcs,hcm⟩:=qN (hy.rd hr)
 have hent:=hr.h.ent id
 rw [he] at hent
 obtain ⟨vs,sp,hown,hh,hX,hvs⟩:=mR hent hb
 refine ⟨.bool false,?_,.bool _ _⟩
 show (Extern.SlicesOverlaps.overlaps #[T,T] #[tr] #[a.eval x,a.eval y]).run P E.w = .ok (.bool false) E.w
 · skip
   rcases nH (hx.rd hr) with ⟨hev,rfl⟩ | ⟨yb,yoff,ycap,ysz,us,hev,hyc,_,hyz,hysp,hyrow,hus⟩ | ⟨ad,ycap,hev,rfl⟩
   · exact absurd rfl hne
   rotate_left
   · exact absurd rfl hne
   · -- a cell of the list
     have hpos:0<us.length:=by
      rw [hus.length]
      obtain ⟨d,r,rfl⟩:=List.exists_cons_of_ne_nil hne
      have:=hyz d (by simp)
      simp [D.flat,this]; omega
     have hcell:=hyrow 0 us[0] (List.getElem?_eq_getElem hpos)
     rw [Nat.add_zero] at hcell
     have hbne:yb≠b:=by rintro rfl; exact hcell.2 (hX _)
     have hybk:∃ cs te fe,E.w.heap[yb]? = some (.cells cs te fe)∧0<cs.size:=by
      have h6:=hcell.1
      unfold World.cell? at h6
      simp only at h6
      split at h6
      · rename_i cs te fe hhb
        refine ⟨cs,te,fe,hhb,?_⟩
        have h7:cs[yoff]? = some us[0]:=by simpa using h6
        have:=(Array.getElem?_eq_some_iff.1 h7).1
        omega
      · cases h6
     obtain ⟨cs,te,fe,hyh,hys⟩:=hybk
     rw [hev,hv]
     have g1:(yb != b)=true:=by simpa using hbne
     have g2:(yb == b)=false:=by simpa using hbne
     have f1:E.w.frozen? ⟨b,p,none⟩=false:=by simp [World.frozen?,hh]
     have f2:E.w.frozen? ⟨b,(vs++sp).length,none⟩=false:=by simp [World.frozen?,hh]
     have s1:E.w.shape? b=some (e',(vs++sp).length):=by simp [World.shape?,hh]
     have s2:E.w.shape? yb=some (te,cs.size):=by simp [World.shape?,hyh]
     change Sem.run P (α:=Value) (do
      let some t := (#[T, T] : Array TypeId)[0]? | stuck "slices.overlaps: no parameter types"
      let .slice elem ← underlying t | stuck "slices.overlaps: slice type expected"
      let size ←sizeOf elem
      match (some (⟨yb,yoff,none⟩:Addr):Option Addr),(some (⟨b,p,none⟩:Addr):Option Addr) with
      | some a,some b =>
        if l.length=0∨len=0∨size=0 then pure (Value.bool false)
        else if a.block != b.block&&(←frozen a)&&(←frozen b) then unsupported .addressObserved
        else do
         if a.block != b.block then do
          noView a; noView b
          if ← mayBeOne a b then return Value.bool ((← choose (.extern "sameAddr.stringBytes" 2)) == 1)
         pure (Value.bool (a.block == b.block&&a.off<b.off+len*size&&b.off<a.off+l.length*size))
      | _,_=>pure (Value.bool false)) E.w=_
     by_cases h0:l.length=0∨len=0∨sz=0
     · simp only [Sem.run_bind,List.getElem?_toArray,run_underlying hu,Result.andThen_ok,hi.run_size,List.getElem?_cons_zero]
       rw [if_pos h0]; rfl
     · obtain ⟨q,hq⟩:∃ q,cs.size=q+1:=⟨cs.size-1,by omega⟩
       rw [hq] at s2
       obtain ⟨u,hu1⟩:∃ u,(vs++sp).length=u+1:=⟨(vs++sp).length-1,by
        have:=hvs.length
        have h8:0<ds.length:=List.length_pos_iff.2 hlen
        simp; omega⟩
       rw [hu1] at s1 f2
       cases hfz:E.w.frozen? ⟨yb,yoff,none⟩ <;> cases hfe:E.w.frozen? ⟨yb,q+1,none⟩ <;>
       simp [run_underlying hu,hi.run_size,h0,g1,g2,frozen,noView,viewAt,mayBeOne,stringish,shape,Sem.run,s1,s2,f1,f2,hfz,hfe]
end
end Go.IL
open Go.RowKit (Below)
namespace Go.IL
def insS {α:Type} (b:Nat) (l:List α) (i:Int) (vs:List α):Option (List α) :=
 if 0≤i∧i≤(l.length:Int)∧l.length+vs.length≤9223372036854775807∧(l.length+vs.length)*b≤140737488355328 then some (l.take i.toNat++vs++l.drop i.toNat) else none
theorem insS_e {α:Type} {b:Nat} {l vs r:List α} {i:Int} (h:insS b l i vs=some r):∃ k:Nat,i=(k:Int)∧k≤l.length∧l.length+vs.length≤maxLen∧(l.length+vs.length)*b≤140737488355328∧l.take k++vs++l.drop k=r:=by
 unfold insS at h
 split at h
 · rename_i hh
   obtain ⟨h1,h2,h3,h4⟩:=hh
   exact ⟨i.toNat,by omega,by omega,by unfold maxLen; omega,h4,Option.some.inj h⟩
 · cases h
section
variable {α:Type} (f:Enc0 α)
theorem Enc0.flat_take (l:List α) (k:Nat):(D.flat (l.map f.d)).take (k*f.sz)=D.flat ((l.take k).map f.d):=by
 by_cases hk:k≤l.length
 · have h1:=f.flat_append (l.take k) (l.drop k)
   rw [List.take_append_drop] at h1
   have h2:(D.flat ((l.take k).map f.d)).length=k*f.sz:=by rw [f.flat_len,List.length_take,Nat.min_eq_left hk]
   rw [←h1,List.take_append_of_le_length (by rw [h2]; exact Nat.le_refl _),←h2,List.take_length]
 · rw [List.take_of_length_le (l:=l) (by omega),List.take_of_length_le (by rw [f.flat_len]; exact Nat.mul_le_mul_right _ (by omega))]
theorem Enc0.flat_drop (l:List α) (k:Nat):(D.flat (l.map f.d)).drop (k*f.sz)=D.flat ((l.drop k).map f.d):=by
 by_cases hk:k≤l.length
 · have h1:=f.flat_append (l.take k) (l.drop k)
   rw [List.take_append_drop] at h1
   have h2:(D.flat ((l.take k).map f.d)).length=k*f.sz:=by rw [f.flat_len,List.length_take,Nat.min_eq_left hk]
   rw [←h1,←h2,List.drop_append_of_le_length (Nat.le_refl _),List.drop_length,List.nil_append]
 · rw [List.drop_of_length_le (l:=l) (by omega),List.drop_of_length_le (by rw [f.flat_len]; exact Nat.mul_le_mul_right _ (by omega))]; rfl
end
theorem oU {A B C D':List D} {off:Nat} (h:A.length=off) (hl:B.length=C.length):eR (A++B++D') off C=A++C++D':=by
 subst h
 unfold eR
 have e1:(A++B++D').take A.length=A:=by rw [List.append_assoc,List.take_append_of_le_length (Nat.le_refl _),List.take_length]
 have e2:(A++B++D').drop (A.length+C.length)=D':=by
  rw [←hl,←List.length_append,List.drop_append_of_le_length (Nat.le_refl _),List.drop_length,List.nil_append]
 rw [e1,e2]
theorem aBD {X Y V J:List D} {a m:Nat} (ha:X.length=a) (hv:V.length=m) (hj:m≤J.length) :
 eR (eR (X++Y++J) (a+m) Y) a V=X++V++Y++J.drop m:=by
 -- first the tail goes up
 have e1:∃ U W,X++Y++J=(X++U)++W++J.drop m∧U.length=m∧W.length=Y.length:=by
  have hUW:=List.take_append_drop m (Y++J.take m)
  have h1:X++Y++J=X++(Y++J.take m)++J.drop m:=by rw [List.append_assoc X (Y++_),List.append_assoc Y,List.take_append_drop,List.append_assoc]
  refine ⟨(Y++J.take m).take m,(Y++J.take m).drop m,?_,by simp; omega,by simp; omega⟩
  rw [h1,List.append_assoc X (List.take m (Y++List.take m J)),hUW]
 obtain ⟨U,W,e1,e2,e3⟩:=e1
 rw [e1,oU (by simp [ha,e2]) e3]
 have e4:X++U++Y++J.drop m=X++U++(Y++J.drop m):=by rw [List.append_assoc (X++U)]
 rw [e4,oU ha (by rw [e2,hv]),List.append_assoc (X++V)]
theorem ins_new {X V Y Z J:List D} {a m:Nat} (ha:X.length=a) (hv:V.length=m) (hz:Z.length=m+Y.length) :
 eR (eR (X++Z++J) a V) (a+m) Y=X++V++Y++J:=by
 have e1:X++Z++J=X++Z.take m++(Z.drop m++J):=by
  rw [List.append_assoc X,List.append_assoc X (Z.take m),←List.append_assoc (Z.take m),List.take_append_drop]
 rw [e1,oU ha (by simp; omega)]
 have e2:X++V++(Z.drop m++J)=X++V++Z.drop m++J:=by rw [List.append_assoc (X++V)]
 rw [e2,oU (by simp [ha,hv]) (by simp; omega)]
theorem uK {l c:List D} {o:Nat} (h:o+c.length≤l.length):(eR l o c).length=l.length:=by unfold eR; simp; omega
theorem wN {a b:Nat} (h:a+b≤maxLen):IntKind.wrap .i64 ((a:Int)+(b:Int))=((a+b:Nat):Int):=by
 unfold maxLen at h; rw [aB6 (by omega) (by omega)]; omega
theorem wS {a b:Nat} (h:b≤a) (h1:a≤maxLen):IntKind.wrap .i64 ((a:Int)-(b:Int))=((a-b:Nat):Int):=by
 unfold maxLen at h1; rw [aB6 (by omega) (by omega)]; omega
end Go.IL
open Go.RowKit (Below)
namespace Go.IL
section
variable {P:Program} {O:bK} {N:Nat} {S S':St} {o:Oper} {t:Nat} {Q:Exit→St→Prop}
theorem Rel.same {E:Env} {β:bH} {a:Act} (h:Rel O N S E β a) (h1:∀ s,S'.get s=S.get s) (h2:∀ j,S'.ent j=S.ent j):Rel O N S' E β a:=by
 have h3:S'.ent=S.ent:=funext h2
 exact ⟨h.n,h.nd,h3 ▸ h.h,fun s=>(h1 s).symm ▸ h.sl s⟩
theorem Rel.kill {E:Env} {β:bH} {a:Act} (h:Rel O N S E β a) (t:Nat):Rel O N (S.set t .dead) E β a:=by
 refine ⟨h.n,h.nd,h.h,fun s=>?_⟩
 by_cases hst:t=s
 · subst hst; simp only [St.get,St.set,aT,if_true]; exact .dead _ _
 · have:=h.sl s
   simpa [St.get,St.set,aT,hst] using this
theorem wE {S:St} {id:Nat} {e:Ent}:(S.setE id e).ent id=e:=by simp [St.ent,entL,St.setE,aT]
theorem tZ {S:St} {id j:Nat} {e:Ent} (h:j≠id):(S.setE id e).ent j=S.ent j:=by simp [St.ent,entL,St.setE,aT,Ne.symm h]
theorem Rel.shrunk {E:Env} {β:bH} {a:Act} (h:Rel O N S E β a) {id:Nat} {e:TypeId} {ds ds' j:List D} (he:S.ent id = .blk e ds) (hd:ds=ds'++j):Rel O N (S.setE id (.blk e ds')) E β a:=by
 subst hd
 have hent:=h.h.ent id
 rw [he] at hent
 have held:∀ j,((S.setE id (.blk e ds')).ent j).held=(S.ent j).held:=fun j=>by
  by_cases hj:j=id
  · subst hj; rw [wE,he]; rfl
  · rw [tZ hj]
 refine ⟨h.n,h.nd,{ h.h with ent:=fun k=>?_,inj:=fun i j k hi hj=>h.h.inj i j k (held i ▸ hi) (held j ▸ hj) },h.sl⟩
 by_cases hk:k=id
 · subst hk
   rw [wE]
   rcases hent with ⟨h1,h2⟩ | ⟨b,vs,sp,h1,h2,h3,h4,h5⟩
   · exact .inl ⟨h1,(List.append_eq_nil_iff.1 h2).1⟩
   · refine .inr ⟨b,vs.take ds'.length,vs.drop ds'.length++sp,h1,h2,by rw [←List.append_assoc,List.take_append_drop]; exact h3,h4,?_⟩
     have:=h5.take ds'.length
     rwa [List.take_append_of_le_length (Nat.le_refl _),List.take_length] at this
 · rw [tZ hk]; exact h.h.ent k
theorem aAQ {α:Type} (f:Enc0 α) (l:List α) (k:Nat):D.flat (l.map f.d)=D.flat ((l.take k).map f.d)++D.flat ((l.drop k).map f.d):=by
 rw [f.flat_append,List.take_append_drop]
theorem uV {α:Type} (f:Enc0 α) {T e e':TypeId} {x y:Operand} {z:Option Value} {bytes id n:Nat} {l r:List α} {k:IntKind} {h:Int} (ho:o.op = .slice T x none (some y) none) (hd:o.dst=some t) (ht:t<N)
 (hu:P.underlying T=some (.slice e)) (hi:TI P e z f.sz bytes) (hx:SV S x (.osl id f.sz n)) (he:S.ent id = .blk e' (D.flat (l.map f.d))) (hn:l.length≤n) (hy:SV S y (.int k h)) (hc:cut l 0 h=some r) :
 IOp P O N o S ((S.setE id (.blk e' (D.flat (r.map f.d)))).set t (.osl id f.sz r.length)):=by
 obtain ⟨⟨_,h0,h1⟩,hr'⟩:=aB1 hc
 have hr2:l.take h.toNat=r:=by simpa using hr'
 have hrl:r.length=h.toNat:=by rw [←hr2,List.length_take]; omega
 have key:IOp P O N o S (S.set t (.osl id f.sz r.length)):=eY hd ht fun E β a hr=>by
  have hhi:rG S (n:Int) (some y) h:=⟨_,hy⟩
  have hlo:rG S 0 none 0:=rfl
  have h1:=hx.rd hr
  generalize hv:a.eval x=v at h1
  cases h1 with
  | nosl =>
    have hb:=nT (P:=P) hr (isS:=true) hlo hhi (Int.le_refl 0) h0 (by omega) (Nat.le_refl _)
    have e1:h.toNat=0:=by omega
    refine ⟨.slice none 0 0,?_,by rw [hrl,e1]; exact .nosl _ _ _⟩
    simp only [Option.map_none,Option.map_some] at hb
    simp [execOp,ho,hv,Instr.sliceAt,Instr.slice,run_underlying hu,hb,hi.run_size,e1]
  | osl _ _ b _ cap _ hb' hc' hsz c e2 f2 hcap hcs hcm =>
    have hb:=nT (P:=P) hr (isS:=true) hlo hhi (Int.le_refl 0) h0 (by omega) hc'
    simp only [Option.map_none,Option.map_some] at hb
    refine ⟨.slice (some ⟨b,0,none⟩) h.toNat cap,?_,by rw [hrl]; exact .osl _ _ b _ cap _ hb' (by omega) hsz c e2 f2 hcap hcs hcm⟩
    simp [execOp,ho,hv,Instr.sliceAt,Instr.slice,run_underlying hu,hb,hi.run_size,Addr.add]
 intro E β a hr next Q hn'
 refine key E β a hr next Q fun E' β' a' hr'=>hn' E' β' a' ?_
 exact hr'.shrunk (ds':=D.flat (r.map f.d)) (j:=D.flat ((l.drop h.toNat).map f.d)) he (by rw [←hr2]; exact aAQ f l _)
theorem uM {T e:TypeId} {x y:Operand} {z:Option Value} {size bytes:Nat} {k:IntKind} (ho:o.op = .slice T x (some y) none none) (hd:o.dst=some t) (ht:t<N)
 (hu:P.underlying T=some (.slice e)) (hi:TI P e z size bytes) (hx:SV S x .nils) (hy:SV S y (.int k 0)):IOp P O N o S (S.set t .nils) :=
 eY hd ht fun E β a hr=>by
  have h1:=hx.rd hr
  generalize hv:a.eval x=v at h1
  cases h1
  refine ⟨.slice none 0 0,?_,.nils _⟩
  simp [execOp,ho,hv,Instr.sliceAt,Instr.slice,run_underlying hu,hi.run_size,Instr.sliceBounds,Instr.sliceBound,fZ (hy.rd hr),asIntOf]
theorem uN {T e:TypeId} {x:Operand} (ho:o.op = .call { callee:=.builtin .clear,args:=#[x],argTypes:=#[T] }) (hd:o.dst=none)
 (hu:P.underlying T=some (.slice e)) (hx:SV S x .nils):IOp P O N o S S:=by
 intro E β a hr next Q hn
 have h1:=hx.rd hr
 generalize hv:a.eval x=v at h1
 cases h1
 have:(execOp a.eval o).run P E.w = .ok (.value (.tuple #[])) E.w:=by
  simp [execOp,ho,resolve,invoke,builtin,hv,Builtin.clear_,run_underlying hu]
 unfold Oper.wp
 rw [this]
 simp only [Oper.upon,hd,Act.put]
 exact hn E β _ hr
theorem tX {α:Type} (f:Enc0 α) {ops:Array Oper} {o1 o2:Oper} {c:List Oper} {T e e':TypeId} {y:Operand} {z:Value} {bytes id n t1 tx:Nat} {l r:List α} {k:IntKind} {i:Int} (g1:vN o1=true) (g2:vN o2=true)
 (ho1:o1.op = .slice T (.tmp tx) (some y) none none) (hd1:o1.dst=some t1) (ht:t1<N) (ho2:o2.op = .call { callee:=.builtin .clear,args:=#[.tmp t1],argTypes:=#[T] }) (hd2:o2.dst=none)
 (hu:P.underlying T=some (.slice e)) (hi:TI P e (some z) f.sz bytes) (hz:z.cells.size=f.sz) (hz1:z.cells.toList.all Value.oneCell'=true) (hx:S.get tx = .osl id f.sz n) (he:S.ent id = .blk e' (D.flat (l.map f.d))) (hn:l.length=n)
 (hy:∀ S1:St,(∀ s,tx≠s→S1.get s=S.get s)→SV S1 y (.int k i)) (hc:cut l 0 i=some r) (K:ILS P O N ops c (((S.setE id (.blk e' (D.flat (r.map f.d)))).set tx .dead).set t1 .dead) Q):ILS P O N ops (o1::o2::c) S Q:=by
 obtain ⟨⟨_,h0,h1⟩,hr'⟩:=aB1 hc
 have hr2:l.take i.toNat=r:=by simpa using hr'
 have hfl:=f.flat_len l
 intro E β a hr
 rcases hr.opened hx he (by rw [hfl,hn]) with ⟨hn0,h3⟩ | ⟨cap,hc1,hc2,h3⟩
 · have hl0:l=[]:=List.length_eq_zero_iff.1 (by omega)
   subst hl0
   obtain rfl:i=0:=by simp at h1; omega
   obtain rfl:r=[]:=by simpa using hr2.symm
   refine aA g1 (uM ho1 hd1 ht hu hi (sv (d:=.nils) (by simp [St.op,St.get,St.set,aT])) (hy _ fun s hs=>by simp [St.get,St.set,aT,hs])) (aA g2 (uN ho2 hd2 hu (sv (d:=.nils) (by simp [St.op,St.get,St.set,aT]))) ?_) E β a h3
   intro E' β' a' h4
   refine K E' β' a' (((h4.kill tx).kill t1).same (fun s=>?_) (fun j=>?_))
   · by_cases h6:t1=s <;> by_cases h7:tx=s <;> simp [St.get,St.set,St.setE,aT,h6,h7]
   · simp only [St.ent,entL,St.set,St.setE,aT]
     split
     · rename_i h5; subst h5; exact he.symm
     · rfl
 · have hyS:=hy ((S.setE id (.blk e' (D.flat (l.map f.d)++List.replicate ((cap-n)*f.sz) .dead))).set tx (.rsl id f.sz 0 n cap)) fun s hs=>by simp [St.get,St.set,St.setE,aT,hs]
   have hin:i.toNat≤n:=by omega
   have hmul:i.toNat*f.sz+(n-i.toNat)*f.sz=n*f.sz:=by rw [←Nat.add_mul]; congr 1; omega
   refine aA g1 (fE (id:=id) (off:=0) (len:=n) (cap:=cap) (sz:=f.sz) (l:=i) (h:=n) (m:=cap) (d:=.rsl id f.sz (i.toNat*f.sz) (n-i.toNat) (cap-i.toNat)) ho1 hd1 ht hu hi (sv (d:=.rsl _ _ _ _ _) (by simp [St.op,St.get,St.set,aT])) ⟨_,hyS⟩ rfl rfl (by simp) h0 (by omega) (by omega) (by omega) (by simp))
    (aA g2 (wB (e':=e') (ds:=D.flat (l.map f.d)++List.replicate ((cap-n)*f.sz) D.dead) ho2 hd2 hu hi hz hz1 (sv (d:=.rsl id f.sz (i.toNat*f.sz) (n-i.toNat) (cap-i.toNat)) (by simp [St.op,St.get,St.set,aT])) (by simp [St.ent,entL,St.set,St.setE,aT]) (by rw [List.length_append,hfl,hn,hmul]; exact Nat.le_add_right _ _) rfl) ?_) E β a h3
   intro E' β' a' h4
   have h5:=h4.shrunk (id:=id) (e:=e') (ds':=D.flat (r.map f.d)) (j:=List.replicate ((n-i.toNat)*f.sz) .dead++(D.flat (l.map f.d)++List.replicate ((cap-n)*f.sz) D.dead).drop (n*f.sz)) wE (by
    unfold eR
    rw [List.length_replicate,hmul,List.take_append_of_le_length (by rw [hfl,hn]; exact Nat.mul_le_mul_right _ hin),f.flat_take,hr2,List.append_assoc])
   refine K E' β' a' (((h5.kill tx).kill t1).same (fun s=>?_) (fun j=>?_))
   · by_cases h6:t1=s <;> by_cases h7:tx=s <;> simp [St.get,St.set,St.setE,aT,h6,h7]
   · simp only [St.ent,entL,St.set,St.setE,aT]; repeat' split <;> rfl
theorem xL {b:Frame} {a:Act} {k:List Item} {cs:List Frame} {w:World} {c:Code}:step P (lone (b.atR a (.code (.scope c)::k)) cs w) = .next (lone (b.atR a (.code c :: .inScope c::k)) cs w) :=
 step_lone_go (by simp [stepG,stepG.exec,Frame.atR])
theorem vD {b:Frame} {a:Act} {k:List Item} {cs:List Frame} {w:World} {c:Code}:step P (lone (b.atR a (.inScope c::k)) cs w) = .next (lone (b.atR a k) cs w) :=
 step_lone_go (by simp [stepG,stepG.exec,Frame.atR])
theorem aCF {α:Type} {l r:List α} {a b:Int} (h:cut l a b=some r):r.length≤l.length:=by
 obtain ⟨_,hr⟩:=aB1 h
 rw [←hr,List.length_drop,List.length_take]; omega
end
end Go.IL
open Go.RowKit (Below)
namespace Go.IL
section
variable {P:Program} {O:bK} {N:Nat} {S S':St} {o:Oper} {t:Nat} {Q:Exit→St→Prop}
structure HandM (S:St) (k:Nat) (A:List Nat) (H0:List (Nat×Ent)):Prop where
 nd:A.Nodup
 cov:A.all (fun i=>(H0.map fun x=>sig k A x.1).contains i)=true
 ents:∀ x∈H0,dY A x.1=true∧x.2.held=true∧S.ent (sig k A x.1)=x.2.ren (sig k A)∧x.2.refsIn (dY A)=true
def nE (m:Nat) (A:List Nat) (i:Nat):Bool:=Nat.blt i m||dY A i
theorem aAH {f:FuncId} {ds ds':List D} {r r':D} {H0 H1 H2:List (Nat×Ent)} (k m:Nat) (A:List Nat) (hd:o.dst=some t) (ht:t<N)
 (h:∀ E β a,Rel O N S E β a→∃ vs:List Value,(execOp a.eval o).run P E.w = .ok (.enter f vs.toArray) E.w∧RdL E β vs ds') (hds:D.renL (sig k A) ds=ds') (hp:D.refsInL (dY A) ds=true)
 (hkm:k+m≤1000) (hfr:∀ j,j<m→S.ent (k+j) = .fresh) (hh:HandM S k A H0) (hf:FnH P f ds H0 r H1) (hrr:r.ren (sig k A)=r') (hrp:r.refsIn (nE m A)=true) (hH1:∀ x∈H1,nE m A x.1=true∧x.2.refsIn (nE m A)=true)
 (hH2:rF k A H0 H1 S.H=H2):IOp P O N o S (St.set ⟨S.sl,H2⟩ t r'):=by
 intro E β a hr next Q hn
 obtain ⟨vs,hrun,hv⟩:=h E β a hr
 unfold Oper.wp
 rw [hrun]
 simp only [Oper.upon,hd]
 subst hds hrr hH2
 let βc:bH:=fun i=>if dY A i=true then β (sig k A i) else none
 have hβc:∀ id,dY A id=true→βc id=β (sig k A id):=fun id hid=>by simp [βc,hid]
 have hvc:RdL E βc vs ds:=RdL.ren hβc ds hv hp
 have h0:∀ i,(entL H0 i).held=true→dY A i=true∧S.ent (sig k A i)=(entL H0 i).ren (sig k A)∧(entL H0 i).refsIn (dY A)=true:=fun i hi=>by
  have h1:=hh.ents _ (oA hi)
  exact ⟨h1.1,h1.2.2.1,h1.2.2.2⟩
 have hcall:HOk ⟨E.w,E.X,iN βc H0,βc,none,fun _=>[],fun _=>0,fun _=>[],fun _=>(#[],.skip,.skip),E.w.heap.size⟩ E βc (entL H0):={
  tab:=hr.h.good.tab,os:=rfl,tape:=rfl,output:=rfl,size:=Nat.le_refl _,mbs:=Nat.le_refl _,block:=fun _ _ _=>rfl,xlt:=hr.h.xlt,xold:=fun _ _ _ _=>Iff.rfl,le:=Env.le.refl _
  gid:=fun i b hi=>by
   by_cases hg:dY A i=true
   · simp only [dY,Bool.and_eq_true,Nat.ble_eq] at hg; exact hg.1
   · simp [βc,hg] at hi
  given:=fun _ _ hi=>hi
  ent := fun i=>by
   cases hhe:(entL H0 i).held with
   | true =>
     obtain ⟨h1,h2,h3⟩:=h0 i hhe
     have he:=hr.h.ent (sig k A i)
     rw [h2] at he
     have hown:∀ b,βc i=some b→(⟨E.w,E.X,iN βc H0,βc,none,fun _=>[],fun _=>0,fun _=>[],fun _=>(#[],.skip,.skip),E.w.heap.size⟩:bK).own b:=fun b hb=>.inr ⟨i,hhe,hb⟩
     cases hE:entL H0 i with
     | none=>trivial
     | fresh=>rw [hE] at hhe; cases hhe
     | blk e es =>
       rw [hE] at he h3
       rcases he with ⟨g1,g2⟩ | ⟨b,ws,sp,g1,g2,g3,g4,g5⟩
       · exact .inl ⟨(hβc i h1).trans g1,mS g2⟩
       · exact .inr ⟨b,ws,sp,(hβc i h1).trans g1,hown b ((hβc i h1).trans g1),g3,g4,RdL.ren hβc es g5 h3⟩
     | tail e sz n =>
       rw [hE] at he
       rcases he with ⟨g1,g2⟩ | ⟨b,c,g1,g2,g3,g4⟩
       · exact .inl ⟨(hβc i h1).trans g1,g2⟩
       · exact .inr ⟨b,c,(hβc i h1).trans g1,hown b ((hβc i h1).trans g1),g3,g4⟩
     | loop lk es st pe =>
       rw [hE] at h3; cases h3
     | mp ks es =>
       rw [hE] at he h3
       obtain ⟨b,xs,cl,g1,g2,g3,g4,g5,g6⟩:=he
       exact ⟨b,xs,cl,(hβc i h1).trans g1,hown b ((hβc i h1).trans g1),g3,g4,g5,RdL.ren hβc es g6 h3⟩
     | kept n es=>rw [hE] at hhe; cases hhe
   | false =>
     cases hE:entL H0 i with
     | none=>trivial
     | fresh =>
       show βc i=none
       by_cases hm:i∈H0.map (·.1)
       · obtain ⟨e,h1,h2⟩:=fD (z:=defE i) hm
         have h3:=hh.ents _ h1
         have:entL H0 i=e:=h2
         rw [hE] at this; rw [←this] at h3; exact absurd h3.2.1 (by simp [Ent.held])
       · have:entL H0 i=defE i:=eW hm
         rw [hE] at this
         unfold defE at this
         split at this
         · cases this
         · rename_i hlt
           have:¬ dY A i=true:=by simp only [dY,Bool.and_eq_true,Nat.ble_eq]; omega
           simp [βc,this]
     | blk=>rw [hE] at hhe; cases hhe
     | tail=>rw [hE] at hhe; cases hhe
     | loop=>rw [hE] at hhe; cases hhe
     | mp=>rw [hE] at hhe; cases hhe
     | kept n es =>
       exfalso
       by_cases hm:i∈H0.map (·.1)
       · obtain ⟨e,h1,h2⟩:=fD (z:=defE i) hm
         have h3:=hh.ents _ h1
         have:entL H0 i=e:=h2
         rw [hE] at this; rw [←this] at h3; exact absurd h3.2.1 (by simp [Ent.held])
       · have:entL H0 i=defE i:=eW hm
         rw [hE] at this
         unfold defE at this
         split at this <;> cases this
  inj:=fun i j b hi hj h1 h2=>by
   obtain ⟨a1,a2,_⟩:=h0 i hi
   obtain ⟨b1,b2,_⟩:=h0 j hj
   have h1:β (sig k A i)=some b:=(hβc i a1).symm.trans h1
   have h2:β (sig k A j)=some b:=(hβc j b1).symm.trans h2
   exact sU hh.nd a1 b1 (hr.h.inj _ _ b (by rw [a2,Ent.held_ren]; exact hi) (by rw [b2,Ent.held_ren]; exact hj) h1 h2) }
 refine (hf E βc vs hr.h.good hcall.gid hcall hvc).mono ?_
 rintro e w' ⟨v,rfl,E',β',rfl,hok,hrd⟩
 -- old blocks that were not handed over
 have hfoot:∀ b,iN βc H0 b→∃ i,dY A i=true∧(S.ent (sig k A i)).held=true∧β (sig k A i)=some b:=fun b ⟨i,hi,hb⟩=>by
  obtain ⟨h1,h2,_⟩:=h0 i hi
  exact ⟨i,h1,by rw [h2,Ent.held_ren]; exact hi,by rw [←hβc i h1]; exact hb⟩
 have hfown:∀ b,iN βc H0 b→O.own b:=fun b hb=>by
  obtain ⟨i,_,h2,h3⟩:=hfoot b hb
  have he:=hr.h.ent (sig k A i)
  exact hr.h.own h2 h3
 have hcown:∀ b,(⟨E.w,E.X,iN βc H0,βc,none,fun _=>[],fun _=>0,fun _=>[],fun _=>(#[],.skip,.skip),E.w.heap.size⟩:bK).own b→O.own b:=fun b hb=>by
  rcases hb with hb | hb
  · exact .inl (Nat.le_trans hr.h.size hb)
  · exact hfown b hb
 have hfrE:∀ i,k≤i∧i<k+m→S.ent i = .fresh:=fun i h1=>by
  have:=hfr (i-k) (by omega)
  rwa [show k+(i-k)=i by omega] at this
 have hfresh:∀ i,k≤i→i<k+m→β i=none:=fun i h1 h2=>by
  have he:=hr.h.ent i
  rw [hfrE i ⟨h1,h2⟩] at he; exact he
 let βn:bH:=fun i=>if k≤i∧i<k+m then β' (i-k) else if i∈A then β' (1000+A.idxOf i) else β i
 have hAk:∀ i,i∈A→¬ (k≤i∧i<k+m):=fun i hi hki=>by
  have h1:=List.all_eq_true.1 hh.cov i hi
  obtain ⟨x,hx,hxe⟩:=List.mem_map.1 (by simpa using h1:i∈H0.map (fun x=>sig k A x.1))
  have h2:=hh.ents x hx
  rw [hxe,hfrE i hki] at h2
  have h3:(x.2.ren (sig k A)).held=true:=by rw [Ent.held_ren]; exact h2.2.1
  rw [←h2.2.2.1] at h3; cases h3
 have hnA:∀ i,i∈A→βn i=β' (1000+A.idxOf i):=fun i hi=>by simp [βn,hAk i hi,hi]
 have hnO:∀ i,i ∉ A→¬ (k≤i∧i<k+m)→βn i=β i:=fun i h1 h2=>by simp [βn,h1,h2]
 have hβ1:β.le βn:=fun i b hi=>by
  by_cases hki:k≤i∧i<k+m
  · rw [hfresh i hki.1 hki.2] at hi; cases hi
  · by_cases hA:i∈A
    · rw [hnA i hA]
      obtain ⟨h1,h2⟩:=pC (k:=k) hA
      exact hok.given _ _ (((hβc _ h1).trans (by rw [h2])).trans hi)
    · rw [hnO i hA hki]; exact hi
 have hβ2:∀ i,nE m A i=true→βn (sig k A i)=β' i:=fun i hi=>by
  by_cases hg:dY A i=true
  · rw [hnA _ (kK hg),sV hh.nd hg]
  · simp only [nE,hg,Bool.or_false,Nat.blt_eq] at hi
    have h2:¬ 1000≤i:=by omega
    have h1:sig k A i=k+i:=by simp [sig,h2]
    rw [h1]
    simp [βn,hi]
 have hle:E.le E':=hok.le
 -- the entries behind the call
 have hkey1:∀ i,nE m A i=true→∀ j,nE m A j=true→sig k A i=sig k A j→i=j:=fun i hi j hj hij=>by
  by_cases hgi:dY A i=true
  · by_cases hgj:dY A j=true
    · exact sU hh.nd hgi hgj hij
    · exfalso
      simp only [nE,hgj,Bool.or_false,Nat.blt_eq] at hj
      have h2:sig k A j=k+j:=by simp [sig,show ¬1000≤j by omega]
      exact hAk _ (kK (k:=k) hgi) (by rw [hij,h2]; omega)
  · by_cases hgj:dY A j=true
    · exfalso
      simp only [nE,hgi,Bool.or_false,Nat.blt_eq] at hi
      have h2:sig k A i=k+i:=by simp [sig,show ¬1000≤i by omega]
      exact hAk _ (kK (k:=k) hgj) (by rw [←hij,h2]; omega)
    · simp only [nE,hgi,hgj,Bool.or_false,Nat.blt_eq] at hi hj
      simp only [sig,show ¬1000≤i by omega,show ¬1000≤j by omega,if_false] at hij
      omega
 have hent:∀ i,(St.set ⟨S.sl,rF k A H0 H1 S.H⟩ t (r.ren (sig k A))).ent i =
  if i∈H1.map (fun x=>sig k A x.1) then (look (defE i) i (H1.map fun x=>(sig k A x.1,x.2.ren (sig k A)))) else if i∈H0.map (fun x=>sig k A x.1) then .none else S.ent i:=fun i=>by
  simp only [St.ent,entL,St.set,rF,lT,List.map_map]
  have e1:(Prod.fst ∘ fun x:Nat×Ent=>(sig k A x.1,x.2.ren (sig k A)))=fun x=>sig k A x.1:=rfl
  have e2:(Prod.fst ∘ fun x:Nat×Ent=>(sig k A x.1,Ent.none))=fun x=>sig k A x.1:=rfl
  rw [e1,e2]
  split
  · rfl
  · split
    · rename_i h1 h2
      obtain ⟨e,h3,h4⟩:=fD (z:=defE i) (l:=H0.map fun x=>(sig k A x.1,Ent.none)) (by rw [List.map_map,e2]; exact h2)
      rw [h4]
      obtain ⟨x,_,hx⟩:=List.mem_map.1 h3
      cases hx; rfl
    · rfl
 have hlook1:∀ j,nE m A j=true→j∈H1.map (·.1)→look (defE (sig k A j)) (sig k A j) (H1.map fun x=>(sig k A x.1,x.2.ren (sig k A)))=(entL H1 j).ren (sig k A):=by
  intro j hj
  unfold entL
  have aux:∀ (z z':Ent) (l:List (Nat×Ent)),(∀ x∈l,nE m A x.1=true)→j∈l.map (·.1)→look z (sig k A j) (l.map fun x=>(sig k A x.1,x.2.ren (sig k A)))=(look z' j l).ren (sig k A):=by
   intro z z' l
   induction l with
   | nil=>intro _ h; simp at h
   | cons x l ih =>
     obtain ⟨i,e⟩:=x
     intro hl hm
     simp only [List.map_cons,aT]
     by_cases hij:i=j
     · subst hij; rw [if_pos rfl,if_pos rfl]
     · rw [if_neg (fun h=>hij (hkey1 i (hl (i,e) List.mem_cons_self) j hj h)),if_neg hij]
       refine ih (fun x hx=>hl x (List.mem_cons_of_mem _ hx)) ?_
       simp only [List.map_cons,List.mem_cons] at hm
       rcases hm with h | h
       · exact absurd h.symm hij
       · exact h
  exact aux _ _ H1 (fun x hx=>(hH1 x hx).1)
 have hH1r:∀ j,j∈H1.map (·.1)→nE m A j=true∧(entL H1 j).refsIn (nE m A)=true:=fun j hj=>by
  obtain ⟨e,h1,h2⟩:=fD (z:=defE j) hj
  have h3:=hH1 _ h1
  exact ⟨h3.1,by rw [show entL H1 j=e from h2]; exact h3.2⟩
 have cases1:∀ i,i∈H1.map (fun x=>sig k A x.1)→∃ j,j∈H1.map (·.1)∧nE m A j=true∧i=sig k A j:=fun i hi=>by
  obtain ⟨x,hx,rfl⟩:=List.mem_map.1 hi
  exact ⟨x.1,List.mem_map.2 ⟨x,hx,rfl⟩,(hH1 x hx).1,rfl⟩
 -- an entry that was not handed over
 have hold:∀ i,i ∉ H1.map (fun x=>sig k A x.1)→i ∉ H0.map (fun x=>sig k A x.1)→(S.ent i).held=true→∀ b,β i=some b→βn i=some b∧b<E.w.heap.size∧¬ iN βc H0 b:=fun i h1 h2 h3 b hb=>by
  refine ⟨hβ1 i b hb,?_,?_⟩
  · exact hr.h.lt h3 hb
  · rintro ⟨j,hj,hbj⟩
    obtain ⟨g1,g2,_⟩:=h0 j hj
    have:i=sig k A j:=hr.h.inj i (sig k A j) b h3 (by rw [g2,Ent.held_ren]; exact hj) hb (by rw [←hβc j g1]; exact hbj)
    exact h2 (List.mem_map.2 ⟨_,oA hj,this.symm⟩)
 have hcov:∀ i,i∈A→i∈H0.map (fun x=>sig k A x.1):=fun i hi=>by
  have:=List.all_eq_true.1 hh.cov i hi
  simpa using this
 have hold':∀ i,i ∉ H0.map (fun x=>sig k A x.1)→S.ent i ≠ .fresh→βn i=β i:=fun i h0 hf=>by
  refine hnO i (fun hA=>h0 (hcov i hA)) (fun hki=>hf ?_)
  exact hfrE i hki
 refine hn E' βn _ ⟨by simp [Act.put,hr.n],hr.nd.mono (fun b hx=>(hok.block b (cK hx) (fun hf=>by obtain ⟨i,_,h2,h3⟩:=hfoot b hf; exact hr.h.nodef h2 h3 _ hx)).trans hx),?_,?_⟩
 · exact {
    tab:=hr.h.tab,os:=hok.os.trans hr.h.os,tape:=hok.tape.trans hr.h.tape,output:=hok.output.trans hr.h.output,size:=Nat.le_trans hr.h.size hok.size,mbs:=hr.h.mbs
    block:=fun j hj hf=>by
     have hnf:¬ iN βc H0 j:=fun h=>by
      rcases hfown j h with h1 | h1
      · omega
      · exact hf h1
     exact (hok.block j (Nat.lt_of_lt_of_le hj hr.h.size) hnf).trans (hr.h.block j hj hf)
    xlt:=hok.xlt
    xold:=fun b o hb hf=>by
     have hnf:¬ iN βc H0 b:=fun h=>by
      rcases hfown b h with h1 | h1
      · omega
      · exact hf h1
     exact (hok.xold b o (Nat.lt_of_lt_of_le hb hr.h.size) hnf).trans (hr.h.xold b o hb hf)
    le:=hr.h.le.trans hle
    gid:=hr.h.gid
    given:=fun i b hi=>hβ1 i b (hr.h.given i b hi)
    ent := fun i=>by
     rw [hent i]
     by_cases hi1:i∈H1.map (fun x=>sig k A x.1)
     · rw [if_pos hi1]
       obtain ⟨j,hj,hbj,rfl⟩:=cases1 i hi1
       rw [hlook1 j hbj hj]
       have he:=hok.ent j
       have hrf:=(hH1r j hj).2
       have hb2:=hβ2 j hbj
       cases hE:entL H1 j with
       | none=>trivial
       | fresh=>rw [hE] at he; exact hb2.trans he
       | blk e es =>
         rw [hE] at he hrf
         rcases he with ⟨g1,g2⟩ | ⟨b,ws,sp,g1,g2,g3,g4,g5⟩
         · exact .inl ⟨hb2.trans g1,by rw [g2]; rfl⟩
         · exact .inr ⟨b,ws,sp,hb2.trans g1,hcown b g2,g3,g4,RdL.renp (fun id b hid hb=>(hβ2 id hid).trans hb) g5 hrf⟩
       | tail e sz n =>
         rw [hE] at he
         rcases he with ⟨g1,g2⟩ | ⟨b,c,g1,g2,g3,g4⟩
         · exact .inl ⟨hb2.trans g1,g2⟩
         · exact .inr ⟨b,c,hb2.trans g1,hcown b g2,g3,g4⟩
       | loop lk es st pe =>
         rw [hE] at hrf; cases hrf
       | mp ks es =>
         rw [hE] at he hrf
         obtain ⟨b,xs,cl,g1,g2,g3,g4,g5,g6⟩:=he
         exact ⟨b,xs,cl,hb2.trans g1,hcown b g2,g3,g4,g5,RdL.renp (fun id b hid hb=>(hβ2 id hid).trans hb) g6 hrf⟩
       | kept n es=>rw [hE] at hrf; cases hrf
     · rw [if_neg hi1]
       by_cases hi0:i∈H0.map (fun x=>sig k A x.1)
       · rw [if_pos hi0]; trivial
       · rw [if_neg hi0]
         have he:=hr.h.ent i
         have hnb:∀ b,(S.ent i).held=true→β i=some b→βn i=some b∧E'.w.heap[b]? = E.w.heap[b]? ∧ ∀ o,(E'.X b o↔E.X b o):=fun b hhe hb=>by
          obtain ⟨g1,g2,g3⟩:=hold i hi1 hi0 hhe b hb
          exact ⟨g1,hok.block b g2 g3,fun o=>hok.xold b o g2 g3⟩
         cases hE:S.ent i with
         | none=>trivial
         | fresh =>
           rw [hE] at he
           show βn i=none
           by_cases hki:k≤i∧i<k+m
           · -- a fresh name of the callee's that is told by nothing
             have hbi:i-k ∉ H1.map (·.1):=fun hm=>by
              have hbb:=(hH1r _ hm).1
              refine hi1 ?_
              obtain ⟨x,hx,hxe⟩:=List.mem_map.1 hm
              refine List.mem_map.2 ⟨x,hx,?_⟩
              have hx':x.1=i-k:=hxe
              rw [hx']
              simp only [sig,show ¬1000≤i-k by omega,if_false]
              omega
             have h3:=hok.ent (i-k)
             have h4:entL H1 (i-k)=defE (i-k):=eW hbi
             rw [h4,defE,if_neg (by omega)] at h3
             simp only [βn,hki,and_self,if_true]
             exact h3
           · rw [hnO i (fun hA=>hi0 (hcov i hA)) hki]; exact he
         | blk e es =>
           rw [hE] at he
           rcases he with ⟨g1,g2⟩ | ⟨b,ws,sp,g1,g2,g3,g4,g5⟩
           · exact .inl ⟨(hold' i hi0 (by rw [hE]; exact fun h=>by cases h)).trans g1,g2⟩
           · obtain ⟨f1,f2,f3⟩:=hnb b (by rw [hE]; rfl) g1
             exact .inr ⟨b,ws,sp,f1,g2,f2.trans g3,fun o=>(f3 o).2 (g4 o),RdL.mono hle hβ1 g5⟩
         | tail e sz n =>
           rw [hE] at he
           rcases he with ⟨g1,g2⟩ | ⟨b,c,g1,g2,g3,g4⟩
           · exact .inl ⟨(hold' i hi0 (by rw [hE]; exact fun h=>by cases h)).trans g1,g2⟩
           · obtain ⟨f1,f2,f3⟩:=hnb b (by rw [hE]; rfl) g1
             exact .inr ⟨b,c,f1,g2,f2.trans g3,fun o ho=>(f3 o).2 (g4 o ho)⟩
         | loop lk es st pe =>
           rw [hE] at he
           obtain ⟨b,q,g1,g2,g3,g4,g5,g6,g7,g8,g9,g10⟩:=he
           obtain ⟨f1,f2,f3⟩:=hnb b (by rw [hE]; rfl) g1
           exact ⟨b,q,f1,g2,f2.trans g3,fun o=>(f3 o).2 (g4 o),g5,g6,g7,g8,g9,g10.1,RdL.mono hle hβ1 g10.2⟩
         | mp ks es =>
           rw [hE] at he
           obtain ⟨b,xs,cl,g1,g2,g3,g4,g5,g6⟩:=he
           obtain ⟨f1,f2,f3⟩:=hnb b (by rw [hE]; rfl) g1
           exact ⟨b,xs,cl,f1,g2,f2.trans g3,fun o=>(f3 o).2 (g4 o),g5,RdL.mono hle hβ1 g6⟩
         | kept n es =>
           rw [hE] at he
           exact ⟨RdL.mono hle hβ1 he.1,fun c hc=>(hok.block c (cK (he.2 c hc)) (fun hf=>by obtain ⟨i,_,h2,h3⟩:=hfoot c hf; exact hr.h.nodef h2 h3 _ (he.2 c hc))).trans (he.2 c hc)⟩
    inj := fun i j b hi hj hbi hbj=>by
     rw [hent i] at hi
     rw [hent j] at hj
     have hone:∀ i,i∈H1.map (fun x=>sig k A x.1)→(look (defE i) i (H1.map fun x=>(sig k A x.1,x.2.ren (sig k A)))).held=true→βn i=some b→∃ a,(entL H1 a).held=true∧β' a=some b∧i=sig k A a∧nE m A a=true:=fun i hm hh hb=>by
      obtain ⟨a,ha,hba,rfl⟩:=cases1 i hm
      rw [hlook1 a hba ha,Ent.held_ren] at hh
      exact ⟨a,hh,(hβ2 a hba).symm.trans hb,rfl,hba⟩
     have hown1:∀ a,(entL H1 a).held=true→β' a=some b→E.w.heap.size≤b∨iN βc H0 b:=fun a hh hb=>by
      exact hok.own hh hb
     have hto:∀ i,i ∉ H0.map (fun x=>sig k A x.1)→(S.ent i).held=true→βn i=some b→β i=some b:=fun i h0 hh hb=>by
      rw [←hold' i h0 (fun h=>by rw [h] at hh; cases hh)]; exact hb
     have hmix:∀ i j,i∈H1.map (fun x=>sig k A x.1)→(look (defE i) i (H1.map fun x=>(sig k A x.1,x.2.ren (sig k A)))).held=true→βn i=some b→j ∉ H1.map (fun x=>sig k A x.1)→j ∉ H0.map (fun x=>sig k A x.1)→(S.ent j).held=true→βn j=some b→False:=fun i j h1 h2 h3 h4 h5 h6 h7=>by
      obtain ⟨a,ha,hb,_⟩:=hone i h1 h2 h3
      obtain ⟨_,f2,f3⟩:=hold j h4 h5 h6 b (hto j h5 h6 h7)
      rcases hown1 a ha hb with h | h
      · omega
      · exact f3 h
     by_cases hi1:i∈H1.map (fun x=>sig k A x.1)
     · rw [if_pos hi1] at hi
       by_cases hj1:j∈H1.map (fun x=>sig k A x.1)
       · rw [if_pos hj1] at hj
         obtain ⟨a,ha,hab,rfl,_⟩:=hone i hi1 hi hbi
         obtain ⟨c,hc,hcb,rfl,_⟩:=hone j hj1 hj hbj
         rw [hok.inj a c b ha hc hab hcb]
       · rw [if_neg hj1] at hj
         by_cases hj0:j∈H0.map (fun x=>sig k A x.1)
         · rw [if_pos hj0] at hj; cases hj
         · rw [if_neg hj0] at hj
           exact (hmix i j hi1 hi hbi hj1 hj0 hj hbj).elim
     · rw [if_neg hi1] at hi
       by_cases hi0:i∈H0.map (fun x=>sig k A x.1)
       · rw [if_pos hi0] at hi; cases hi
       · rw [if_neg hi0] at hi
         by_cases hj1:j∈H1.map (fun x=>sig k A x.1)
         · rw [if_pos hj1] at hj
           exact (hmix j i hj1 hj hbj hi1 hi0 hi hbi).elim
         · rw [if_neg hj1] at hj
           by_cases hj0:j∈H0.map (fun x=>sig k A x.1)
           · rw [if_pos hj0] at hj; cases hj
           · rw [if_neg hj0] at hj
             exact hr.h.inj i j b hi hj (hto i hi0 hi hbi) (hto j hj0 hj hbj) }
 · intro s
   have hts:t<a.tmps.size:=hr.n ▸ ht
   by_cases hst:t=s
   · subst hst
     have h1:=Rd.renp (p:=nE m A) (fun id b hid hb=>(hβ2 id hid).trans hb) hrd hrp
     simpa [Act.put,St.get,St.set,aT,hts] using h1
   · have:=Rd.mono hle hβ1 (hr.sl s)
     simpa [Act.put,St.get,St.set,aT,hst,Array.getElem?_setIfInBounds_ne] using this

theorem nC {f:FuncId} {xs:List Operand} {ts:Array TypeId} {ds ds':List D} {r r':D} {H0 H1 U:List (Nat×Ent)} (k m:Nat) (A:List Nat) (ho:o.op = .call { callee:=.value (.func f),args:=xs.toArray,argTypes:=ts }) (hd:o.dst=some t) (ht:t<N)
 (hc:bF P f) (hx:SVs S xs ds') (hds:D.renL (sig k A) ds=ds') (hp:D.refsInL (dY A) ds=true) (hkm:Nat.ble (k+m) 1000=true) (hfr:∀ e∈(List.range m).map (fun j=>S.ent (k+j)),e = .fresh)
 (hh:HandM S k A H0) (hf:FnH P f ds H0 r H1) (hrr:r.ren (sig k A)=r') (hrp:r.refsIn (nE m A)=true) (hH1:∀ x∈H1,nE m A x.1=true∧x.2.refsIn (nE m A)=true)
 (hU:(H1.map fun x=>(sig k A x.1,x.2.ren (sig k A)))++(H0.map fun x=>(sig k A x.1,Ent.none))=U):IOp P O N o S ⟨(t,r')::S.sl,U++S.H⟩:=by
 have h:=aAH (P:=P) (O:=O) (N:=N) (S:=S) (o:=o) (t:=t) (f:=f) (ds:=ds) (ds':=ds') (r:=r) (r':=r') (H0:=H0) (H1:=H1) (H2:=U++S.H) k m A hd ht (fun E β a hr=>⟨xs.map a.eval,by
  simp [execOp,ho,resolve,Deferred.ofValue,Act.eval,invoke,eS hc],hx.rd hr⟩) hds hp (Nat.le_of_ble_eq_true hkm) (fun j hj=>hfr _ (List.mem_map.2 ⟨j,List.mem_range.2 hj,rfl⟩)) hh hf hrr hrp hH1 (by rw [←hU,rF,List.append_assoc])
 exact h
end
end Go.IL
namespace Go.IL
section
variable {P:Program} {O:bK} {N:Nat} {S S':St} {o:Oper} {t:Nat} {Q:Exit→St→Prop}

end
end Go.IL
open Go.RowKit (Below)
namespace Go.IL
section
variable {P:Program} {O:bK} {N:Nat} {S S':St} {o:Oper} {t:Nat} {Q:Exit→St→Prop}
end
end Go.IL
namespace Go.IL
theorem M.{u} {α : Sort u} {a : α} : a = a := rfl
def dd_ : Nat → List D → List D
  | 0, l => l
  | n + 1, l => .dead :: dd_ n l
theorem sj_ {α : Type} {a b : α} (h : some a = some b) : a = b := Option.some.inj h
section
variable {P:Program} {O:bK} {N:Nat} {S S':St} {o:Oper} {t:Nat} {Q:Exit→St→Prop}
def LA (P:Program) (T:TypeId) (u:TypeDesc) (z:Option Value) (size bytes:Nat) (g:Bool):Prop:=P.underlying T=some u∧iO P T=g∧TI P T z size bytes∧0<size
theorem LA.mk {T:TypeId} {u:TypeDesc} {z:Option Value} {size bytes:Nat} {g:Bool} (h1:P.underlying T=some u) (h2:iO P T=g) (h3:TI P T z size bytes) (h4:0<size):LA P T u z size bytes g:=⟨h1,h2,h3,h4⟩
theorem AllW.s {ρ:Nat→Nat} {t:Nat} {d:D} {l:List (Nat×D)} (h:S.get t=d.ren ρ) (hr:d.refsIn S'.okn=true) (k:AllW (SlW S S' ρ) l):AllW (SlW S S' ρ) ((t,d)::l):=.cons (.same h hr) k
end
theorem SubL.k {d:D} {ds ds':List D} (t:SubL ds ds'):SubL (d::ds) (d::ds'):=.cons (.refl d) t
theorem SubL.k4 {a b c d:D} {ds ds':List D} (t:SubL ds ds'):SubL (a::b::c::d::ds) (a::b::c::d::ds'):=.k (.k (.k (.k t)))
theorem FDL.k {S:St} {d:D} {ds ds':List D} (t:FDL S ds ds'):FDL S (d::ds) (d::ds'):=.cons (.refl d) t
theorem FDL.k4 {S:St} {a b c d:D} {ds ds':List D} (t:FDL S ds ds'):FDL S (a::b::c::d::ds) (a::b::c::d::ds'):=.k (.k (.k (.k t)))
theorem SubL.all:∀ (l:List D),SubL l l
 | []=>.nil
 | d::l=>.cons (.refl d) (SubL.all l)
theorem FDL.all {S:St} (l:List D):FDL S l l:=nN l
theorem or_tt {a b:Bool} (h:(a||true)=b):b=true:=by rw [←h,Bool.or_true]
end Go.IL
namespace Go.IL
section
variable {P:Program} {O:bK} {N:Nat} {S S':St} {o:Oper} {t:Nat} {Q:Exit→St→Prop}
end
end Go.IL
namespace Go.IL
section
variable {P:Program} {O:bK} {N:Nat} {S S':St} {o:Oper} {t:Nat}
end
end Go.IL
namespace Go.IL
section
variable {P:Program} {O:bK} {N:Nat} {S S':St} {o:Oper} {t:Nat}
theorem uQ {T e:TypeId} (h:P.underlying T=some (.pointer e)):P.underlying T=some (.pointer (P.pointee T)):=by
 unfold Program.pointee; rw [h]
theorem aAo {E:Env} {β:bH} {a:Act} {y:Operand} (hr:Rel O N S E β a) (hy:SV S y .nilp):a.eval y = .pointer none:=by
 have:=hy.rd hr
 generalize a.eval y=v at this
 cases this; rfl
theorem aAe {T e:TypeId} {p:Option Addr} (hu:P.underlying T=some (.pointer e)) (w:World) (neq:Bool):(binOp (if neq then .neq else .eql) T (.pointer p) (.pointer none)).run P w = .ok (.bool (if neq then !p.isNone else p.isNone)) w:=by
 cases neq
 · exact run_eql_pointer_nil w T p (uQ hu)
 · exact run_neq_pointer_nil w T p (uQ hu)
theorem qY {T T2 e:TypeId} {x y:Operand} {neq r:Bool} (ho:o.op = .binOp (if neq then .neq else .eql) T x y T2) (hd:o.dst=some t) (ht:t<N) (hu:P.underlying T=some (.pointer e))
 (hx:∀ E β a,Rel O N S E β a→∃ p,a.eval x = .pointer p∧(if neq then !p.isNone else p.isNone)=r) (hy:SV S y .nilp):IOp P O N o S (S.set t (.bool r)) :=
 eY hd ht fun E β a hr=>by
  obtain ⟨p,hp,hq⟩:=hx E β a hr
  have hyv:=aAo hr hy
  have h1:=aAe (p:=p) hu E.w neq
  rw [hq] at h1
  exact ⟨_,by simp [execOp,ho,hp,hyv,eqGuard,h1],.bool _ _⟩
theorem qH {T T2 e:TypeId} {x y:Operand} {id off:Nat} (ho:o.op = .binOp .eql T x y T2) (hd:o.dst=some t) (ht:t<N) (hu:P.underlying T=some (.pointer e)) (hx:SV S x (.ref id off)) (hy:SV S y .nilp):IOp P O N o S (S.set t (.bool false)) :=
 qY (neq:=false) ho hd ht hu (fun E β a hr=>by obtain ⟨b,_,h⟩:=wO (hx.rd hr); exact ⟨_,h,rfl⟩) hy
theorem aBu {T T2 e:TypeId} {x y:Operand} (ho:o.op = .binOp .eql T x y T2) (hd:o.dst=some t) (ht:t<N) (hu:P.underlying T=some (.pointer e)) (hx:SV S x .nilp) (hy:SV S y .nilp):IOp P O N o S (S.set t (.bool true)) :=
 qY (neq:=false) ho hd ht hu (fun E β a hr=>⟨_,aAo hr hx,rfl⟩) hy
end
end Go.IL
open Go.Lib
open Go.RowKit (Below)
namespace Go.IL
section
variable {P:Program} {O:bK} {N:Nat} {S S':St} {o:Oper} {t:Nat} {Q:Exit→St→Prop}
theorem HOk.drop {E E':Env} {β:bH} {H H':Nat→Ent} {b id:Nat} (h:HOk O E β H) (hs:Step O E E' b) (hle:E.le E')
 (hother:∀ j,j≠id→H' j=H j) (hid:H' id = .none) (hap:∀ j,j≠id→(H j).held=true→β j≠some b):HOk O E' β H' where
 os:=hs.os.trans h.os
 tab:=h.tab
 tape:=hs.tape.trans h.tape
 output:=hs.output.trans h.output
 mbs:=h.mbs
 size:=Nat.le_trans h.size hs.size
 block k hk hf:=by
  have hne:k≠b:=by
   rintro rfl
   rcases hs.own with h1 | h1
   · omega
   · exact hf h1
  exact (hs.block k (by have:=h.size; omega) hne).trans (h.block k hk hf)
 xlt k o hX:=by
  by_cases hk:k=b
  · subst hk; exact hs.lt
  · exact Nat.lt_of_lt_of_le (h.xlt k o ((hs.X k o hk).1 hX)) hs.size
 xold k o hk hf:=by
  have hne:k≠b:=by
   rintro rfl
   rcases hs.own with h1 | h1
   · omega
   · exact hf h1
  exact (hs.X k o hne).trans (h.xold k o hk hf)
 ent j:=by
  by_cases hj:j=id
  · subst hj; rw [hid]; trivial
  · rw [hother j hj]
    have hapj:=hap j hj
    have he:=h.ent j
    cases hH:H j with
    | none=>trivial
    | fresh=>rw [hH] at he; exact he
    | blk e ds =>
      rw [hH] at he hapj
      rcases he with ⟨h3,h4⟩ | ⟨k,vs,sp,h3,h4,h5,h6,h7⟩
      · exact .inl ⟨h3,h4⟩
      · have hne:k≠b:=fun e=>hapj rfl (e ▸ h3)
        exact .inr ⟨k,vs,sp,h3,h4,(hs.block k (cK h5) hne).trans h5,fun o=>(hs.X k o hne).2 (h6 o),RdL.mono hle (bH.le.refl _) h7⟩
    | tail e sz n =>
      rw [hH] at he hapj
      rcases he with ⟨h3,h4⟩ | ⟨k,c,h3,h4,h5,h6⟩
      · exact .inl ⟨h3,h4⟩
      · have hne:k≠b:=fun e=>hapj rfl (e ▸ h3)
        exact .inr ⟨k,c,h3,h4,(hs.block k (cK h5) hne).trans h5,fun o ho=>(hs.X k o hne).2 (h6 o ho)⟩
    | loop lk ds st pend =>
      rw [hH] at he hapj
      obtain ⟨k,r,h3,h4,h5,h6,h7,h8,h9,h10,h11,h12⟩:=he
      have hne:k≠b:=fun e=>hapj rfl (e ▸ h3)
      exact ⟨k,r,h3,h4,(hs.block k (cK h5) hne).trans h5,fun o=>(hs.X k o hne).2 (h6 o),h7,h8,h9,h10,h11,h12.1,RdL.mono hle (bH.le.refl _) h12.2⟩
    | mp ks ds =>
      rw [hH] at he hapj
      obtain ⟨k,es,cl,h3,h4,h5,h6,h7,h8⟩:=he
      have hne:k≠b:=fun e=>hapj rfl (e ▸ h3)
      exact ⟨k,es,cl,h3,h4,(hs.block k (cK h5) hne).trans h5,fun o=>(hs.X k o hne).2 (h6 o),h7,RdL.mono hle (bH.le.refl _) h8⟩
    | kept n ds =>
      rw [hH] at he
      refine ⟨RdL.mono hle (bH.le.refl _) he.1,fun c hc=>?_⟩
      have h5:=he.2 c hc
      by_cases hcb:c=b
      · subst hcb; exact absurd h5 (hs.dfr _)
      · exact (hs.block c (cK h5) hcb).trans h5
 le:=h.le.trans hle
 gid:=h.gid
 given i b hi:=h.given i b hi
 inj i j k hi hj h1 h2:=by
  have hii:i≠id:=fun e=>by rw [e,hid] at hi; cases hi
  have hjj:j≠id:=fun e=>by rw [e,hid] at hj; cases hj
  exact h.inj i j k (hother i hii ▸ hi) (hother j hjj ▸ hj) h1 h2
structure bK.Semi (O:bK):Prop where
 round:O.round=none
 foot:O.FootOk
structure bK.SemiL (L:List Nat) (O:bK):Prop where
 round:O.round=none
 foot:O.FootOk
 dv:∀ j,j ∉ L→O.dv j=[]
theorem bK.Plain.semiL {O:bK} (h:O.Plain):O.SemiL []:=⟨h.round,h.foot,fun j _=>h.dv j⟩
theorem pH {g : Operand} {ps:Array Tmp} {acx bd:Code} {f:FuncId} {fn:Func} {c:Code} {caps:List D} {L:List Nat} (k idL idK:Nat)
 (hg:SV S g (.fn f caps)) (hc:bF P f) (hf:P.funcs[f]? = some fn) (hb:fn.body=some c) (hres:fn.results = #[]) {N':Nat} (hn:fn.ntmps=N') (hN':caps.length+1≤N')
 (hfr:xG k [] S.H=true) (hL:S.ent idL = .fresh) (hO:O.SemiL L) (hkL:∀ j∈L,∃ i ds,S.ent i = .kept j ds)
 (h:∀ O',O'.SemiL (k::L)→O'.lc k=(ps,acx,bd)→IWP P O' N' c ⟨(List.range (.yld idL::caps).length).zip (.yld idL::caps),(idK,.kept k (allD N S))::(idL,.loop k (allD N S) .ready none)::S.H⟩ (aCA P O N k Q)):IWP P O N (.rangeFunc g ps acx bd) S Q:=by
 subst hn
 obtain ⟨Ow,OX,Of,Og,Or,Okv,Olv,Odv,Olc,Omb⟩:=O
 obtain ⟨hro,hfoot,hdv⟩:=hO
 simp only at hro hfoot hdv
 subst hro
 intro E β a hr
 obtain ⟨bs,hbs,hnd,hall⟩:=hr.nd
 have hdvn:∀ j,E.w.heap.size ∉ Odv j:=fun j hm=>by
  by_cases hj:j∈L
  · obtain ⟨i,ds,hi⟩:=hkL j hj
    have he:=hr.h.ent i
    rw [hi] at he
    exact Nat.lt_irrefl _ (cK (he.2 _ hm))
  · rw [hdv j hj] at hm; cases hm
 obtain ⟨vs,hev,hcaps⟩:=zX (hg.rd hr)
 refine wpIn_rangeFunc ?_
 intro fn0 _
 let r0:Loop:={ state:=.ready,pending:=none,fn:=fn0,tmps:=a.tmps,params:=ps,assign:=acx,body:=bd,defers:=E.w.heap.size }
 let W0:=E.w.alloc (.deferred (some []))
 have hsz0:W0.heap.size=E.w.heap.size+1:=by simp [W0]
 let W1:=W0.alloc (.loop r0)
 have hb0:Below E.w.heap.size E.w W0:=(Below.refl _ _).alloc (Nat.le_refl _) _
 refine ⟨E.w.heap.size+1,[{ target:=.collected E.w.heap.size,args:=#[] }],W1,{ target:=.fn (.func f) vs.toArray,args:=#[.func (.yield (E.w.heap.size+1)) #[] #[]] },W1,f,
  #[.func (.yield (E.w.heap.size+1)) #[] #[]]++vs.toArray,W1,run_enterLoop_outer _ _ _ _ _,?_,fun _ _=>trivial,?_,fun h=>by simp [fen,Fence.wide] at h,?_⟩
 · simp only [resolve,hev]
   simp [go_sem]
 · simp [invoke,eS hc]
 let O':bK:=⟨Ow,OX,Of,Og,none,fun j=>if j=k then a.tmps.toList else Okv j,fun j=>if j=k then E.w.heap.size+1 else Olv j,fun j=>if j=k then E.w.heap.size::bs else Odv j,fun j=>if j=k then (ps,acx,bd) else Olc j,Omb⟩
 have hsame:(⟨Ow,OX,Of,Og,none,Okv,Olv,Odv,Olc,Omb⟩:bK).same O':=⟨rfl,rfl,rfl,rfl,rfl⟩
 have hcomp : ∀ e,noK k e=true→mH ⟨Ow,OX,Of,Og,none,Okv,Olv,Odv,Olc,Omb⟩ O' e∧mH O' ⟨Ow,OX,Of,Og,none,Okv,Olv,Odv,Olc,Omb⟩ e:=fun e he=>by
  cases e with
  | kept j ds => have:j≠k:=by simpa [noK] using he
                 simp [mH,O',this]
  | loop j => have:j≠k:=by simpa [noK] using he
              simp [mH,O',this]
  | _=>exact ⟨trivial,trivial⟩
 have h0:HOk O' ⟨W0,E.X⟩ β (entL S.H):=(hr.h.below hb0).swap hsame fun id=>.inl ⟨rfl,(hcomp _ (lJ hfr (by simp))).1⟩
 let E1:Env:=⟨W1,fun b o=>b=E.w.heap.size+1∨E.X b o⟩
 let β1:bH:=fun j=>if j=idL then some (E.w.heap.size+1) else β j
 have hfrL:β idL=none:=by have:=hr.h.ent idL; rw [hL] at this; exact this
 have hβ:β.le β1:=fun j b hj=>by
  by_cases hji:j=idL
  · subst hji; rw [hfrL] at hj; cases hj
  · simp [β1,hji,hj]
 have hs:Step O' ⟨W0,E.X⟩ E1 (E.w.heap.size+1) :=
  ⟨rfl,rfl,rfl,by simp [E1,W1],by simp [E1,W1,hsz0],.inl (by have:=h0.size; simp only [hsz0] at this; exact this),fun j hj _=>heap_alloc_old _ _ hj,fun j o hj=>by simp [E1,hj],fun _ hx=>by have h9:E.w.heap.size+1<W0.heap.size:=cK hx; omega⟩
 have hle:(⟨W0,E.X⟩:Env).le E1:=hs.le (fun o v hx _=>by have:=World.block_lt_of_cell? _ _ hx; simp [hsz0] at this) (fun c e f hx=>by have:=cK hx; simp [hsz0] at this)
 have hle0:E.le E1:=(kQ hb0).trans hle
 have hnew:W1.heap[E.w.heap.size+1]? = some (.loop r0):=by have:=World.alloc_heap_new W0 (.loop r0); rwa [hsz0] at this
 have hdef:W1.heap[E.w.heap.size]? = some (.deferred (some [])):=(heap_alloc_old _ _ (by omega)).trans (World.alloc_heap_new E.w _)
 have hrd:RdL E1 β1 a.tmps.toList (allD N S):=RdL.mono hle0 hβ (sM hr)
 have h1:HOk O' E1 β1 (entL ((idL,.loop k (allD N S) .ready none)::S.H)):=by
  refine HOk.put h0 hs hle hβ (id:=idL) (fun j hj=>?_) (fun j hj hh hb=>?_) (by simp [β1]) ?_ (fun _ _=>trivial)
  · left; exact ⟨by show look _ _ _=_; rw [aT,if_neg (Ne.symm hj)]; rfl,by simp [β1,hj]⟩
  · have hh':(look (defE j) j ((idL,.loop k (allD N S) .ready none)::S.H)).held=true:=hh
    rw [aT,if_neg (Ne.symm hj)] at hh'
    have:=h0.lt (j:=j) hh' hb
    simp [hsz0] at this
  · show aAY O' E1 β1 _ (look _ _ _)
    rw [aT,if_pos rfl]
    exact ⟨r0,hnew,fun o=>.inl rfl,by simp [O',r0],by simp [O',r0],by simp [O',r0],rfl,rfl,by simp [O'],hrd⟩
 have h2:HOk O' E1 β1 (entL ((idK,.kept k (allD N S))::(idL,.loop k (allD N S) .ready none)::S.H)):=by
  refine h1.addK (by simpa [O'] using hrd) fun b hb=>?_
  have hb':b∈E.w.heap.size::bs:=by simpa [O'] using hb
  rcases List.mem_cons.1 hb' with rfl | hb'
  · exact hdef
  · have hx:=(hall b hb').2
    have hlt:=cK hx
    exact ((heap_alloc_old W0 _ (by omega)).trans (heap_alloc_old E.w _ hlt)).trans hx
 have hargs:RdL E1 β1 (Value.func (.yield (E.w.heap.size+1)) #[] #[]::vs) (.yld idL::caps):=.cons (.yld _ _ _ (by simp [β1])) (RdL.mono hle0 hβ hcaps)
 have hlen:=hargs.length
 have hrel:Rel O' fn.ntmps ⟨(List.range (D.yld idL::caps).length).zip (.yld idL::caps),(idK,.kept k (allD N S))::(idL,.loop k (allD N S) .ready none)::S.H⟩ E1 β1
  { tmps:=(#[Value.func (.yield (E.w.heap.size+1)) #[] #[]]++vs.toArray)++Array.replicate (fn.ntmps-(#[Value.func (.yield (E.w.heap.size+1)) #[] #[]]++vs.toArray).size) undef,defers:=[] }:=by
  refine ⟨by simp at hlen ⊢; omega,nS.nil,h2,fun s=>?_⟩
  have:=qM hargs (fn.ntmps-(#[Value.func (.yield (E.w.heap.size+1)) #[] #[]]++vs.toArray).size) s
  show Rd E1 β1 _ (look _ _ _)
  simpa using this
 refine callsIn_wide (n:=0) |>.2 (kU (E:=E1) (O:=O') hf hb rfl hfoot hrel (h O' ⟨rfl,hfoot,fun j hj=>by
  have h1:j≠k:=fun e=>hj (by simp [e])
  have h2:j ∉ L:=fun e=>hj (by simp [e])
  show (if j=k then _ else Odv j)=[]
  rw [if_neg h1]; exact hdv j h2⟩ (by simp [O'])) ?_)
 rintro e S2 E2 β2 a2 hr2 ⟨he,iL,iK,dl,ds',st,pend,hentL,hst,hentK,hfree,S3,ρ3,hw3,hQ⟩
 refine ⟨he,.tuple #[],by simp [results,hres],?_⟩
 obtain ⟨r,g1,g2,g3,g4,g5,g6,g7,g8⟩:=hr2.h.turn (H:=S2.H) hentL
 obtain ⟨g9,g10⟩:=g8 .exhausted pend
 have hlk:O'.lv k=E.w.heap.size+1:=by simp [O']
 rw [hlk] at g1 g9 g10
 have hkept:=hr2.h.ent iK
 rw [hentK] at hkept
 obtain ⟨k1,k2⟩:=hkept
 have hkv:O'.kv k=a.tmps.toList:=by simp [O']
 have hdk:O'.dv k=E.w.heap.size::bs:=by simp [O']
 rw [hkv] at k1; rw [hdk] at k2
 have hds':ds'.length=N:=by rw [←k1.length]; simpa using hr.n
 let E3:Env:=⟨E2.w.putObj (E.w.heap.size+1) (.loop { r with state:=.exhausted,pending:=pend }),E2.X⟩
 have hrel3:Rel ⟨Ow,OX,Of,Og,none,Okv,Olv,Odv,Olc,Omb⟩ N ⟨(List.range N).zip ds',(iK,.none)::(iL,.none)::S2.H⟩ E3 β2 { a with defers:={ target:=.collected E.w.heap.size,args:=#[] }::a.defers }:=by
  refine ⟨hr.n,⟨E.w.heap.size::bs,by rw [List.map_cons,←hbs],?_,?_⟩,?_,fun s=>?_⟩
  · rw [List.nodup_cons]
    exact ⟨fun hm=>Nat.lt_irrefl _ (cK (hall _ hm).2),hnd⟩
  · intro b hb
    refine ⟨⟨?_,?_⟩,(World.putObj_heap_other ?_).trans (k2 b hb)⟩
    rotate_left
    · rcases List.mem_cons.1 hb with rfl | hb
      · exact hdvn
      · exact (hall b hb).1.2
    rotate_left
    · rcases List.mem_cons.1 hb with rfl | hb
      · exact Nat.le_trans hr.h.mbs hr.h.size
      · exact (hall b hb).1.1
    · rintro rfl; have:=k2 _ hb; rw [g1] at this; cases this
  · refine HOk.swap (O:=O') (H:=entL ((iL,.loop k dl .exhausted pend)::S2.H)) g10 ⟨rfl,rfl,rfl,rfl,rfl⟩ fun id=>?_
    show (look _ _ _=look _ _ _∧_)∨_
    simp only [aT]
    by_cases h5:iK=id
    · right; show look _ _ _=_; rw [aT,if_pos h5]
    · by_cases h6:iL=id
      · right; show look _ _ _=_; rw [aT,if_neg h5,aT,if_pos h6]
      · left
        rw [if_neg h5,if_neg h6]
        refine ⟨by first | rfl | rw [if_neg h6],(hcomp _ ?_).2⟩
        show noK k (look _ _ _)=true
        rw [aT,if_neg h6]
        exact lJ hfree (by simp; exact ⟨Ne.symm h6,Ne.symm h5⟩)
  · have:=nU (RdL.mono g9 (bH.le.refl _) k1) s
    rw [hds'] at this
    exact this
 refine ⟨pend,E3.w,?_,?_⟩
 · have:=run_endLoop (P:=P) (l:=E.w.heap.size+1) g1 (by rw [g6]; exact hst)
   rw [g7] at this
   exact this
 · cases pend with
   | none=>obtain ⟨β4,hr4⟩:=hrel3.weak hw3; exact ⟨_,E3,β4,rfl,hr4,hQ⟩
   | some c=>obtain ⟨β4,hr4⟩:=hrel3.weak hw3; exact hQ E3 β4 _ hr4

theorem iW {ops:Array Oper} {o:Oper} {l:List Oper} {xs:List Operand} {ts:Array TypeId} {f:FuncId} {fn:Func} {c:Code} {t:Nat} {ds:List D} {L:List Nat} (k2 idK:Nat) (hg:vN o=true)
 (ho:o.op = .call { callee:=.value (.func f),args:=xs.toArray,argTypes:=ts }) (hd:o.dst=some t) (ht:t<N) (hc:bF P f) (hf:P.funcs[f]? = some fn) (hb:fn.body=some c) (hxs:SVs S xs ds) {N':Nat} (hn:fn.ntmps=N') (hN:ds.length≤N')
 (hfr:xG k2 [] S.H=true) (hO:O.SemiL L)
 (h:∀ O',O'.SemiL (k2::L)→IWP P O' N' c ⟨(List.range ds.length).zip ds,(idK,.kept k2 (allD N S))::S.H⟩ (inlQ P O N t k2 fn ops l Q)):ILS P O N ops (o::l) S Q:=by
 subst hn
 obtain ⟨Ow,OX,Of,Og,Or,Okv,Olv,Odv,Olc,Omb⟩:=O
 obtain ⟨hro,hfoot,hdv⟩:=hO
 simp only at hro hfoot hdv
 subst hro
 intro E β a hr
 obtain ⟨bs,hbs,hnd,hall⟩:=hr.nd
 refine wpListIn_plain (mD hg).1 fun K hK'=>zQ _ (mD hg).2 ?_
 have hrun:(execOp a.eval o).run P E.w = .ok (.enter f (xs.map a.eval).toArray) E.w:=by
  simp [execOp,ho,resolve,Deferred.ofValue,Act.eval,invoke,eS hc]
 unfold Oper.wp
 rw [hrun]
 simp only [Oper.upon,hd]
 let O':bK:=⟨Ow,OX,Of,Og,none,fun j=>if j=k2 then a.tmps.toList else Okv j,Olv,fun j=>if j=k2 then bs else Odv j,Olc,Omb⟩
 have hcomp:∀ e,noK k2 e=true→mH ⟨Ow,OX,Of,Og,none,Okv,Olv,Odv,Olc,Omb⟩ O' e∧mH O' ⟨Ow,OX,Of,Og,none,Okv,Olv,Odv,Olc,Omb⟩ e:=fun e he=>by
  cases e with
  | kept j ds => have:j≠k2:=by simpa [noK] using he
                 simp [mH,O',this]
  | loop j=>simp [mH,O']
  | _=>exact ⟨trivial,trivial⟩
 have h0:HOk O' E β (entL S.H):=hr.h.swap ⟨rfl,rfl,rfl,rfl,rfl⟩ fun id=>.inl ⟨rfl,(hcomp _ (lJ hfr (by simp))).1⟩
 have h1:HOk O' E β (entL ((idK,.kept k2 (allD N S))::S.H)):=h0.addK (by simpa [O'] using sM hr) fun c hc=>(hall c (by simpa [O'] using hc)).2
 have hargs:=hxs.rd hr
 have hlen:=hargs.length
 have hrel:Rel O' fn.ntmps ⟨(List.range ds.length).zip ds,(idK,.kept k2 (allD N S))::S.H⟩ E β { tmps:=(xs.map a.eval).toArray++Array.replicate (fn.ntmps-(xs.map a.eval).toArray.size) undef,defers:=[] }:=by
  refine ⟨by simp at hlen ⊢; omega,nS.nil,h1,fun s=>?_⟩
  have:=qM hargs (fn.ntmps-(xs.map a.eval).toArray.size) s
  show Rd E β _ (look _ _ _)
  simpa using this
 refine kU (E:=E) (O:=O') hf hb rfl hfoot hrel (h O' ⟨rfl,hfoot,fun j hj=>by
  have h1:j≠k2:=fun e=>hj (by simp [e])
  have h2:j ∉ L:=fun e=>hj (by simp [e])
  show (if j=k2 then _ else Odv j)=[]
  rw [if_neg h1]; exact hdv j h2⟩) ?_
 rintro e S2 E2 β2 a2 hr2 ⟨he,iK,dk,rs,hres,hentK,hfree,S5,ρ5,hw5,hils⟩
 refine ⟨he,?_⟩
 obtain ⟨v,hv,hrd⟩:=aBe hr2 hres
 have hkept:=hr2.h.ent iK
 rw [hentK] at hkept
 obtain ⟨k1,k2'⟩:=hkept
 have hkv:O'.kv k2=a.tmps.toList:=by simp [O']
 have hdk:O'.dv k2=bs:=by simp [O']
 rw [hkv] at k1; rw [hdk] at k2'
 have hdk3:dk.length=N:=by rw [←k1.length]; simpa using hr.n
 suffices hrel5:Rel ⟨Ow,OX,Of,Og,none,Okv,Olv,Odv,Olc,Omb⟩ N ⟨(t,retD rs)::(List.range N).zip dk,(iK,.none)::S2.H⟩ E2 β2 (a.put (some t) v) by
  obtain ⟨β5,hr5⟩:=hrel5.weak hw5
  exact ⟨v,hv,hK' _ _ (hils E2 β5 _ hr5)⟩
 refine Rel.set (S:=⟨(List.range N).zip dk,(iK,.none)::S2.H⟩) ⟨hr.n,⟨bs,hbs,hnd,fun c hc=>⟨(hall c hc).1,k2' c hc⟩⟩,?_,fun s=>?_⟩ ht hrd
 · refine HOk.swap (O:=O') (H:=entL S2.H) hr2.h ⟨rfl,rfl,rfl,rfl,rfl⟩ fun id=>?_
   by_cases h5:iK=id
   · right; show look _ _ _=_; rw [aT,if_pos h5]
   · left
     refine ⟨by show look _ _ _=look _ _ _; rw [aT,if_neg h5],(hcomp _ ?_).2⟩
     exact lJ hfree (by simp; exact Ne.symm h5)
 · have:=nU k1 s
   rw [hdk3] at this
   exact this
def LG (P:Program) (O:bK) (N:Nat) (c:Code) (Q:Exit→St→Prop) (S:St):Prop :=
 ∀ E β a,Rel O N S E β a→∀ (b:Frame) (k:List Item) (cs:List Frame),b.roundOf=(fen O.round).round→(fen O.round).fn b.fn→(fen O.round).room (cs.length+1+0) →
   ∃ e a' w',(∃ S' E' β',E'.w=w'∧Rel O N S' E' β' a'∧Q e S')∧ArrivesIn (Machine.fenced P (fen O.round)) P (lone (b.atR a (.code c :: .inLoop c::k)) cs E.w) b k cs e a' w'
theorem yZ {c:Code} (h:IWP P O N c S (vC (LG P O N c Q) Q)):LG P O N c Q S:=by
 intro E β a hr b k cs hro hb hroom
 obtain ⟨e,a₁,w₁,⟨S₁,E₁,β₁,rfl,hr₁,hq⟩,harr⟩:=h E β a hr b (.inLoop c::k) cs hro hb hroom
 cases e with
 | normal =>
   obtain ⟨e₂,a₂,w₂,hq₂,harr₂⟩:=hq E₁ β₁ a₁ hr₁ b k cs hro hb hroom
   exact ⟨e₂,a₂,w₂,hq₂,.of_steps (StepsIn.trans harr (.one (fenced_calm hb hroom rfl) stepR_inLoop)) harr₂⟩
 | exit id=>exact ⟨_,a₁,_,⟨S₁,E₁,β₁,rfl,hr₁,hq⟩,.pass (x:=.inLoop c) rfl (fun _ _=>.inl (by simp)) harr⟩
 | goto l=>exact ⟨_,a₁,_,⟨S₁,E₁,β₁,rfl,hr₁,hq⟩,.pass (x:=.inLoop c) rfl (fun _ _=>.inl (by simp)) harr⟩
 | ret=>exact ⟨_,a₁,_,⟨S₁,E₁,β₁,rfl,hr₁,hq⟩,.pass (x:=.inLoop c) rfl (fun _ _=>.inl (by simp)) harr⟩
 | panic ch=>exact ⟨_,a₁,_,⟨S₁,E₁,β₁,rfl,hr₁,hq⟩,.pass (x:=.inLoop c) rfl (fun _ _=>.inl (by simp)) harr⟩
 | outgrown=>exact ⟨_,a₁,_,⟨S₁,E₁,β₁,rfl,hr₁,hq⟩,.pass (x:=.inLoop c) rfl (fun _ _=>.inl (by simp)) harr⟩
theorem tL {c:Code} (h:LG P O N c Q S):IWP P O N (.loop c) S Q:=by
 intro E β a hr b k cs hro hb hroom
 obtain ⟨e,a',w',hq,harr⟩:=h E β a hr b k cs hro hb hroom
 exact ⟨e,a',w',hq,.of_steps (.one (fenced_calm hb hroom rfl) stepR_loop) harr⟩
theorem zA {α:Type} {c:Code} (st:α→St) (inv:α→Prop) (m:α→Nat) (a0:α) (ρ0:Nat→Nat) (h0:Weak S (st a0) ρ0) (i0:inv a0)
 (round:∀ x,inv x→IWP P O N c (st x) (vC (fun S'=>∃ y ρ,Weak S' (st y) ρ∧inv y∧m y<m x) Q)):LG P O N c Q S:=by
 intro E β a hr b k cs hro hb hroom
 have key:∀ n x E β a,m x=n→inv x→Rel O N (st x) E β a →
  ∃ e a' w',(∃ S' E' β',E'.w=w'∧Rel O N S' E' β' a'∧Q e S')∧ArrivesIn (Machine.fenced P (fen O.round)) P (lone (b.atR a (.code c :: .inLoop c::k)) cs E.w) b k cs e a' w':=by
  intro n
  induction n using Nat.strongRecOn with
  | _ n ih =>
    intro x E β a hn hI hr
    obtain ⟨e,a₁,w₁,⟨S₁,E₁,β₁,rfl,hr₁,hq⟩,harr⟩:=round x hI E β a hr b (.inLoop c::k) cs hro hb hroom
    cases e with
    | normal =>
      obtain ⟨y,ρ,hw,hI₁,hlt⟩:=hq
      obtain ⟨β₂,hr₂⟩:=hr₁.weak hw
      obtain ⟨e₂,a₂,w₂,hq₂,harr₂⟩:=ih (m y) (hn ▸ hlt) y E₁ β₂ a₁ rfl hI₁ hr₂
      exact ⟨e₂,a₂,w₂,hq₂,.of_steps (StepsIn.trans harr (.one (fenced_calm hb hroom rfl) stepR_inLoop)) harr₂⟩
    | exit id=>exact ⟨_,a₁,_,⟨S₁,E₁,β₁,rfl,hr₁,hq⟩,.pass (x:=.inLoop c) rfl (fun _ _=>.inl (by simp)) harr⟩
    | goto l=>exact ⟨_,a₁,_,⟨S₁,E₁,β₁,rfl,hr₁,hq⟩,.pass (x:=.inLoop c) rfl (fun _ _=>.inl (by simp)) harr⟩
    | ret=>exact ⟨_,a₁,_,⟨S₁,E₁,β₁,rfl,hr₁,hq⟩,.pass (x:=.inLoop c) rfl (fun _ _=>.inl (by simp)) harr⟩
    | panic ch=>exact ⟨_,a₁,_,⟨S₁,E₁,β₁,rfl,hr₁,hq⟩,.pass (x:=.inLoop c) rfl (fun _ _=>.inl (by simp)) harr⟩
    | outgrown=>exact ⟨_,a₁,_,⟨S₁,E₁,β₁,rfl,hr₁,hq⟩,.pass (x:=.inLoop c) rfl (fun _ _=>.inl (by simp)) harr⟩
 obtain ⟨β₀,hr₀⟩:=hr.weak h0
 exact key _ a0 E β₀ a rfl i0 hr₀
def aAO (l:Nat) (J:St→Prop) (Q:Exit→St→Prop):Exit→St→Prop
 | .goto l',S=>l'=l∧J S
 | e,S=>Q e S
theorem aBH {l:Nat} {J:St→Prop} (h:Q .ret S):aAO l J Q .ret S:=h
theorem fQ {b:Frame} {k:List Item} {cs:List Frame} {m:Machine} {c:Code} {e:Exit} {a:Act} {w:World} (hro:b.roundOf=(fen O.round).round) (hb:(fen O.round).fn b.fn) (hr:(fen O.round).room (cs.length+1+0)) (he:∀ l,e ≠ .goto l)
 (h:ArrivesIn (Machine.fenced P (fen O.round)) P m b (.inScope c::k) cs e a w):ArrivesIn (Machine.fenced P (fen O.round)) P m b k cs e a w:=by
 cases e with
 | normal=>exact StepsIn.trans h (.one (fenced_calm hb hr rfl) vD)
 | exit id =>
   have hx:exitTo id (.inScope c::k)=exitTo id k:=by simp [exitTo]
   exact ⟨fun k' hk=>h.1 k' (by rw [hx]; exact hk),fun hr' hk=>h.2 hr' (by rw [hx]; exact hk)⟩
 | goto l=>exact absurd rfl (he l)
 | ret=>exact h
 | panic ch=>exact h
 | outgrown=>exact h
theorem uL {α:Type} {c A:Code} (l:Nat) (st:α→St) (inv:α→Prop) (m:α→Nat) (hg:findLabel c l=some (.seq .skip A))
 (round:∀ x,inv x→IWP P O N A (st x) (aAO l (fun S'=>∃ y ρ,Weak S' (st y) ρ∧inv y∧m y<m x) Q))
 (h:(∀ S,(∃ y ρ,Weak S (st y) ρ∧inv y)→IWP P O N A S (aAO l (fun S'=>∃ y ρ,Weak S' (st y) ρ∧inv y) Q))→IWP P O N c S (aAO l (fun S'=>∃ y ρ,Weak S' (st y) ρ∧inv y) Q)):IWP P O N (.scope c) S Q:=by
 have hsk:∀ x,inv x→IWP P O N (.seq .skip A) (st x) (aAO l (fun S'=>∃ y ρ,Weak S' (st y) ρ∧inv y∧m y<m x) Q):=fun x hx=>aV (aW (round x hx))
 have hgo:∀ S,(∃ y ρ,Weak S (st y) ρ∧inv y)→IWP P O N A S (aAO l (fun S'=>∃ y ρ,Weak S' (st y) ρ∧inv y) Q):=by
  rintro S ⟨y,ρ,hw,hy⟩
  refine oM ρ hw (oN (round y hy) fun e S' hq=>?_)
  cases e with
  | goto l'=>obtain ⟨h1,z,ρ',h2,h3,_⟩:=hq; exact ⟨h1,z,ρ',h2,h3⟩
  | _=>exact hq
 intro E β a hr b k cs hro hb hroom
 have hk:gotoIn l (.inScope c::k)=some (.code (.seq .skip A) :: .inScope c::k):=by simp [gotoIn,hg]
 have key:∀ n x E β a,m x=n→inv x→Rel O N (st x) E β a →
  ∃ e a' w',(∃ S' E' β',E'.w=w'∧Rel O N S' E' β' a'∧Q e S')∧ArrivesIn (Machine.fenced P (fen O.round)) P (lone (b.atR a (.code (.seq .skip A) :: .inScope c::k)) cs E.w) b k cs e a' w':=by
  intro n
  induction n using Nat.strongRecOn with
  | _ n ih =>
    intro x E β a hn hI hr
    obtain ⟨e,a₁,w₁,⟨S₁,E₁,β₁,rfl,hr₁,hq⟩,harr⟩:=hsk x hI E β a hr b (.inScope c::k) cs hro hb hroom
    cases e with
    | goto l' =>
      obtain ⟨rfl,y,ρ,hw,hI₁,hlt⟩:=hq
      obtain ⟨β₂,hr₂⟩:=hr₁.weak hw
      obtain ⟨e₂,a₂,w₂,hq₂,harr₂⟩:=ih (m y) (hn ▸ hlt) y E₁ β₂ a₁ rfl hI₁ hr₂
      exact ⟨e₂,a₂,w₂,hq₂,.of_steps (harr.1 _ hk) harr₂⟩
    | normal=>exact ⟨_,a₁,_,⟨S₁,E₁,β₁,rfl,hr₁,hq⟩,fQ hro hb hroom (fun _ h=>by cases h) harr⟩
    | exit id=>exact ⟨_,a₁,_,⟨S₁,E₁,β₁,rfl,hr₁,hq⟩,fQ hro hb hroom (fun _ h=>by cases h) harr⟩
    | ret=>exact ⟨_,a₁,_,⟨S₁,E₁,β₁,rfl,hr₁,hq⟩,fQ (c:=c) hro hb hroom (fun _ h=>by cases h) harr⟩
    | panic ch=>exact ⟨_,a₁,_,⟨S₁,E₁,β₁,rfl,hr₁,hq⟩,fQ (c:=c) hro hb hroom (fun _ h=>by cases h) harr⟩
    | outgrown=>exact ⟨_,a₁,_,⟨S₁,E₁,β₁,rfl,hr₁,hq⟩,fQ (c:=c) hro hb hroom (fun _ h=>by cases h) harr⟩
 obtain ⟨e,a₁,w₁,⟨S₁,E₁,β₁,rfl,hr₁,hq⟩,harr⟩:=h hgo E β a hr b (.inScope c::k) cs hro hb hroom
 have hst:StepsIn (Machine.fenced P (fen O.round)) P (lone (b.atR a (.code (.scope c)::k)) cs E.w) (lone (b.atR a (.code c :: .inScope c::k)) cs E.w):=.one (fenced_calm hb hroom rfl) xL
 cases e with
 | goto l' =>
   obtain ⟨rfl,y,ρ,hw,hI₁⟩:=hq
   obtain ⟨β₂,hr₂⟩:=hr₁.weak hw
   obtain ⟨e₂,a₂,w₂,hq₂,harr₂⟩:=key (m y) y E₁ β₂ a₁ rfl hI₁ hr₂
   exact ⟨e₂,a₂,w₂,hq₂,.of_steps hst (.of_steps (harr.1 _ hk) harr₂)⟩
 | normal=>exact ⟨_,a₁,_,⟨S₁,E₁,β₁,rfl,hr₁,hq⟩,.of_steps hst (fQ hro hb hroom (fun _ h=>by cases h) harr)⟩
 | exit id=>exact ⟨_,a₁,_,⟨S₁,E₁,β₁,rfl,hr₁,hq⟩,.of_steps hst (fQ hro hb hroom (fun _ h=>by cases h) harr)⟩
 | ret=>exact ⟨_,a₁,_,⟨S₁,E₁,β₁,rfl,hr₁,hq⟩,.of_steps hst (fQ (c:=c) hro hb hroom (fun _ h=>by cases h) harr)⟩
 | panic ch=>exact ⟨_,a₁,_,⟨S₁,E₁,β₁,rfl,hr₁,hq⟩,.of_steps hst (fQ (c:=c) hro hb hroom (fun _ h=>by cases h) harr)⟩
 | outgrown=>exact ⟨_,a₁,_,⟨S₁,E₁,β₁,rfl,hr₁,hq⟩,.of_steps hst (fQ (c:=c) hro hb hroom (fun _ h=>by cases h) harr)⟩
end
end Go.IL
namespace Go.IL
def mixD {α:Type} (f:Enc0 α) (pre:List D) (xs:List α) (post:List D):List D:=pre++(D.flat (xs.map f.d)++post)
section
variable {P:Program} {O:bK} {N:Nat} {S S':St} {o:Oper} {t:Nat} {α:Type}
theorem rN (f:Enc0 α) (pre:List D) (xs:List α) (post:List D):(mixD f pre xs post).length=pre.length+(xs.length*f.sz+post.length):=by
 unfold mixD
 rw [List.length_append,List.length_append,f.flat_len]
theorem aAr (f:Enc0 α) {pre:List D} (xs:List α) (post:List D) {off:Nat} (h:off≤pre.length):(mixD f pre xs post).drop off=pre.drop off++(D.flat (xs.map f.d)++post):=by
 unfold mixD
 rw [List.drop_append_of_le_length h]
theorem aBm (f:Enc0 α) (pre:List D) {xs:List α} {post:List D} {n off k:Nat} (hl:xs.length=n) (ho:off=pre.length+n*f.sz+k):(mixD f pre xs post).drop off=post.drop k:=by
 unfold mixD
 have h1:=f.flat_len xs
 rw [hl] at h1
 rw [ho,Nat.add_assoc,List.drop_append,List.drop_of_length_le (by omega),List.nil_append,show pre.length+(n*f.sz+k)-pre.length=n*f.sz+k by omega,List.drop_append,List.drop_of_length_le (by omega),List.nil_append,show n*f.sz+k-(D.flat (xs.map f.d)).length=k by omega]
theorem aAs (f:Enc0 α) {pre:List D} {xs:List α} {post:List D} {b i k:Nat} {a:α} (hb:pre.length=b) (ha:xs[i]? = some a) (hk:k≤f.sz):∃ q,(mixD f pre xs post).drop (b+(i*f.sz+k))=(f.d a).cells.drop k++q:=by
 obtain ⟨q,hq⟩:=f.drop_at ha k hk
 have hlt:=(List.getElem?_eq_some_iff.1 ha).1
 have hle:(i+1)*f.sz≤xs.length*f.sz:=Nat.mul_le_mul_right _ (by omega)
 rw [Nat.add_mul,Nat.one_mul] at hle
 refine ⟨q++post,?_⟩
 unfold mixD
 rw [List.drop_append,List.drop_of_length_le (by omega),List.nil_append,show b+(i*f.sz+k)-pre.length=i*f.sz+k by omega,List.drop_append_of_le_length (by rw [f.flat_len]; omega),hq,List.append_assoc]
theorem aAt {f:Enc0 α} {pre post:List D} {xs:List α} {a:α} {b i k size:Nat} (hb:pre.length=b) (ha:xs[i]? = some a) (hn:k+size≤f.sz):b+(i*f.sz+k)+size≤(mixD f pre xs post).length:=by
 have hlt:=(List.getElem?_eq_some_iff.1 ha).1
 have hle:(i+1)*f.sz≤xs.length*f.sz:=Nat.mul_le_mul_right _ (by omega)
 rw [Nat.add_mul,Nat.one_mul] at hle
 rw [rN]; omega
section loads
variable (f:Enc0 α) {T:TypeId} {x:Operand} {u:TypeDesc} {z:Option Value} {size bytes:Nat} {id off:Nat} {e:TypeId} {pre post r cs:List D} {xs:List α} {d:D}
theorem tQ (ho:o.op = .load T x) (hd:o.dst=some t) (ht:t<N) (hu:P.underlying T=some u) (hg:iO P T=false) (hi:TI P T z size bytes) (h1:0<size) (hx:SV S x (.ref id off)) (he:S.ent id = .blk e (mixD f pre xs post)) (hn:off+size≤pre.length)
 (hdd:pre.drop off=d::r):IOp P O N o S (S.set t d) :=
 aM ho hd ht hu hg hi h1 hx he (by rw [rN]; omega) (r:=r++(D.flat (xs.map f.d)++post)) (by rw [aAr f xs post (by omega),hdd]; rfl)
theorem nB (ho:o.op = .load T x) (hd:o.dst=some t) (ht:t<N) (hu:P.underlying T=some u) (hg:iO P T=true) (hi:TI P T z size bytes) (h1:0<size) (hx:SV S x (.ref id off)) (he:S.ent id = .blk e (mixD f pre xs post)) (hn:off+size≤pre.length)
 (hdd:(pre.drop off).take size=cs):IOp P O N o S (S.set t (.agg cs)) :=
 bU ho hd ht hu hg hi h1 hx he (by rw [rN]; omega) (by rw [aAr f xs post (by omega),List.take_append_of_le_length (by rw [List.length_drop]; omega)]; exact hdd)
theorem iF {n k:Nat} (ho:o.op = .load T x) (hd:o.dst=some t) (ht:t<N) (hu:P.underlying T=some u) (hg:iO P T=false) (hi:TI P T z size bytes) (h1:0<size) (hx:SV S x (.ref id off)) (he:S.ent id = .blk e (mixD f pre xs post)) (hl:xs.length=n)
 (hof:off=pre.length+n*f.sz+k) (hn:k+size≤post.length) (hdd:post.drop k=d::r):IOp P O N o S (S.set t d) :=
 aM ho hd ht hu hg hi h1 hx he (by rw [rN,hl]; omega) (by rw [aBm f pre hl hof]; exact hdd)
theorem bZ {b i k:Nat} {a:α} (ho:o.op = .load T x) (hd:o.dst=some t) (ht:t<N) (hu:P.underlying T=some u) (hg:iO P T=false) (hi:TI P T z size bytes) (h1:0<size) (hx:SV S x (.ref id (b+(i*f.sz+k)))) (he:S.ent id = .blk e (mixD f pre xs post)) (hb:pre.length=b)
 (ha:xs[i]? = some a) (hn:k+size≤f.sz) (hdd:(f.d a).cells.drop k=d::r):IOp P O N o S (S.set t d):=by
 obtain ⟨q,hq⟩:=aAs (post:=post) f hb ha (show k≤f.sz by omega)
 exact aM ho hd ht hu hg hi h1 hx he (aAt hb ha hn) (r:=r++q) (by rw [hq,hdd]; rfl)
theorem yA {b i k:Nat} {a:α} (ho:o.op = .load T x) (hd:o.dst=some t) (ht:t<N) (hu:P.underlying T=some u) (hg:iO P T=true) (hi:TI P T z size bytes) (h1:0<size) (hx:SV S x (.ref id (b+(i*f.sz+k)))) (he:S.ent id = .blk e (mixD f pre xs post)) (hb:pre.length=b)
 (ha:xs[i]? = some a) (hn:k+size≤f.sz) (hdd:((f.d a).cells.drop k).take size=cs):IOp P O N o S (S.set t (.agg cs)):=by
 obtain ⟨q,hq⟩:=aAs (post:=post) f hb ha (show k≤f.sz by omega)
 exact bU ho hd ht hu hg hi h1 hx he (aAt hb ha hn) (by rw [hq,List.take_append_of_le_length (by rw [List.length_drop,(f.fl a).1]; omega)]; exact hdd)
end loads
theorem sT {A Z C:List D} {off:Nat} (h:off+C.length≤A.length):eR (A++Z) off C=eR A off C++Z:=by
 unfold eR
 rw [List.take_append_of_le_length (by omega),List.drop_append_of_le_length (by omega)]; simp
theorem oT {A Z C:List D} {off k:Nat} (h:off=A.length+k):eR (A++Z) off C=A++eR Z k C:=by
 unfold eR
 rw [h,List.take_append,List.take_of_length_le (by omega),show A.length+k-A.length=k by omega,List.drop_append,List.drop_of_length_le (by omega),List.nil_append,show A.length+k+C.length-A.length=k+C.length by omega]; simp
section stores
variable (f:Enc0 α) {T:TypeId} {x y:Operand} {z:Option Value} {size bytes:Nat} {id off:Nat} {e:TypeId} {pre pre' post post':List D} {xs zs:List α} {d:D}
theorem rP (ho:o.op = .store T x y) (hd:o.dst=none) (hi:TI P T z size bytes) (hx:SV S x (.ref id off)) (he:S.ent id = .blk e (mixD f pre xs post)) (hy:SV S y d) (hb:d.boxable=true) (hsz:d.cells.length=size) (h1:d.cells.all D.one=true)
 (hn:off+size≤pre.length) (hds:eR pre off d.cells=pre'):IOp P O N o S (S.setE id (.blk e (mixD f pre' xs post))) :=
 bX ho hd hi hx he hy hb hsz h1 (by rw [rN]; omega) (by unfold mixD; rw [sT (by omega),hds])
theorem pI {n k:Nat} (ho:o.op = .store T x y) (hd:o.dst=none) (hi:TI P T z size bytes) (hx:SV S x (.ref id off)) (he:S.ent id = .blk e (mixD f pre xs post)) (hy:SV S y d) (hb:d.boxable=true) (hsz:d.cells.length=size) (h1:d.cells.all D.one=true)
 (hl:xs.length=n) (hof:off=pre.length+n*f.sz+k) (hn:k+size≤post.length) (hds:eR post k d.cells=post'):IOp P O N o S (S.setE id (.blk e (mixD f pre xs post'))):=by
 have hfl:=f.flat_len xs
 rw [hl] at hfl
 exact bX ho hd hi hx he hy hb hsz h1 (by rw [rN,hl]; omega) (by unfold mixD; rw [oT (A:=pre) (k:=n*f.sz+k) (by omega),oT (k:=k) (by omega),hds])
theorem iS {b i k:Nat} {a a':α} (ho:o.op = .store T x y) (hd:o.dst=none) (hi:TI P T z size bytes) (hx:SV S x (.ref id (b+(i*f.sz+k)))) (he:S.ent id = .blk e (mixD f pre xs post)) (hy:SV S y d) (hb:d.boxable=true) (hsz:d.cells.length=size) (h1:d.cells.all D.one=true)
 (hpb:pre.length=b) (ha:xs[i]? = some a) (hn:k+size≤f.sz) (hs:eR (f.d a).cells k d.cells=(f.d a').cells) (hz:xs.set i a'=zs):IOp P O N o S (S.setE id (.blk e (mixD f pre zs post))):=by
 subst hz
 have hlt:=(List.getElem?_eq_some_iff.1 ha).1
 have hle:(i+1)*f.sz≤xs.length*f.sz:=Nat.mul_le_mul_right _ (by omega)
 rw [Nat.add_mul,Nat.one_mul] at hle
 refine bX ho hd hi hx he hy hb hsz h1 (aAt hpb ha hn) ?_
 unfold mixD
 rw [oT (A:=pre) (k:=i*f.sz+k) (by omega),sT (by rw [f.flat_len]; omega),f.flat_set (by omega) ha hs]
end stores
theorem cW (f:Enc0 α) {T e:TypeId} {len b:Nat} {x y:Operand} {xs:List α} {a:α} {k:IntKind} {n:Int} {z:Option Value} {bytes:Nat} {id:Nat} (ho:o.op = .indexAddr T x y) (hd:o.dst=some t) (ht:t<N)
 (hu:P.underlying T=some (.array len e)) (hi:TI P e z f.sz bytes) (hx:SV S x (.ref id b)) (hl:xs.length=len) (hy:SV S y (.int k n)) (hn:gix xs n=some a) :
 IOp P O N o S (S.set t (.ref id (b+(n.toNat*f.sz+0)))) :=
 eG ho hd ht hu hi hx hy (qJ hn).1 (hl ▸ (List.getElem?_eq_some_iff.1 (qJ hn).2).1) (by omega)
theorem bS {T:TypeId} {x:Operand} {i:Nat} {fs:Array Field} {F:Field} {z:Option Value} {size bytes:Nat} {id b j k:Nat} (ho:o.op = .fieldAddr T x i) (hd:o.dst=some t) (ht:t<N)
 (hu:P.underlying T=some (.struct fs)) (hf:fs[i]? = some F) (hi:TI P F.type z size bytes) (hs:0<size) (hx:SV S x (.ref id (b+(j+k)))) {k':Nat} (ho':k+F.offset=k'):IOp P O N o S (S.set t (.ref id (b+(j+k')))) :=
 aH ho hd ht hu hf hi hs hx (by omega)
theorem pX {ρ:Nat→Nat}:∀ (l m:List D),D.renL ρ (l++m)=D.renL ρ l++D.renL ρ m
 | [],_=>rfl
 | d::l,m=>by rw [List.cons_append,D.renL,D.renL,pX l m]; rfl
theorem cX {ρ:Nat→Nat} (f:Enc α) (pre:List D) (xs:List α) (post:List D):D.renL ρ (mixD f.toEnc0 pre xs post)=mixD f.toEnc0 (D.renL ρ pre) xs (D.renL ρ post):=by
 unfold mixD
 rw [pX,pX,D.renL_bare _ (f.noRef xs)]
theorem vK {p:Nat→Bool} (f:Enc α) {pre:List D} {xs:List α} {post:List D} (h1:D.refsInL p pre=true) (h2:D.refsInL p post=true):D.refsInL p (mixD f.toEnc0 pre xs post)=true:=by
 unfold mixD
 exact lZ h1 (lZ (D.refsInL_mono _ (f.noRef xs)) h2)
theorem SubC.refl:∀ l:List D,SubC l l
 | []=>.nil
 | _::l=>.same (SubC.refl l)
theorem SubC.append {l l' m m':List D} (h:SubC l l') (k:SubC m m'):SubC (l++m) (l'++m'):=by
 induction h with
 | nil=>exact k
 | same _ ih=>exact .same ih
 | nilg _ ih=>exact .nilg ih
 | nilo _ ih=>exact .nilo ih
 | nils _ ih=>exact .nils ih
 | gsl _ ih=>exact .gsl ih
theorem EntW.mix {ρ:Nat→Nat} {id:Nat} {e:TypeId} (f:Enc α) {pre pre' post post':List D} {xs:List α} (h:S.ent (ρ id) = .blk e (mixD f.toEnc0 pre' xs post')) (h1:SubC pre' (D.renL ρ pre)) (h2:SubC post' (D.renL ρ post))
 (r1:D.refsInL S'.okn pre=true) (r2:D.refsInL S'.okn post=true):EntW S S' ρ id (.blk e (mixD f.toEnc0 pre xs post)) :=
 .sub h (by rw [cX]; exact h1.append ((SubC.refl _).append h2)) (vK f r1 r2)
theorem SubC.of_eq {l l':List D} (h:l=l'):SubC l l':=h ▸ SubC.refl l
theorem jA (f:Enc α) {ρ:Nat→Nat} {i:Nat} {e:TypeId} {pre pre' post post':List D} {xs:List α} (h:S.ent i = .blk e (mixD f.toEnc0 pre' xs post')) (h1:pre'=D.renL ρ pre) (h2:post'=D.renL ρ post):S.ent i=(Ent.blk e (mixD f.toEnc0 pre xs post)).ren ρ:=by
 rw [h,Ent.ren,cX,h1,h2]
theorem cP (f:Enc α) {p:Nat→Bool} {e:TypeId} {pre post:List D} {xs:List α} (h1:D.refsInL p pre=true) (h2:D.refsInL p post=true):(Ent.blk e (mixD f.toEnc0 pre xs post)).refsIn p=true:=vK f h1 h2
theorem SlW.mix {ρ:Nat→Nat} {t:Nat} (f:Enc α) {xs:List α} (h:S.get t = .agg (mixD f.toEnc0 [] xs [])):SlW S S' ρ t (.agg (mixD f.toEnc0 [] xs [])) :=
 .same (by rw [h,D.ren,cX]; rfl) (by rw [D.refsIn]; exact vK f rfl rfl)
section
variable {Q:Exit→St→Prop}
end
theorem wW {β:Type} {z:β} {j:Nat} {f:Nat→β} {rest:List (Nat×β)}:∀ {V:List (Nat×β)},(∀ x∈V,f x.1=x.2)→(j ∉ V.map (·.1)→look z j rest=f j)→look z j (V++rest)=f j
 | [],_,h=>h (by simp)
 | x::V,hV,h=>by
   obtain ⟨i,e⟩:=x
   rw [List.cons_append,aT]
   by_cases hi:i=j
   · subst hi; rw [if_pos rfl]; exact (hV (i,e) (by simp)).symm
   · rw [if_neg hi]; exact wW (fun x hx=>hV x (by simp [hx])) (fun hn=>h (by simpa [Ne.symm hi] using hn))
theorem wV {β:Type} {z:β} {j:Nat} {rest:List (Nat×β)}:∀ {V:List (Nat×β)},j ∉ V.map (·.1)→look z j (V++rest)=look z j rest
 | [],_=>rfl
 | (i,e)::V,h=>by
   rw [List.cons_append,aT,if_neg (fun hi=>h (by simp [hi]))]
   exact wV (fun hm=>h (by simp at hm ⊢; exact .inr hm))
theorem eL {f:FuncId} {xs:List Operand} {ts:Array TypeId} {ds ds':List D} {r r':D} {H0 H1 V:List (Nat×Ent)} (k:Nat) (A:List Nat) (ho:o.op = .call { callee:=.value (.func f),args:=xs.toArray,argTypes:=ts }) (hd:o.dst=some t) (ht:t<N)
 (hc:bF P f) (hx:SVs S xs ds') (hds:D.renL (sig k A) ds=ds') (hp:D.refsInL (dY A) ds=true) (hk:Nat.ble (k+0) 1000=true)
 (hh:HandM S k A H0) (hf:FnH P f ds H0 r H1) (hrr:r.ren (sig k A)=r') (hrp:r.refsIn (nE 0 A)=true) (hH1:∀ x∈H1,nE 0 A x.1=true∧x.2.refsIn (nE 0 A)=true)
 (hV:(H1.map fun x=>(sig k A x.1,x.2.ren (sig k A)))=V) (hE:∀ x∈V,S.ent x.1=x.2) (hW:(H0.map fun x=>sig k A x.1).all (fun i=>(V.map (·.1)).contains i)=true):IOp P O N o S (S.set t r'):=by
 refine (nC k 0 A ho hd ht hc hx hds hp hk (by simp) hh hf hrr hrp hH1 rfl).to fun E β a hr=>hr.same (fun s=>rfl) fun j=>?_
 show S.ent j=look (defE j) j (((H1.map fun x=>(sig k A x.1,x.2.ren (sig k A)))++(H0.map fun x=>(sig k A x.1,Ent.none)))++S.H)
 rw [hV,List.append_assoc]
 refine (wW (f:=S.ent) hE fun hn=>?_).symm
 rw [wV (fun hm=>hn ?_)]
 · rfl
 · obtain ⟨x,hx,rfl⟩:=List.mem_map.1 hm
   obtain ⟨y,hy,rfl⟩:=List.mem_map.1 hx
   have:=List.all_eq_true.1 hW (sig k A y.1) (List.mem_map.2 ⟨y,hy,rfl⟩)
   simpa using this
end
end Go.IL
namespace Go.IL
section
variable {α:Type} (k:α→Int)
def putK (x:α):List α→List α
 | []=>[x]
 | y::l=>if k x≤k y then x::y::l else y::putK x l
def nL:List α→List α
 | []=>[]
 | x::l=>putK k x (nL l)
theorem tC (x:α):∀ l:List α,(putK k x l).Perm (x::l)
 | []=>.refl _
 | y::l=>by
   unfold putK
   split
   · exact .refl _
   · exact ((tC x l).cons y).trans (.swap x y l)
theorem oO:∀ l:List α,(nL k l).Perm l
 | []=>.refl _
 | x::l=>(tC k x _).trans ((oO l).cons x)
theorem tB (x:α):∀ {l:List α},l.Pairwise (fun a b=>k a≤k b)→(putK k x l).Pairwise (fun a b=>k a≤k b)
 | [],_=>List.pairwise_singleton _ _
 | y :: l,h=>by
   obtain ⟨h1,h2⟩:=List.pairwise_cons.1 h
   unfold putK
   split
   · rename_i hx
     refine List.pairwise_cons.2 ⟨fun z hz=>?_,h⟩
     rcases List.mem_cons.1 hz with rfl | hz
     · exact hx
     · have:=h1 z hz; omega
   · rename_i hx
     refine List.pairwise_cons.2 ⟨fun z hz=>?_,tB x h2⟩
     rcases List.mem_cons.1 ((tC k x l).mem_iff.1 hz) with rfl | hz
     · omega
     · exact h1 z hz
theorem qX:∀ l:List α,(nL k l).Pairwise (fun a b=>k a≤k b)
 | []=>.nil
 | x::l=>tB k x (qX l)
theorem uP:∀ {l m:List α},l.Perm m→(∀ a∈l,∀ b∈l,k a=k b→a=b)→l.Pairwise (fun a b=>k a≤k b)→m.Pairwise (fun a b=>k a≤k b)→l=m
 | [],m,hp,_,_,_=>(List.nil_perm.1 hp).symm
 | x::l,[],hp,_,_,_=>by have:=hp.length_eq; simp at this
 | x :: l,y::m,hp,hi,h1,h2=>by
   obtain ⟨a1,a2⟩:=List.pairwise_cons.1 h1
   obtain ⟨b1,b2⟩:=List.pairwise_cons.1 h2
   have hy:y∈x::l:=hp.mem_iff.2 (by simp)
   have hx:x∈y::m:=hp.mem_iff.1 (by simp)
   have e:x=y:=by
    refine hi x (by simp) y hy ?_
    have l1:k x≤k y:=by
     rcases List.mem_cons.1 hy with e | h
     · rw [e]; exact Int.le_refl _
     · exact a1 y h
    have l2:k y≤k x:=by
     rcases List.mem_cons.1 hx with e | h
     · rw [e]; exact Int.le_refl _
     · exact b1 x h
    omega
   subst e
   rw [uP (List.Perm.cons_inv hp) (fun a ha b hb=>hi a (by simp [ha]) b (by simp [hb])) a2 b2]
theorem wZ {l m:List α} (hp:m.Perm l) (hi:∀ a∈l,∀ b∈l,k a=k b→a=b) (hs:m.Pairwise (fun a b=>k a≤k b)):nL k l=m :=
 (uP k (hp.trans (oO k l).symm) (fun a ha b hb=>hi a (hp.mem_iff.1 ha) b (hp.mem_iff.1 hb)) hs (qX k l)).symm
def aAb (good:α→Bool) (l:List α):Option (List α):=if decide (l.length<4611686018427387904)&&l.all good&&decide (l.map k).Nodup then some (nL k l) else none
end
theorem sD {α:Type} {k:α→Int}:∀ {l:List α},(l.map k).Nodup→∀ a∈l,∀ b∈l,k a=k b→a=b
 | x :: l,h,a,ha,b,hb,e=>by
   obtain ⟨h1,h2⟩:=List.nodup_cons.1 h
   rcases List.mem_cons.1 ha with g | g
   · rcases List.mem_cons.1 hb with g' | g'
     · rw [g,g']
     · exact absurd (List.mem_map.2 ⟨b,g',by rw [←e,g]⟩) h1
   · rcases List.mem_cons.1 hb with g' | g'
     · exact absurd (List.mem_map.2 ⟨a,g,by rw [e,g']⟩) h1
     · exact sD h2 a g b g' e
theorem sortK_e {α:Type} {k:α→Int} {good:α→Bool} {l r:List α} (h:aAb k good l=some r):l.length<4611686018427387904∧(∀ x∈l,good x=true)∧(l.map k).Nodup∧r=nL k l:=by
 unfold aAb at h
 split at h
 · rename_i hc
   rw [Bool.and_eq_true,Bool.and_eq_true,decide_eq_true_iff,decide_eq_true_iff] at hc
   exact ⟨hc.1.1,List.all_eq_true.1 hc.1.2,hc.2,(Option.some.inj h).symm⟩
 · cases h
def aAc (l:List Int):Option (List Int):=if l.length<4611686018427387904 then some (nL id l) else none
theorem sortI_e {l r:List Int} (h:aAc l=some r):l.length<4611686018427387904∧r=nL id l:=by
 unfold aAc at h
 split at h
 · exact ⟨by assumption,(Option.some.inj h).symm⟩
 · cases h
theorem xM (l:List Int):l.mergeSort (fun x y=>decide (x≤y))=nL id l:=by
 refine (wZ id (List.mergeSort_perm l _) (fun a _ b _ e=>e) ?_).symm
 refine (List.pairwise_mergeSort (fun a b c h1 h2=>?_) (fun a b=>?_) l).imp fun h=>of_decide_eq_true h
 · exact decide_eq_true (Int.le_trans (of_decide_eq_true h1) (of_decide_eq_true h2))
 · rw [Bool.or_eq_true,decide_eq_true_iff,decide_eq_true_iff]; omega
end Go.IL
open Go.RowKit (Below)
open Go.Sort
namespace Go.IL
def OH (E:Env) (β:bH) (H0:List (Nat×Ent)):bK:=⟨E.w,E.X,iN β H0,β,none,fun _=>[],fun _=>0,fun _=>[],fun _=>(#[],.skip,.skip),E.w.heap.size⟩
theorem rX {α:Type} [Inhabited α] (enc:α→Value) {zs zs':List α} (sp:List Value) (hl:zs'.length=zs.length):putCells enc 0 zs'.toArray (zs.map enc++sp).toArray=(zs'.map enc++sp).toArray:=by
 apply Array.ext_getElem?
 intro i
 unfold putCells
 rw [Array.getElem?_mapIdx,List.getElem?_toArray,List.getElem?_toArray]
 by_cases hi:i<zs.length
 · have hi':i<zs'.length:=by omega
   rw [List.getElem?_append_left (by simpa using hi),List.getElem?_append_left (by simpa using hi'),List.getElem?_map,List.getElem?_map,List.getElem?_eq_getElem hi,List.getElem?_eq_getElem hi']
   simp [hi']
 · rw [List.getElem?_append_right (by simp; omega),List.getElem?_append_right (by simp; omega),List.length_map,List.length_map,hl]
   cases sp[i-zs.length]? with
   | none=>rfl
   | some v =>
     simp only [Option.map_some]
     rw [if_neg (by simp; omega)]
theorem aAq (h:Array Obj) (b:Nat) (f:Obj→Obj) (o:Obj) (e:h[b]? = some o):(h.modify b f)[b]? = some (f o):=by
 rw [Array.getElem?_modify,if_pos rfl,e]; rfl
theorem wT (h:Array Obj) {b k:Nat} (f:Obj→Obj) (hk:k≠b):(h.modify b f)[k]? = h[k]?:=by
 rw [Array.getElem?_modify,if_neg (Ne.symm hk)]
theorem aAf {E:Env} {β:bH} {e:TypeId} {ds ds':List D} {b n:Nat} {vs sp vs':List Value} {g:Array Value→Array Value} (os:Array Obj)
 (hok:HOk (OH E β [(1000,.blk e ds)]) E β (entL [(1000,.blk e ds)])) (hb:β 1000=some b) (hh:E.w.heap[b]? = some (.cells (List.toArray (vs++sp)) e (0,0))) (hX:∀ o,E.X b o)
 (hg:g (List.toArray (vs++sp))=List.toArray (vs'++sp)) (hl:vs'.length=vs.length) (hv:∀ E',RdL E' β vs' ds') :
 HOk (OH E β [(1000,.blk e ds)]) ⟨grow (mapBlock (Sort.ahead E.w n) b g) os,E.X⟩ β (entL [(1000,.blk e ds')]):=by
 have hlt:=cK hh
 have hown:(OH E β [(1000,.blk e ds)]).own b:=hok.own (j:=1000) rfl hb
 let E1:Env:=⟨mapBlock (Sort.ahead E.w n) b g,E.X⟩
 have hat:E1.w.heap[b]? = some (.cells (List.toArray (vs'++sp)) e (0,0)):=by
  show (E.w.heap.modify b (onCells g))[b]? = _
  rw [aAq _ _ _ _ hh]
  show some (Obj.cells (g _) e (0,0))=_
  rw [hg]
 have hs:Step (OH E β [(1000,.blk e ds)]) E E1 b:=⟨rfl,rfl,rfl,by show E.w.heap.size≤(E.w.heap.modify b (onCells g)).size; rw [Array.size_modify]; exact Nat.le_refl _,by show b<(E.w.heap.modify b (onCells g)).size; rw [Array.size_modify]; exact hlt,hown,fun k _ hk=>wT _ _ hk,fun _ _ _=>Iff.rfl,fun _ h=>by rw [hh] at h; cases h⟩
 have hle:E.le E1:=hs.le (fun o v _ h2=>absurd (hX o) h2) (fun c e' f h3=>by
  rw [hh] at h3; cases h3
  exact ⟨_,_,hat,by simp [hl]⟩)
 have hput:HOk (OH E β [(1000,.blk e ds)]) E1 β (entL [(1000,.blk e ds')]):=by
  refine HOk.put hok hs hle (bH.le.refl _) (id:=1000) ?_ ?_ hb ?_ (fun _ _=>trivial)
  · intro j hj; left; exact ⟨by simp [entL,aT,Ne.symm hj],rfl⟩
  · intro j hj hheld hbj
    have:(entL [(1000,Ent.blk e ds)] j).held=true:=by simpa [entL,aT,Ne.symm hj] using hheld
    exact hj (hok.inj j 1000 b this rfl hbj hb)
  · exact ⟨_,sp,hat,hX,hv _⟩
 exact hput.below ⟨rfl,rfl,rfl,by show E1.w.heap.size≤(E1.w.heap++os).size; rw [Array.size_append]; omega,fun k hk=>by
  show (E1.w.heap++os)[k]? = _
  rw [Array.getElem?_append_left hk]⟩
theorem yQ {E:Env} {β:bH}:Rd E β (.tuple #[]) (retD []):=.tuple _ [] [] (.nil _)
theorem aBN {P:Program} {f:FuncId} {e:TypeId} {n sz:Nat} {ds ds' ar:List D} (us:List Value) (has:∀ E β xs,RdL E β xs ar→xs=us)
 (hnil:n=0→ds'=ds∧∀ (p:Option Addr) (cap:Nat) (w:World),Calls P f ((.slice p 0 cap)::us).toArray w fun e w'=>e = .returned (.tuple #[])∧Below w.heap.size w w')
 (hrow:∀ (E:Env) (β:bH) (b cap:Nat) (vs sp:List Value) ,RdL E β vs ds→E.good→E.w.heap[b]? = some (.cells (List.toArray (vs++sp)) e (0,0)) →
   Calls P f ((.slice (some ⟨b,0,none⟩) n cap)::us).toArray E.w fun e w'=>e = .returned (.tuple #[])∧∃ g k os vs',w'=grow (mapBlock (Sort.ahead E.w k) b g) os∧g (List.toArray (vs++sp))=List.toArray (vs'++sp)∧vs'.length=vs.length∧∀ E' β',RdL E' β' vs' ds') :
 FnH P f (.osl 1000 sz n::ar) [(1000,.blk e ds)] (retD []) [(1000,.blk e ds')]:=by
 intro E β xs hX hβ hok hvs
 cases hvs with
 | cons h1 h2 =>
   obtain rfl:=has _ _ _ h2
   cases h1 with
   | nosl =>
     obtain ⟨e1,h3⟩:=hnil rfl
     subst e1
     refine (h3 none 0 E.w).mono ?_
     rintro e' w' ⟨rfl,hb⟩
     exact ⟨_,rfl,⟨w',E.X⟩,β,rfl,hok.below hb,yQ⟩
   | osl _ _ b _ cap _ hb hc hsz c e' fz hcap hcs hcm =>
     have hent:=hok.ent 1000
     obtain ⟨vs,sp,g1,g2,g3,g4⟩:=mR (show kX (OH E β [(1000,.blk e ds)]) E β 1000 (.blk e ds) from hent) hb
     refine (hrow E β b cap vs sp g4 hX g2).mono ?_
     rintro e'' w' ⟨rfl,g,k,os,vs',rfl,k1,k2,k3⟩
     exact ⟨_,rfl,⟨_,E.X⟩,β,rfl,aAf os hok hb g2 g3 k1 k2 (fun E'=>k3 E' β),yQ⟩
theorem yS {E:Env} {β:bH} {k:IntKind}:∀ {l:List Int} {vs:List Value},RdL E β vs (D.flat (l.map (eInt k).d))→vs=l.map (Value.int k)
 | [],vs,h=>by cases h; rfl
 | x :: l,vs,h=>by
   have h:RdL E β vs (.int k x::D.flat (l.map (eInt k).d)):=h
   cases h with
   | cons h1 h2 =>
     rw [yS h2,fZ h1]; rfl
theorem zH (E:Env) (β:bH) (k:IntKind):∀ (l:List Int),RdL E β (l.map (Value.int k)) (D.flat (l.map (eInt k).d))
 | []=>.nil _
 | x::l=>.cons (.int _ _ _) (zH E β k l)
theorem aAN {w:World} {b:Nat} {e:TypeId} {zs:List Int} {sp:List Value} (hh:w.heap[b]? = some (.cells (List.toArray (zs.map (Value.int .i64)++sp)) e (0,0))):Holds (Value.int .i64) w b 0 zs.toArray:=fun j hj=>by
 have hj:j<zs.length:=by simpa using hj
 refine ⟨?_,by simp [World.frozen?,hh]⟩
 simp only [World.cell?,hh,Nat.zero_add,Option.isSome_none,Bool.false_eq_true,if_false,List.getElem?_toArray]
 rw [List.getElem?_append_left (by simpa using hj),List.getElem?_map,List.getElem?_eq_getElem hj]
 simp [hj]
theorem aBL {P:Program} {ρ:Shelf.Ren} (L:Proofs.Lays.n189 P ρ) {e:TypeId} (a0:List Int) (r:List Int) (h:aAc a0=some r) :
 FnH P (ρ.f 189) [.osl 1000 (eInt .i64).sz a0.length] [(1000,.blk e (D.flat (a0.map (eInt .i64).d)))] (retD []) [(1000,.blk e (D.flat (r.map (eInt .i64).d)))]:=by
 obtain ⟨h1,rfl⟩:=sortI_e h
 refine aBN [] (fun E β xs h=>by cases h; rfl) (fun h0=>?_) (fun E β b cap vs sp hv _ hh=>?_)
 · obtain rfl:=List.length_eq_zero_iff.1 h0
   refine ⟨rfl,fun p cap w=>(Proofs.Any.slices_Sort_int_none L p cap w).mono ?_⟩
   rintro e w' h
   exact ⟨h.1,by rw [h.2]; exact Below.refl _ _⟩
 · obtain rfl:=yS hv
   refine (Proofs.Any.slices_Sort_int L b 0 cap a0 E.w (aAN hh) (cK hh) h1).mono ?_
   rintro e w' ⟨rfl,n,os,rfl⟩
   rw [xM]
   have hl:=(oO id a0).length_eq
   exact ⟨rfl,_,n,os,(nL id a0).map (Value.int .i64),rfl,rX _ sp hl,by simp [hl],fun E' β'=>zH E' β' _ _⟩
theorem wL {E:Env} {β:bH}:∀ {d1 d2:List D} {vs:List Value},RdL E β vs (d1++d2)→∃ v1 v2,vs=v1++v2∧RdL E β v1 d1∧RdL E β v2 d2
 | [],d2,vs,h=>⟨[],vs,rfl,.nil _,h⟩
 | d :: d1,d2,vs,h=>by
   cases h with
   | cons h1 h2 =>
     obtain ⟨v1,v2,rfl,h3,h4⟩:=wL h2
     exact ⟨_::v1,v2,rfl,.cons h1 h3,h4⟩
theorem yT {T:Type} {f:Enc T} {enc:T→List Value} (hrd:∀ E β x vs,RdL E β vs (f.d x).cells→vs=enc x) {E:Env} {β:bH}:∀ {l:List T} {vs:List Value},RdL E β vs (D.flat (l.map f.d))→vs=l.flatMap enc
 | [],vs,h=>by cases h; rfl
 | x::l,vs,h=>by
   obtain ⟨v1,v2,rfl,h1,h2⟩:=wL (show RdL E β vs ((f.d x).cells++D.flat (l.map f.d)) from h)
   rw [hrd E β x v1 h1,yT hrd h2]; rfl
theorem zL {T:Type} {f:Enc T} {enc:T→List Value} (hrd':∀ E β x,RdL E β (enc x) (f.d x).cells) (E:Env) (β:bH):∀ l:List T,RdL E β (l.flatMap enc) (D.flat (l.map f.d))
 | []=>.nil _
 | x::l=>(hrd' E β x).append (zL hrd' E β l)
theorem zK {α:Type} [Inhabited α] {enc:α→List Value} {k:Nat} (hk:∀ x,(enc x).length=k) (h0:0<k):∀ (l:List α) (t:Nat),t<l.length*k→(l.flatMap enc)[t]! = (enc l[t / k]!)[t % k]!
 | [],t,h=>by simp at h
 | x :: l,t,h=>by
   rw [List.flatMap_cons]
   by_cases ht:t<k
   · rw [Nat.div_eq_of_lt ht,Nat.mod_eq_of_lt ht,getElem!_pos _ t (by rw [List.length_append,hk]; omega),List.getElem_append_left (by rw [hk]; exact ht)]
     rw [show (x::l)[0]! = x from rfl,getElem!_pos (enc x) t (by rw [hk]; exact ht)]
   · have h2:t-k<l.length*k:=by rw [List.length_cons,Nat.add_mul,Nat.one_mul] at h; omega
     have hfl:(l.flatMap enc).length=l.length*k:=by
      rw [List.length_flatMap,List.map_congr_left (fun x _=>hk x),List.map_const',List.sum_replicate_nat]
     have ih:=zK hk h0 l (t-k) h2
     rw [getElem!_pos _ (t-k) (by rw [hfl]; exact h2)] at ih
     rw [getElem!_pos _ t (by rw [List.length_append,hk,hfl]; omega),List.getElem_append_right (by rw [hk]; omega)]
     simp only [hk]
     have e1:t / k=(t-k) / k+1:=Nat.div_eq_sub_div h0 (Nat.le_of_not_lt ht)
     have e2:t % k=(t-k) % k:=Nat.mod_eq_sub_mod (Nat.le_of_not_lt ht)
     rw [ih,e1,e2]
     rfl
theorem uY {α:Type} [Inhabited α] {enc:α→List Value} {k:Nat} (hk:∀ x,(enc x).length=k) (h0:0<k) (l:List α):flatK enc k l.toArray=(l.flatMap enc).toArray:=by
 have hfl:(l.flatMap enc).length=l.length*k:=by
  rw [List.length_flatMap,List.map_congr_left (fun x _=>hk x),List.map_const',List.sum_replicate_nat]
 refine ext_get! (by simp [hfl]) fun t ht=>?_
 have ht:t<l.length*k:=by simpa using ht
 rw [get_flatK _ _ _ _ (by simpa using ht)]
 have:=zK hk h0 l t ht
 have e1:(l.flatMap enc).toArray[t]! = (l.flatMap enc)[t]!:=by simp
 have e2:l.toArray[t / k]! = l[t / k]!:=by simp
 rw [e1,this,e2]
theorem aBM {P:Program} {ρ:Shelf.Ren} (L:Proofs.SlLaysF0.n6 P ρ) {T:Type} [Inhabited T] (f:Enc T) (enc:T→List Value) (key:T→Int) (good:T→Bool) (hgd:good default=true)
 (aE:∀ w,(isAgg (ρ.t 24)).run P w = .ok true w) (zE:∀ w,(Go.sizeOf (ρ.t 24)).run P w = .ok f.sz w) (hk:∀ x,(enc x).length=f.sz) (h1:∀ x,∀ v∈enc x,v.oneCell'=true)
 (hrd:∀ E β x vs,RdL E β vs (f.d x).cells→vs=enc x) (hrd':∀ E β x,RdL E β (enc x) (f.d x).cells) {g:Nat} (eg:∀ args w,(callFunc g args).run P w = .ok (.enter g args) w)
 (hcmp:∀ (x y:T) (W:World),good x=true→good y=true→Calls P g #[.agg (enc x).toArray,.agg (enc y).toArray] W fun e w'=>e = .returned (.int .i64 (key x-key y))∧∃ q os',w'=grow (W.drewN q) os')
 {e:TypeId} (a0 r:List T) (h:aAb key good a0=some r) :
 FnH P (ρ.f 6) [.osl 1000 f.sz a0.length,.fn g []] [(1000,.blk e (D.flat (a0.map f.d)))] (retD []) [(1000,.blk e (D.flat (r.map f.d)))]:=by
 obtain ⟨hlen,hg,hnd,rfl⟩:=sortK_e h
 refine aBN [.func (.func g) #[] #[]] (fun E β xs h=>?_) (fun h0=>?_) (fun E β b cap vs sp hv _ hh=>?_)
 · cases h with
   | cons h2 h3 =>
     cases h3
     obtain ⟨us,rfl,h4⟩:=zX h2
     cases h4; rfl
 · obtain rfl:=List.length_eq_zero_iff.1 h0
   refine ⟨rfl,fun p cap w=>(Proofs.AnyF.slices_SortFunc_none L p cap _ w).mono ?_⟩
   rintro e w' h
   exact ⟨h.1,by rw [h.2]; exact Below.refl _ _⟩
 · obtain rfl:=yT hrd hv
   let α:={ x:T // good x=true }
   letI:Inhabited α:=⟨⟨default,hgd⟩⟩
   let enc':α→List Value:=fun x=>enc x.1
   let cf:α→α→Int:=fun x y=>key x.1-key y.1
   let l:List α:=a0.attachWith (fun x=>good x=true) hg
   have hk':∀ x:α,(enc' x).length=f.sz:=fun x=>hk x.1
   have hfm:∀ m:List α,m.flatMap enc'=(m.map (·.1)).flatMap enc:=fun m=>by rw [List.flatMap_map]
   have hval:l.map (·.1)=a0:=by
    show (a0.attachWith _ hg).map (fun i=>id i.1)=_
    rw [List.attachWith_map_val]; exact List.map_id _
   have hll:l.toArray.size=a0.length:=by
    rw [List.size_toArray,←hval,List.length_map]
   have hO:SWO (Proofs.ltOf cf):={
    irrefl:=fun x=>by show decide (key x.1-key x.1<0)=false; exact decide_eq_false (by omega)
    trans:=fun x y z h1 h2=>by
     have h1:=of_decide_eq_true (show decide (key x.1-key y.1<0)=true from h1)
     have h2:=of_decide_eq_true (show decide (key y.1-key z.1<0)=true from h2)
     show decide (key x.1-key z.1<0)=true
     exact decide_eq_true (by omega)
    ntrans:=fun x y z h1 h2=>by
     have h1:=of_decide_eq_false (show decide (key x.1-key y.1<0)=false from h1)
     have h2:=of_decide_eq_false (show decide (key y.1-key z.1<0)=false from h2)
     show decide (key x.1-key z.1<0)=false
     exact decide_eq_false (by omega) }
   have hH:HoldsK enc' f.sz E.w b 0 l.toArray:=by
    unfold HoldsK
    rw [uY hk' f.pos,hfm,hval]
    intro j hj
    have hj:j<(a0.flatMap enc).length:=by simpa using hj
    refine ⟨?_,by simp [World.frozen?,hh]⟩
    simp only [World.cell?,hh,Nat.zero_add,Option.isSome_none,Bool.false_eq_true,if_false,List.getElem?_toArray]
    rw [List.getElem?_append_left hj]
    simp [List.getElem?_eq_getElem hj]
   have hC:=Proofs.AnyQ.slices_SortFunc L f.sz aE zE enc' hk' (fun x=>h1 x.1) cf hO g #[] b 0 cap l.toArray E.w eg (fun m os dk _ x y=>hcmp x.1 y.1 _ x.2 y.2) hH (cK hh) (by rw [hll]; exact hlen)
   rw [hll] at hC
   refine hC.mono ?_
   rintro e' w' ⟨rfl,d',n,os,hp,hs,rfl⟩
   have hsz:d'.size=a0.length:=hp.1.trans hll
   have hperm:(d'.toList.map (·.1)).Perm a0:=by
    have:=hp.2.2
    rw [Array.extract_eq_self_of_le (by rw [hsz]; exact Nat.le_refl _),Array.extract_eq_self_of_le (by rw [hll]; exact Nat.le_refl _)] at this
    have:=this.map (·.1)
    rwa [show l.toArray.toList=l from rfl,hval] at this
   have hsort:(d'.toList.map (·.1)).Pairwise (fun a b=>key a≤key b):=by
    rw [List.pairwise_map,List.pairwise_iff_getElem]
    intro i j hi hj hij
    have hj':j<d'.size:=by simpa using hj
    have h9:=hs i j (Nat.zero_le _) hij (by rw [←hsz]; exact hj')
    have h9:=of_decide_eq_false (show decide (key (d'[j]!).1-key (d'[i]!).1<0)=false from h9)
    rw [getElem!_pos d' j hj',getElem!_pos d' i (by omega)] at h9
    show key (d'.toList[i]).1≤key (d'.toList[j]).1
    rw [Array.getElem_toList,Array.getElem_toList]
    omega
   have hr:nL key a0=d'.toList.map (·.1):=wZ key hperm (sD hnd) hsort
   have hl:((nL key a0).flatMap enc).length=(a0.flatMap enc).length:=((oO key a0).flatMap_right enc).length_eq
   refine ⟨rfl,_,n,os,(nL key a0).flatMap enc,rfl,?_,hl,fun E' β'=>zL hrd' E' β' _⟩
   have e1:flatK enc' f.sz d'=((nL key a0).flatMap enc).toArray:=by
    rw [hr,←hfm,←uY hk' f.pos]
   rw [e1]
   have:=rX id sp hl
   rw [List.map_id,List.map_id] at this
   exact this
end Go.IL
namespace Go.IL
open RowKit (Below)
section
variable {P:Program} {O:bK} {N:Nat} {S S':St} {o:Oper} {t:Nat}
theorem SubL.app {a b a' b':List D} (h:SubL a a') (k:SubL b b'):SubL (a++b) (a'++b'):=by
 induction a generalizing a' with
 | nil=>cases h; exact k
 | cons d a ih=>cases h with | cons h1 h2=>exact .cons h1 (ih h2)
end
end Go.IL
namespace Go.IL
open RowKit (Below)
open Go.MapKept
def mput {V:Type}:List (Int×V)→Int→V→List (Int×V)
 | [],k,v=>[(k,v)]
 | (j,w)::r,k,v=>if j=k then (k,v)::r else (j,w)::mput r k v
def mget {V:Type}:List (Int×V)→Int→Option V
 | [],_=>none
 | (j,w)::r,k=>if j=k then some w else mget r k
def mapD {V:Type} (f:V→D) (l:List (Int×V)):List (Int×D):=l.map fun x=>(x.1,f x.2)
theorem aCB {V:Type} (f:V→D) (k:Int) (v:V):∀ l:List (Int×V),mapD f (mput l k v)=mput (mapD f l) k (f v)
 | []=>rfl
 | (j,w)::r=>by
   unfold mput
   by_cases h:j=k
   · rw [if_pos h]; show _=mput ((j,f w)::mapD f r) k (f v); rw [mput,if_pos h]; rfl
   · rw [if_neg h]; show _=mput ((j,f w)::mapD f r) k (f v); rw [mput,if_neg h,←aCB f k v r]; rfl
theorem wU {V:Type} (f:V→D) (k:Int):∀ l:List (Int×V),mget (mapD f l) k=(mget l k).map f
 | []=>rfl
 | (j,w)::r=>by
   show mget ((j,f w)::mapD f r) k=_
   rw [mget,mget]
   by_cases h:j=k
   · rw [if_pos h,if_pos h]; rfl
   · rw [if_neg h,if_neg h,wU f k r]
def kI64 (n:Int):Value:=.int .i64 n
theorem vG (k j:Int):Instr.sameNow (.int .i64) (kI64 k) (kI64 j)=some (k == j):=by simp [Instr.sameNow,kI64]
theorem rB {E:Env} {β:bH} {k:Int} {v:Value} {d:D} (hv:Rd E β v d):∀ (es:List MapEntry) (l:List (Int×D)) (i:Nat),es.map (·.key)=l.map (fun x=>kI64 x.1)→RdL E β (es.map (·.val)) (l.map (·.2)) →
 (Instr.findNow (.int .i64) (kI64 k) es i=some none∧mget l k=none∧mput l k d=l++[(k,d)]) ∨
 ∃ j e x,Instr.findNow (.int .i64) (kI64 k) es i=some (some (i+j,e.val))∧es[j]? = some e∧e.key=kI64 k∧mget l k=some x∧Rd E β e.val x ∧
   (es.modify j fun e=>{ e with key:=kI64 k,val:=v }).map (·.key)=(mput l k d).map (fun x=>kI64 x.1)∧RdL E β ((es.modify j fun e=>{ e with key:=kI64 k,val:=v }).map (·.val)) ((mput l k d).map (·.2))
 | [],[],_,_,_=>.inl ⟨rfl,rfl,rfl⟩
 | [],_::_,_,h,_=>by cases h
 | _::_,[],_,h,_=>by cases h
 | e :: es,(j,x)::l,i,h,hr=>by
   simp only [List.map_cons,List.cons.injEq] at h
   obtain ⟨h1,h2⟩:=h
   simp only [List.map_cons] at hr
   cases hr with
   | cons hx hr =>
     by_cases hk:j=k
     · refine .inr ⟨0,e,x,?_,rfl,by rw [h1,hk],by rw [mget,if_pos hk],hx,?_,?_⟩
       · unfold Instr.findNow
         rw [h1,vG,hk]; simp
       · rw [mput,if_pos hk]
         simp [h2]
       · rw [mput,if_pos hk]
         simpa using RdL.cons hv hr
     · have hkb:(k == j)=false:=by simpa using fun e=>hk e.symm
       rcases rB hv es l (i+1) h2 hr with ⟨g1,g2,g3⟩ | ⟨m,e',x',g1,g2,g3,g4,g5,g6,g7⟩
       · refine .inl ⟨?_,by rw [mget,if_neg hk,g2],by rw [mput,if_neg hk,g3]; rfl⟩
         unfold Instr.findNow
         rw [h1,vG,hkb]; exact g1
       · refine .inr ⟨m+1,e',x',?_,by simpa using g2,g3,by rw [mget,if_neg hk,g4],g5,?_,?_⟩
         · unfold Instr.findNow
           rw [h1,vG,hkb]
           show Instr.findNow _ _ es (i+1)=_
           rw [g1]; congr 3; omega
         · rw [mput,if_neg hk]
           simp only [List.modify_succ_cons,List.map_cons,h1,g6]
         · rw [mput,if_neg hk]
           simp only [List.modify_succ_cons,List.map_cons]
           exact .cons hx g7
section
variable {P:Program} {O:bK} {N:Nat} {S S':St} {o:Oper} {t:Nat}
def Ent.mpD (l:List (Int×D)):Ent:=.mp (l.map (·.1)) (l.map (·.2))
theorem tP {T:TypeId} (id:Nat) (ho:o.op = .makeMap T none) (hd:o.dst=some t) (ht:t<N) (hf:S.ent id = .fresh):IOp P O N o S ((S.setE id (.mpD [])).set t (.mref id)):=by
 intro E β a hr next Q hn
 have hrun:(execOp a.eval o).run P E.w = .ok (.value (.map (some E.w.heap.size))) (E.w.alloc (.map #[] 0)):=by
  simp [execOp,ho,Instr.makeMap,Sem.run_bind,Sem.run_pure]
 unfold Oper.wp
 rw [hrun]
 simp only [Oper.upon,hd]
 have hfr:β id=none:=by have:=hr.h.ent id; rw [hf] at this; exact this
 let E':Env:=⟨E.w.alloc (.map #[] 0),fun b o=>b=E.w.heap.size∨E.X b o⟩
 let β':bH:=fun j=>if j=id then some E.w.heap.size else β j
 have hβ:β.le β':=fun j b hj=>by
  by_cases hji:j=id
  · subst hji; rw [hfr] at hj; cases hj
  · simp [β',hji,hj]
 have hs:Step O E E' E.w.heap.size :=
  ⟨rfl,rfl,rfl,by simp [E'],by simp [E'],.inl hr.h.size,fun k hk _=>heap_alloc_old _ _ hk,fun k o hk=>by simp [E',hk],fun _ h=>Nat.lt_irrefl _ (cK h)⟩
 have hle:E.le E':=hs.le (fun o v h1 _=>by have:=World.block_lt_of_cell? _ _ h1; simp at this) (fun c e f h1=>by have:=cK h1; simp at this)
 refine hn E' β' _ ⟨by simp [Act.put,hr.n],hr.nd.step hs,?_,?_⟩
 · refine HOk.put hr.h hs hle hβ ?_ ?_ (id:=id) (by simp [β']) ?_ (fun _ _=>trivial)
   · intro j hj; left; constructor
     · simp [St.ent,entL,St.setE,St.set,aT,Ne.symm hj]
     · simp [β',hj]
   · intro j hj hheld hb
     have:(S.ent j).held=true:=by simpa [St.ent,entL,St.setE,St.set,aT,Ne.symm hj] using hheld
     exact Nat.lt_irrefl _ (hr.h.lt this hb)
   · simp only [St.ent,entL,St.setE,St.set,aT,if_true]
     exact ⟨#[],0,heap_alloc_new _ _,fun o=>.inl rfl,rfl,.nil _⟩
 · intro s
   have hts:t<a.tmps.size:=hr.n ▸ ht
   by_cases hst:t=s
   · subst hst
     simp only [Act.put,St.get,St.set,aT,if_true,Array.getD_eq_getD_getElem?,Array.getElem?_setIfInBounds_self,hts,Option.getD_some]
     exact .mref _ _ _ (by simp [β'])
   · have:=Rd.mono hle hβ (hr.sl s)
     simpa [Act.put,St.get,St.set,St.setE,aT,hst,Array.getElem?_setIfInBounds_ne] using this
theorem aBk {E:Env} {β:bH} {id b:Nat} {l:List (Int×D)} (h:kX O E β id (.mpD l)) (hb:β id=some b) :
 ∃ es cl,O.own b∧E.w.heap[b]? = some (.map es cl)∧(∀ o,E.X b o)∧es.toList.map (·.key)=l.map (fun x=>kI64 x.1)∧RdL E β (es.toList.map (·.val)) (l.map (·.2)):=by
 obtain ⟨b',es,cl,h1,h2,h3,h4,h5,h6⟩:=h
 rw [hb] at h1; cases h1
 exact ⟨es,cl,h2,h3,h4,by rw [h5,List.map_map]; rfl,h6⟩
theorem vM {E:Env} {β:bH} {v:Value} {id:Nat} (h:Rd E β v (.mref id)):∃ b,β id=some b∧v = .map (some b):=by
 cases h with | mref _ _ b h=>exact ⟨b,h,rfl⟩
theorem xY {T kt et:TypeId} {x k v:Operand} {id:Nat} {l:List (Int×D)} {n:Int} {d:D} (ho:o.op = .mapUpdate T x k v) (hd:o.dst=none) (hu:P.underlying T=some (.map kt et)) (hk:P.underlying kt=some (.int .i64))
 (hx:SV S x (.mref id)) (he:S.ent id = .mpD l) (hn:SV S k (.int .i64 n)) (hv:SV S v d):IOp P O N o S (S.setE id (.mpD (mput l n d))):=by
 intro E β a hr next Q hn'
 obtain ⟨b,hb,hev⟩:=vM (hx.rd hr)
 have hent:=hr.h.ent id
 rw [he] at hent
 obtain ⟨es,cl,hown,hh,hX,h1,h2⟩:=aBk hent hb
 have hkv:=fZ (hn.rd hr)
 have hkey:IsKey (.int .i64) (.int .i64 n):=rfl
 obtain ⟨es',cl',hrun,h3,h4⟩:∃ es' cl',(execOp a.eval o).run P E.w = .ok .skip { E.w with heap:=E.w.heap.setIfInBounds b (.map es' cl') }∧es'.toList.map (·.key)=(mput l n d).map (fun x=>kI64 x.1)∧RdL E β (es'.toList.map (·.val)) ((mput l n d).map (·.2)):=by
  rcases rB (k:=n) (hv.rd hr) es.toList l 0 h1 h2 with ⟨g1,g2,g3⟩ | ⟨m,e',x',g1,g2,g3,g4,g5,g6,g7⟩
  · have g1':Instr.findNow (.int .i64) (.int .i64 n) es.toList 0=some none:=g1
    refine ⟨es.push { key:=kI64 n,val:=a.eval v,born:=cl },cl+1,?_,?_,?_⟩
    · simp [execOp,ho,hev,hkv,Instr.mapUpdate,run_underlying hu,Go.MapKept.run_getObj_map hh,Go.MapKept.run_checkKey hk hkey,Go.MapKept.run_findKey hk g1',Go.MapKept.run_setObj_map _ hh,Result.andThen,kI64]
    · rw [g3]; simp [h1]
    · rw [g3]
      simp only [Array.toList_push,List.map_append,List.map_cons,List.map_nil]
      exact h2.append (.cons (hv.rd hr) (.nil _))
  · have hj:es[m]? = some e':=by simpa using g2
    refine ⟨es.modify m fun e=>{ e with key:=kI64 n,val:=a.eval v },cl,?_,?_,?_⟩
    · have g1':Instr.findNow (.int .i64) (.int .i64 n) es.toList 0=some (some (m,e'.val)):=by rw [Nat.zero_add] at g1; exact g1
      simp [execOp,ho,hev,hkv,Instr.mapUpdate,run_underlying hu,Go.MapKept.run_getObj_map hh,Go.MapKept.run_checkKey hk hkey,Go.MapKept.run_findKey hk g1',hj,g3,kI64,run_keyThatStays hkey,Go.MapKept.run_setObj_map _ hh,Result.andThen]
    · rw [Array.toList_modify]; exact g6
    · rw [Array.toList_modify]; exact g7
 unfold Oper.wp
 rw [hrun]
 simp only [Oper.upon,hd,Act.put]
 let E':Env:=⟨{ E.w with heap:=E.w.heap.setIfInBounds b (.map es' cl') },E.X⟩
 have hset:=heap_set (o':=.map es' cl') hh
 have hs:Step O E E' b:=⟨rfl,rfl,rfl,by simp [E'],by simpa [E'] using cK hh,hown,fun k _ hk=>hset.2 k hk,fun _ _ _=>Iff.rfl,fun _ h=>by rw [hh] at h; cases h⟩
 have hle:E.le E':=hs.le (fun o v _ h2=>absurd (hX o) h2) (fun c e' f h3=>by rw [hh] at h3; cases h3)
 refine hn' E' β a ⟨hr.n,hr.nd.step hs,?_,fun s=>Rd.mono hle (bH.le.refl _) (hr.sl s)⟩
 refine HOk.put hr.h hs hle (bH.le.refl _) ?_ ?_ hb ?_ (fun _ _=>trivial)
 · intro j hj; left; exact ⟨by simp [St.ent,entL,St.setE,aT,Ne.symm hj],rfl⟩
 · intro j hj hheld hbj
   have:(S.ent j).held=true:=by simpa [St.ent,entL,St.setE,aT,Ne.symm hj] using hheld
   exact hj (hr.h.inj j id b this (by rw [he]; rfl) hbj hb)
 · simp only [St.ent,entL,St.setE,aT,if_true]
   exact ⟨es',cl',hset.1,hX,by rw [h3,List.map_map]; rfl,RdL.mono hle (bH.le.refl _) h4⟩
theorem pJ {V:Type} (f:V→D) {T kt et:TypeId} {x k v:Operand} {id:Nat} {l l':List (Int×V)} {n:Int} {a:V} (ho:o.op = .mapUpdate T x k v) (hd:o.dst=none) (hu:P.underlying T=some (.map kt et)) (hk:P.underlying kt=some (.int .i64))
 (hx:SV S x (.mref id)) (he:S.ent id = .mpD (mapD f l)) (hn:SV S k (.int .i64 n)) (hv:SV S v (f a)) (hl:mput l n a=l'):IOp P O N o S (S.setE id (.mpD (mapD f l'))):=by
 rw [←hl,aCB]
 exact xY ho hd hu hk hx he hn hv
theorem rQ {V:Type} (f:V→D) {T kt et:TypeId} {x k:Operand} {id:Nat} {l:List (Int×V)} {n:Int} {z:Value} {size bytes:Nat} {v0 r:V} (ho:o.op = .lookup T x k false) (hd:o.dst=some t) (ht:t<N) (hu:P.underlying T=some (.map kt et)) (hk:P.underlying kt=some (.int .i64)) (hz:TI P et (some z) size bytes)
 (hx:SV S x (.mref id)) (he:S.ent id = .mpD (mapD f l)) (hn:SV S k (.int .i64 n)) (h0:∀ E β,Rd E β z (f v0)) (hr:(mget l n).getD v0=r):IOp P O N o S (S.set t (f r)) :=
 eY hd ht fun E β a hrel=>by
  obtain ⟨b,hb,hev⟩:=vM (hx.rd hrel)
  have hent:=hrel.h.ent id
  rw [he] at hent
  obtain ⟨es,cl,hown,hh,hX,h1,h2⟩:=aBk hent hb
  have hkv:=fZ (hn.rd hrel)
  have hkey:IsKey (.int .i64) (.int .i64 n):=rfl
  obtain ⟨i,hi,hzi,_⟩:=hz.at
  rcases rB (k:=n) (v:=.bool true) (.bool β true) es.toList (mapD f l) 0 h1 h2 with ⟨g1,g2,g3⟩ | ⟨m,e',x',g1,g2,g3,g4,g5,_,_⟩
  · have g1':Instr.findNow (.int .i64) (.int .i64 n) es.toList 0=some none:=g1
    refine ⟨z,?_,?_⟩
    · simp [execOp,ho,hev,hkv,Instr.lookup,run_underlying hu,Go.MapKept.run_getObj_map hh,Go.MapKept.run_checkKey hk hkey,Go.MapKept.run_findKey hk g1',zeroValue,typeInfo,hi,hzi,Result.andThen]
    · rw [wU] at g2
      have:mget l n=none:=by cases hm:mget l n with | none=>rfl | some _=>rw [hm] at g2; cases g2
      rw [←hr,this]; exact h0 E β
  · have g1':Instr.findNow (.int .i64) (.int .i64 n) es.toList 0=some (some (m,e'.val)):=by rw [Nat.zero_add] at g1; exact g1
    refine ⟨e'.val,?_,?_⟩
    · simp [execOp,ho,hev,hkv,Instr.lookup,run_underlying hu,Go.MapKept.run_getObj_map hh,Go.MapKept.run_checkKey hk hkey,Go.MapKept.run_findKey hk g1',Result.andThen]
    · rw [wU] at g4
      obtain ⟨y,hy,rfl⟩:=Option.map_eq_some_iff.1 g4
      rw [←hr,hy]; exact g5
theorem xZ {V:Type} (f:V→D) {T kt et:TypeId} {x k:Operand} {id:Nat} {l:List (Int×V)} {n:Int} {z:Value} {size bytes:Nat} {v0 r:V} {is:Bool} (ho:o.op = .lookup T x k true) (hd:o.dst=some t) (ht:t<N) (hu:P.underlying T=some (.map kt et)) (hk:P.underlying kt=some (.int .i64)) (hz:TI P et (some z) size bytes)
 (hx:SV S x (.mref id)) (he:S.ent id = .mpD (mapD f l)) (hn:SV S k (.int .i64 n)) (h0:∀ E β,Rd E β z (f v0)) (hr:(mget l n).getD v0=r) (hs:(mget l n).isSome=is):IOp P O N o S (S.set t (.tuple [f r,.bool is])) :=
 eY hd ht fun E β a hrel=>by
  obtain ⟨b,hb,hev⟩:=vM (hx.rd hrel)
  have hent:=hrel.h.ent id
  rw [he] at hent
  obtain ⟨es,cl,hown,hh,hX,h1,h2⟩:=aBk hent hb
  have hkv:=fZ (hn.rd hrel)
  have hkey:IsKey (.int .i64) (.int .i64 n):=rfl
  obtain ⟨i,hi,hzi,_⟩:=hz.at
  rcases rB (k:=n) (v:=.bool true) (.bool β true) es.toList (mapD f l) 0 h1 h2 with ⟨g1,g2,g3⟩ | ⟨m,e',x',g1,g2,g3,g4,g5,_,_⟩
  · have g1':Instr.findNow (.int .i64) (.int .i64 n) es.toList 0=some none:=g1
    refine ⟨.tuple #[z,.bool false],?_,?_⟩
    · simp [execOp,ho,hev,hkv,Instr.lookup,run_underlying hu,Go.MapKept.run_getObj_map hh,Go.MapKept.run_checkKey hk hkey,Go.MapKept.run_findKey hk g1',zeroValue,typeInfo,hi,hzi,Result.andThen]
    · rw [wU] at g2
      have:mget l n=none:=by cases hm:mget l n with | none=>rfl | some _=>rw [hm] at g2; cases g2
      rw [←hr,←hs,this]; exact .tuple _ _ _ (.cons (h0 E β) (.cons (.bool _ _) (.nil _)))
  · have g1':Instr.findNow (.int .i64) (.int .i64 n) es.toList 0=some (some (m,e'.val)):=by rw [Nat.zero_add] at g1; exact g1
    refine ⟨.tuple #[e'.val,.bool true],?_,?_⟩
    · simp [execOp,ho,hev,hkv,Instr.lookup,run_underlying hu,Go.MapKept.run_getObj_map hh,Go.MapKept.run_checkKey hk hkey,Go.MapKept.run_findKey hk g1',Result.andThen]
    · rw [wU] at g4
      obtain ⟨y,hy,rfl⟩:=Option.map_eq_some_iff.1 g4
      rw [←hr,←hs,hy]; exact .tuple _ _ _ (.cons g5 (.cons (.bool _ _) (.nil _)))
theorem aAF {V:Type} (f:V→D) {T kt et:TypeId} {x:Operand} {id:Nat} {l:List (Int×V)} (ho:o.op = .call { callee:=.builtin .len,args:=#[x],argTypes:=#[T] }) (hd:o.dst=some t) (ht:t<N) (hu:P.underlying T=some (.map kt et))
 (hx:SV S x (.mref id)) (he:S.ent id = .mpD (mapD f l)):IOp P O N o S (S.set t (.int .i64 (l.length:Int))) :=
 eY hd ht fun E β a hrel=>by
  obtain ⟨b,hb,hev⟩:=vM (hx.rd hrel)
  have hent:=hrel.h.ent id
  rw [he] at hent
  obtain ⟨es,cl,hown,hh,hX,h1,h2⟩:=aBk hent hb
  have hlen:es.size=l.length:=by have:=congrArg List.length h1; simpa [mapD] using this
  refine ⟨.int .i64 (l.length:Int),?_,.int _ _ _⟩
  simp [execOp,ho,resolve,hev,invoke,builtin,Builtin.len_,run_underlying hu,Go.MapKept.run_getObj_map hh,hlen,goInt,Result.andThen]
theorem nr_one {V:Type} (f:Enc V) (x:V):(f.d x).refsIn noRef=true:=by
 have h:=f.nr x
 generalize f.d x=d at h
 cases d <;> simp_all [D.cells,D.refsInL,D.refsIn]
theorem vT {V:Type} (f:Enc V) (l:List (Int×V)):D.refsInL noRef ((mapD f.d l).map (·.2))=true:=by
 induction l with
 | nil=>rfl
 | cons x l ih=>show (_&&_)=true; rw [nr_one f x.2]; exact ih
theorem tJ {V:Type} (f:Enc V) (ρ:Nat→Nat) (l:List (Int×V)):(Ent.mpD (mapD f.d l)).ren ρ = .mpD (mapD f.d l):=by
 show Ent.mp _ (D.renL ρ _)=Ent.mp _ _
 rw [D.renL_bare _ (vT f l)]
theorem sK {V:Type} (f:Enc V) {ρ:Nat→Nat} {i:Nat} {l:List (Int×V)} (h:S.ent i = .mpD (mapD f.d l)):S.ent i=(Ent.mpD (mapD f.d l)).ren ρ:=by rw [h,tJ]
theorem jT {V:Type} (f:Enc V) {p:Nat→Bool} {l:List (Int×V)}:(Ent.mpD (mapD f.d l)).refsIn p=true:=D.refsInL_mono _ (vT f l)
theorem EntW.mpL {V:Type} (f:Enc V) {ρ:Nat→Nat} {id:Nat} {l:List (Int×V)} (h:S.ent (ρ id) = .mpD (mapD f.d l)):EntW S S' ρ id (.mpD (mapD f.d l)) :=
 .mp h (D.renL_bare _ (vT f l)).symm (D.refsInL_mono _ (vT f l))
end
end Go.IL
namespace Go.IL
section
variable {P:Program} {O:bK} {N:Nat} {S S':St} {o:Oper} {t:Nat}
theorem vH {T T2 e e2 ty:TypeId} {args:Array Value} {w:World} (hu:P.underlying T=some (.slice e)) (hu2:P.underlying T2=some (.slice e2)) :
 (Builtin.append_ #[T,T2] ty args).run P w=(Builtin.append_ #[T,T] ty args).run P w:=by
 unfold Builtin.append_
 cases h0:args[0]? with
 | none=>rfl
 | some s =>
   cases h1:args[1]? with
   | none=>rfl
   | some x =>
     simp only [List.size_toArray,List.length_cons,List.length_nil,List.getElem?_toArray,List.getElem?_cons_zero,List.getElem?_cons_succ]
     simp only [Sem.run_bind,run_underlying hu,run_underlying hu2,Result.andThen_ok]
     cases s with
     | slice base a b =>
       simp only [Sem.run_bind,run_underlying hu,run_underlying hu2,Result.andThen_ok,Sem.run_pure]
     | _=>rfl
theorem aCC {T T2 e e2:TypeId} {x y:Operand} (ho:o.op = .call { callee:=.builtin .append,args:=#[x,y],argTypes:=#[T,T2] }) (hu:P.underlying T=some (.slice e)) (hu2:P.underlying T2=some (.slice e2))
 (h:∀ o':Oper,o'.op = .call { callee:=.builtin .append,args:=#[x,y],argTypes:=#[T,T] }→o'.dst=o.dst→IOp P O N o' S S'):IOp P O N o S S':=by
 intro E β a hr next Q hn
 have h1:=h { o with op:=.call { callee:=.builtin .append,args:=#[x,y],argTypes:=#[T,T] } } rfl rfl E β a hr next Q hn
 unfold Oper.wp at h1 ⊢
 have:(execOp a.eval o).run P E.w=(execOp a.eval { o with op:=.call { callee:=.builtin .append,args:=#[x,y],argTypes:=#[T,T] } }).run P E.w:=by
  simp [execOp,ho,resolve,invoke,builtin,vH hu hu2]
 rw [this]
 exact h1
end
end Go.IL
open Go Go.IL
namespace Go.Fn
structure T_fold_Op where
 Kind:Int
 ID:Int
 Dep:Int
 Weight:Int
 Only:Bool
 deriving DecidableEq,Inhabited
structure bI where
 ID:Int
 Parent:Int
 Weight:Int
 Closed:Bool
 deriving DecidableEq,Inhabited
def aU:Enc bI:=⟨⟨fun x=>.agg [.int .i64 x.ID,.int .i64 x.Parent,.int .i64 x.Weight,.bool x.Closed],4,by decide,fun _=>⟨rfl,rfl⟩⟩,fun _=>rfl⟩

structure aCI where
 Room:Int
 Keep:Int
 Nodes:(List bI)
 Ended:(List Int)
 deriving DecidableEq,Inhabited
variable [Fu]
def fB (a0:(List Int)) (a1:Int):Nat→Int→Option Int
 | 0,_=>none
 | n0 + 1,v7 =>
   bnd (decide (v7<(a0.length:Int))) fun x14 =>
   bif x14 then (
    bno (gix a0 v7) fun x16 =>
    bnd (decide (a1=x16)) fun x17 =>
    bif x17 then (
     some v7
    ) else (
      bnd (IntKind.wrap .i64 (v7+1)) fun x19 =>
      (fB a0 a1 n0) x19
    )
   ) else (
     some (-1)
   )
def kI (a0:(List Int)) (a1:Int):Option Int :=
 fB a0 a1 fuel 0

def gN (a0:(List Int)) (a1:Int):Option Bool :=
 bno (kI a0 a1) fun x1 =>
 bnd (decide (0≤x1)) fun x2 =>
 some x2

end Go.Fn
open Go Go.IL
namespace Go.Fn
structure zN where
 Room:Int
 Keep:Int
 L:(List bI)
 Closed:(List Int)
 deriving DecidableEq,Inhabited
variable [Fu]
end Go.Fn
open Go Go.IL
namespace Go.Fn


variable [Fu]
end Go.Fn
open Go Go.IL
namespace Go.Fn



end Go.Fn
open Go Go.IL
namespace Go.Fn
structure aAX where
 Kind:Int
 ID:Int
 Dep:Int
 Weight:Int
 Only:Bool
 deriving DecidableEq,Inhabited
structure aO where
 Live:Bool
 Value:Int
 Link:Int
 deriving DecidableEq,Inhabited
def aF:Enc aO:=⟨⟨fun x=>.agg [.bool x.Live,.int .i64 x.Value,.int .i64 x.Link],3,by decide,fun _=>⟨rfl,rfl⟩⟩,fun _=>rfl⟩

structure bG where
 Cells:(List aO)
 Free:Int
 Used:Int
 deriving DecidableEq,Inhabited
structure aN where
 id:Int
 up:Int
 first:Int
 next:Int
 weight:Int
 closed:Bool
 deriving DecidableEq,Inhabited
def aB:Enc aN:=⟨⟨fun x=>.agg [.int .i64 x.id,.int .i64 x.up,.int .i64 x.first,.int .i64 x.next,.int .i64 x.weight,.bool x.closed],6,by decide,fun _=>⟨rfl,rfl⟩⟩,fun _=>rfl⟩

structure gS where
 dep:Int
 weight:Int
 only:Bool
 deriving DecidableEq,Inhabited
variable [Fu]
def oH (a0:Int) (a1:Int) (a2:Int):Option Bool :=
 bnd (decide (a1≤a0)) fun x1 =>
 bnd (decide (a0≤a2)) fun x2 =>
 bnd (x1&&x2) fun x3 =>
 some x3

def uC  : Option bG :=
 some (⟨[],(-1),0⟩:bG)

def gY (a0:gS) (a1:Int) (v6:Bool):Option Int :=
 bif v6 then (
  some 8
 ) else (
   bnd (decide (a1=a0.dep)) fun x8 =>
   bif x8 then (
    some 4
   ) else (
     some 0
   )
 )
def mK (a0:gS) (a1:Int):Option Int :=
 bno (oH a1 1 1048576) fun x10 =>
 bif (!x10) then (
  gY a0 a1 (!x10)
 ) else (
   bno (oH a0.dep 0 1048576) fun x12 =>
   bif (!x12) then (
    gY a0 a1 (!x12)
   ) else (
     bno (oH a0.weight 1 256) fun x14 =>
     gY a0 a1 (!x14)
   )
 )

def kF (a0:bG) (a1:Int):Option Bool :=
 bnd (decide ((-1)≤a1)) fun x1 =>
 bnd (decide (a1<(a0.Cells.length:Int))) fun x2 =>
 bnd (x1&&x2) fun x3 =>
 some x3

def lL (a0:bG) (a1:aO):Option Bool :=
 bno (gd ((!a1.Live) == true) (kF a0 a1.Link) default) fun x1 =>
 bnd ((!a1.Live)&&(!x1)) fun x2 =>
 some x2

def cM (a0:(List aO)) (a1:bG):Nat→Int→Option Int
 | 0,_=>none
 | n0 + 1,v7 =>
   bnd (decide (v7<(a0.length:Int))) fun x14 =>
   bif x14 then (
    bno (gix a0 v7) fun x16 =>
    bno (lL a1 x16) fun x17 =>
    bif x17 then (
     some v7
    ) else (
      bnd (IntKind.wrap .i64 (v7+1)) fun x19 =>
      (cM a0 a1 n0) x19
    )
   ) else (
     some (-1)
   )
def eC (a0:(List aO)) (a1:bG):Option Int :=
 cM a0 a1 fuel 0

def dW (a0:(List aO)) (a1:bG):Option Bool :=
 bno (eC a0 a1) fun x1 =>
 bnd (decide (0≤x1)) fun x2 =>
 some x2

def uB (a0:aO):Option Bool :=
 bif a0.Live then (
  bnd (!decide (a0.Link=0)) fun x2 =>
  some x2
 ) else (
   bnd (!decide (a0.Value=0)) fun x3 =>
   some x3
 )

def cT (a0:(List aO)):Nat→Int→Option Int
 | 0,_=>none
 | n0 + 1,v7 =>
   bnd (decide (v7<(a0.length:Int))) fun x14 =>
   bif x14 then (
    bno (gix a0 v7) fun x16 =>
    bno (uB x16) fun x17 =>
    bif x17 then (
     some v7
    ) else (
      bnd (IntKind.wrap .i64 (v7+1)) fun x19 =>
      (cT a0 n0) x19
    )
   ) else (
     some (-1)
   )
def eH (a0:(List aO)):Option Int :=
 cT a0 fuel 0

def eD (a0:(List aO)):Option Bool :=
 bno (eH a0) fun x1 =>
 bnd (decide (0≤x1)) fun x2 =>
 some x2

def gM (a0:bG):Nat→(List Int)→Int→Option ((List Int)×Bool)
 | 0,_,_=>none
 | n0 + 1,v9,v10 =>
   bnd (decide (v10=(-1))) fun x19 =>
   bif x19 then (
    some (v9,true)
   ) else (
     bno (gix a0.Cells v10) fun x21 =>
     bno (gd (x21.Live == false) (gN v9 v10) default) fun x22 =>
     bnd (x21.Live||x22) fun x23 =>
     bif x23 then (
      some (v9,false)
     ) else (
       bno (app 8 v9 ([v10]:(List Int))) fun x25 =>
       bno (gix a0.Cells v10) fun x26 =>
       (gM a0 n0) x25 x26.Link
     )
   )
def lW (a0:bG):Option ((List Int)×Bool) :=
 gM a0 fuel ([]:(List Int)) a0.Free

def jO (a0:bG):Nat→Int→Int→Option Int
 | 0,_,_=>none
 | n1 + 1,v17,v18 =>
   bnd (decide (v18<(a0.Cells.length:Int))) fun x26 =>
   bif x26 then (
    bno (gix a0.Cells v18) fun x28 =>
    bif x28.Live then (
     bnd (IntKind.wrap .i64 (v17+1)) fun x30 =>
     bnd (IntKind.wrap .i64 (v18+1)) fun x31 =>
     (jO a0 n1) x30 x31
    ) else (
      bnd (IntKind.wrap .i64 (v18+1)) fun x32 =>
      (jO a0 n1) v17 x32
    )
   ) else (
     bno (lW a0) fun x33 =>
     bnd (!decide (v17=a0.Used)) fun x34 =>
     bnd ((!x33.2)||x34) fun x35 =>
     bnd (IntKind.wrap .i64 (v17+(x33.1.length:Int))) fun x36 =>
     bnd (!decide (x36=(a0.Cells.length:Int))) fun x37 =>
     bnd (x35||x37) fun x38 =>
     bif x38 then (
      some 10
     ) else (
       some 0
     )
   )
def mA (a0:bG) (v6:Bool):Option Int :=
 bif v6 then (
  some 8
 ) else (
   bno (eD a0.Cells) fun x8 =>
   bif x8 then (
    some 4
   ) else (
     jO a0 fuel 0 0
   )
 )
def nF (a0:bG):Option Int :=
 bnd (decide (64<(a0.Cells.length:Int))) fun x1 =>
 bif x1 then (
  some 5
 ) else (
   bno (kF a0 a0.Free) fun x40 =>
   bif (!x40) then (
    mA a0 (!x40)
   ) else (
     bno (dW a0.Cells a0) fun x42 =>
     mA a0 x42
   )
 )

def kH (a0:bG):Nat→(List Int)→Int→Option (List Int)
 | 0,_,_=>none
 | n0 + 1,v11,v12 =>
   bnd (decide (v12<(a0.Cells.length:Int))) fun x20 =>
   bif x20 then (
    bno (gix a0.Cells v12) fun x22 =>
    bif x22.Live then (
     bno (app 8 v11 ([v12]:(List Int))) fun x24 =>
     bnd (IntKind.wrap .i64 (v12+1)) fun x25 =>
     (kH a0 n0) x24 x25
    ) else (
      bnd (IntKind.wrap .i64 (v12+1)) fun x26 =>
      (kH a0 n0) v11 x26
    )
   ) else (
     some v11
   )
def pK (a0:bG):Option (List Int) :=
 bno (nF a0) fun x1 =>
 bnd (!decide (x1=0)) fun x2 =>
 bif x2 then (
  some []
 ) else (
   kH a0 fuel ([]:(List Int)) 0
 )

def gG (a0:Int) (a6:(List aN)) (x1:(List Int)):Nat→Int→Option Int
 | 0,_=>none
 | n0 + 1,v11 =>
   bnd (decide (v11<(x1.length:Int))) fun x21 =>
   bif x21 then (
    bno (gix x1 v11) fun x23 =>
    bno (gix a6 x23) fun x24 =>
    chk (a6.length=64)<|bno (a6[(x23:Int).toNat]?) fun x26 =>
    bnd (decide (x26.id=a0)) fun x27 =>
    bif x27 then (
     some x23
    ) else (
      bnd (IntKind.wrap .i64 (v11+1)) fun x29 =>
      (gG a0 a6 x1 n0) x29
    )
   ) else (
     some (-1)
   )
def fN (a0:Int) (a1:Int) (a2:Int) (a3:(List aO)) (a4:Int) (a5:Int) (a6:(List aN)) (a7:Int) (a8:(List Int)):Option Int :=
 bno (pK (⟨a3,a4,a5⟩:bG)) fun x1 =>
 gG a0 a6 x1 fuel 0

def mM (a0:Int) (a1:Int) (a2:(List aO)) (a3:Int) (a4:Int) (a5:(List aN)) (a6:Int) (a7:(List Int)):Option Int :=
 some a4

def fL (a0:Int) (a1:Int) (a2:Int) (a3:(List aO)) (a4:Int) (a5:Int) (a6:(List aN)) (a7:Int) (a8:(List Int)):Nat→Nat→Option (Int×Int×(List aO)×Int×Int×(List aN)×Int×(List Int))
 | 0,_=>none
 | n0+1,v14 =>
   bno (a6[v14]?) fun x20 =>
   bnd (!decide (x20.next=a0)) fun x21 =>
   bif x21 then (
    bno (a6[v14]?) fun x23 =>
    bno (gix a6 x23.next) fun x24 =>
    (fL a0 a1 a2 a3 a4 a5 a6 a7 a8 n0) ((x23.next:Int).toNat)
   ) else (
     bno (gix a6 a0) fun x25 =>
     bno (a6[(a0:Int).toNat]?) fun x26 =>
     bno (a6[v14]?) fun x27 =>
     bnd (a6.set v14 (⟨x27.id,x27.up,x27.first,x26.next,x27.weight,x27.closed⟩:aN)) fun x28 =>
     some (a1,a2,a3,a4,a5,x28,a7,a8)
   )
def fK (a0:Int) (a1:Int) (a2:Int) (a3:(List aO)) (a4:Int) (a5:Int) (a6:(List aN)) (a7:Int) (a8:(List Int)):Nat→Nat→Option (Int×Int×(List aO)×Int×Int×(List aN)×Int×(List Int))
 | 0,_=>none
 | n1+1,v42 =>
   bno (a6[v42]?) fun x48 =>
   bnd (!decide (x48.next=a0)) fun x49 =>
   bif x49 then (
    bno (a6[v42]?) fun x51 =>
    bno (gix a6 x51.next) fun x52 =>
    (fK a0 a1 a2 a3 a4 a5 a6 a7 a8 n1) ((x51.next:Int).toNat)
   ) else (
     bno (gix a6 a0) fun x53 =>
     bno (a6[(a0:Int).toNat]?) fun x54 =>
     bno (a6[v42]?) fun x55 =>
     bnd (a6.set v42 (⟨x55.id,x55.up,x55.first,x54.next,x55.weight,x55.closed⟩:aN)) fun x56 =>
     some (a1,a2,a3,a4,a5,x56,a7,a8)
   )
def gZ (a0:Int) (a1:Int) (a2:Int) (a3:(List aO)) (a4:Int) (a5:Int) (a6:(List aN)) (a7:Int) (a8:(List Int)):Option (Int×Int×(List aO)×Int×Int×(List aN)×Int×(List Int)) :=
 bno (gix a6 a0) fun x1 =>
 chk (a6.length=64)<|bno (a6[(a0:Int).toNat]?) fun x3 =>
 bnd (decide (x3.up=(-1))) fun x4 =>
 bif x4 then (
  bnd (!decide (a7=a0)) fun x6 =>
  bif x6 then (
   bno (gix a6 a7) fun x8 =>
   fL a0 a1 a2 a3 a4 a5 a6 a7 a8 fuel ((a7:Int).toNat)
  ) else (
    bno (gix a6 a0) fun x29 =>
    bno (a6[(a0:Int).toNat]?) fun x30 =>
    some (a1,a2,a3,a4,a5,a6,x30.next,a8)
  )
 ) else (
   bno (gix a6 x3.up) fun x31 =>
   bno (a6[(x3.up:Int).toNat]?) fun x32 =>
   bnd (!decide (x32.first=a0)) fun x33 =>
   bif x33 then (
    bno (a6[(x3.up:Int).toNat]?) fun x35 =>
    bno (gix a6 x35.first) fun x36 =>
    fK a0 a1 a2 a3 a4 a5 a6 a7 a8 fuel ((x35.first:Int).toNat)
   ) else (
     bno (gix a6 a0) fun x57 =>
     bno (a6[(a0:Int).toNat]?) fun x58 =>
     bno (a6[(x3.up:Int).toNat]?) fun x59 =>
     bnd (a6.set ((x3.up:Int).toNat) (⟨x59.id,x59.up,x58.next,x59.next,x59.weight,x59.closed⟩:aN)) fun x60 =>
     some (a1,a2,a3,a4,a5,x60,a7,a8)
   )
 )

def kD (a0:Int) (a1:Int) (a2:Int) (a3:Int) (a4:(List aO)) (a5:Int) (a6:Int) (a7:(List aN)) (a8:Int) (a9:(List Int)):Option (Int×Int×(List aO)×Int×Int×(List aN)×Int×(List Int)) :=
 bnd (decide (a1=(-1))) fun x1 =>
 bif x1 then (
  chk (a7.length=64)<|bno (gix a7 a0) fun x4 =>
  bno (a7[(a0:Int).toNat]?) fun x5 =>
  bnd (a7.set ((a0:Int).toNat) (⟨x5.id,a1,x5.first,x5.next,x5.weight,x5.closed⟩:aN)) fun x6 =>
  bno (gix x6 a0) fun x7 =>
  bno (x6[(a0:Int).toNat]?) fun x8 =>
  bnd (x6.set ((a0:Int).toNat) (⟨x8.id,x8.up,x8.first,a8,x8.weight,x8.closed⟩:aN)) fun x9 =>
  some (a2,a3,a4,a5,a6,x9,a0,a9)
 ) else (
   bno (gix a7 a1) fun x10 =>
   chk (a7.length=64)<|bno (a7[(a1:Int).toNat]?) fun x12 =>
   bno (gix a7 a0) fun x13 =>
   bno (a7[(a0:Int).toNat]?) fun x14 =>
   bnd (a7.set ((a0:Int).toNat) (⟨x14.id,a1,x14.first,x14.next,x14.weight,x14.closed⟩:aN)) fun x15 =>
   bno (gix x15 a0) fun x16 =>
   bno (x15[(a0:Int).toNat]?) fun x17 =>
   bnd (x15.set ((a0:Int).toNat) (⟨x17.id,x17.up,x17.first,x12.first,x17.weight,x17.closed⟩:aN)) fun x18 =>
   bno (x18[(a1:Int).toNat]?) fun x19 =>
   bnd (x18.set ((a1:Int).toNat) (⟨x19.id,x19.up,a0,x19.next,x19.weight,x19.closed⟩:aN)) fun x20 =>
   some (a2,a3,a4,a5,a6,x20,a8,a9)
 )

def eT (a0:Int) (a1:Int) (a2:Int) (a3:Int) (a4:(List aO)) (a5:Int) (a6:Int) (a7:(List aN)) (a8:Int) (a9:(List Int)):Option (Int×Int×(List aO)×Int×Int×(List aN)×Int×(List Int)) :=
 bno (gZ a0 a2 a3 a4 a5 a6 a7 a8 a9) fun x1 =>
 bno (kD a0 a1 x1.1 x1.2.1 x1.2.2.1 x1.2.2.2.1 x1.2.2.2.2.1 x1.2.2.2.2.2.1 x1.2.2.2.2.2.2.1 x1.2.2.2.2.2.2.2) fun x2 =>
 some (x2.1,x2.2.1,x2.2.2.1,x2.2.2.2.1,x2.2.2.2.2.1,x2.2.2.2.2.2.1,x2.2.2.2.2.2.2.1,x2.2.2.2.2.2.2.2)

def eQ (a0:(List aO)):Option (List aO) :=
 yN a0 (
  some ([]:(List aO))
 ) (
   bno (app 24 ([]:(List aO)) a0) fun x3 =>
   some x3
 )

def kG (a0:bG):Option ((List aO)×Int×Int) :=
 bno (eQ a0.Cells) fun x1 =>
 some (x1,a0.Free,a0.Used)

def mN (a0:bG) (a1:Int):Option Bool :=
 bnd (decide (0≤a1)) fun x1 =>
 bnd (decide (a1<(a0.Cells.length:Int))) fun x2 =>
 bnd (x1&&x2) fun x3 =>
 bno (gd (x3 == true) (gix a0.Cells a1) default) fun x4 =>
 bnd (x3&&x4.Live) fun x5 =>
 some x5

def pL (a0:bG) (a1:Int):Option (bG×Int) :=
 bno (kG a0) fun x1 =>
 bno (nF a0) fun x2 =>
 bnd (!decide (x2=0)) fun x3 =>
 bif x3 then (
  some ((⟨x1.1,x1.2.1,x1.2.2⟩:bG),x2)
 ) else (
   bno (mN a0 a1) fun x5 =>
   bif (!x5) then (
    some ((⟨x1.1,x1.2.1,x1.2.2⟩:bG),6)
   ) else (
     bno (gix x1.1 a1) fun x7 =>
     bno (x1.1[(a1:Int).toNat]?) fun x8 =>
     bnd (x1.1.set ((a1:Int).toNat) (⟨false,0,x1.2.1⟩:aO)) fun x9 =>
     bnd (IntKind.wrap .i64 (x1.2.2-1)) fun x10 =>
     some ((⟨x9,a1,x10⟩:bG),0)
   )
 )

def kO (a0:Int) (a1:Int):Option Bool :=
 bnd (decide (a0=a1)) fun x1 =>
 some x1

def dK (a0:(List Int)) (a1:Int):Nat→Int→Option Int
 | 0,_=>none
 | n0 + 1,v7 =>
   bnd (decide (v7<(a0.length:Int))) fun x14 =>
   bif x14 then (
    bno (gix a0 v7) fun x16 =>
    bno (kO x16 a1) fun x17 =>
    bif x17 then (
     some v7
    ) else (
      bnd (IntKind.wrap .i64 (v7+1)) fun x19 =>
      (dK a0 a1 n0) x19
    )
   ) else (
     some (-1)
   )
def fI (a0:(List Int)) (a1:Int):Option Int :=
 dK a0 a1 fuel 0

def cV (a1:Int):Nat→(List Int)→Int→Int→Option (List Int)
 | 0,_,_,_=>none
 | n0 + 1,v17,v18,v19 =>
   bnd (decide (v19<(v17.length:Int))) fun x32 =>
   bif x32 then (
    bno (gix v17 v19) fun x34 =>
    bno (v17[(v19:Int).toNat]?) fun x35 =>
    bno (kO x35 a1) fun x36 =>
    bif (!x36) then (
     bno (gix v17 v18) fun x38 =>
     bno (v17[(v18:Int).toNat]?) fun x39 =>
     bnd (v17.set ((v18:Int).toNat) x35) fun x40 =>
     bnd (IntKind.wrap .i64 (v18+1)) fun x41 =>
     bnd (IntKind.wrap .i64 (v19+1)) fun x42 =>
     (cV a1 n0) x40 x41 x42
    ) else (
      bnd (IntKind.wrap .i64 (v19+1)) fun x43 =>
      (cV a1 n0) v17 v18 x43
    )
   ) else (
     bno (cut v17 0 v18) fun x44 =>
     bno (cut x44 0 v18) fun x45 =>
     some x45
   )
def eF (a0:(List Int)) (a1:Int):Option (List Int) :=
 bno (fI a0 a1) fun x1 =>
 bnd (decide (x1=(-1))) fun x2 =>
 bif x2 then (
  some a0
 ) else (
   bnd (IntKind.wrap .i64 (x1+1)) fun x4 =>
   cV a1 fuel a0 x1 x4
 )

def hT (a0:Int) (v53:Int) (v63:(List Int)):Nat→Int→Int→Int→(List aO)→Int→Int→(List aN)→Int→(List Int)→Option (Int×Int×(List aO)×Int×Int×(List aN)×Int×(List Int))
 | 0,_,_,_,_,_,_,_,_,_=>none
 | n4+1,v92,v93,v94,v95,v96,v97,v98,v99,v100 =>
   bnd (decide (v92<(v63.length:Int))) fun x120 =>
   bif x120 then (
    bno (gix v63 v92) fun x122 =>
    bno (v63[(v92:Int).toNat]?) fun x123 =>
    bno (gix v98 a0) fun x124 =>
    chk (v98.length=64)<|bno (v98[(a0:Int).toNat]?) fun x126 =>
    bno (gix v98 x123) fun x127 =>
    bno (v98[(x123:Int).toNat]?) fun x128 =>
    bnd (IntKind.wrap .i64 (x126.weight*x128.weight)) fun x129 =>
    bno (quoI .i64 x129 v53) fun x130 =>
    bnd (max x130 1) fun x131 =>
    bno (gix v98 x123) fun x132 =>
    bno (v98[(x123:Int).toNat]?) fun x133 =>
    bnd (v98.set ((x123:Int).toNat) (⟨x133.id,x133.up,x133.first,x133.next,x131,x133.closed⟩:aN)) fun x134 =>
    bno (gix x134 a0) fun x135 =>
    bno (x134[(a0:Int).toNat]?) fun x136 =>
    bno (eT x123 x136.up v93 v94 v95 v96 v97 x134 v99 v100) fun x137 =>
    bnd (IntKind.wrap .i64 (v92+1)) fun x138 =>
    (hT a0 v53 v63 n4) x138 x137.1 x137.2.1 x137.2.2.1 x137.2.2.2.1 x137.2.2.2.2.1 x137.2.2.2.2.2.1 x137.2.2.2.2.2.2.1 x137.2.2.2.2.2.2.2
   ) else (
     bno (gZ a0 v93 v94 v95 v96 v97 v98 v99 v100) fun x139 =>
     bno (pL (⟨x139.2.2.1,x139.2.2.2.1,x139.2.2.2.2.1⟩:bG) a0) fun x140 =>
     chk (x139.2.2.2.2.2.1.length=64)<|bno (eF x139.2.2.2.2.2.2.2 a0) fun x142 =>
     some (x139.1,x139.2.1,x140.1.Cells,x140.1.Free,x140.1.Used,x139.2.2.2.2.2.1,x139.2.2.2.2.2.2.1,x142)
   )
def iA (a0:Int) (a1:Int) (a2:Int) (a3:(List aO)) (a4:Int) (a5:Int) (a6:(List aN)) (a7:Int) (a8:(List Int)) (v53:Int):Nat→Int→(List Int)→Option (Int×Int×(List aO)×Int×Int×(List aN)×Int×(List Int))
 | 0,_,_=>none
 | n3+1,v62,v63 =>
   bnd (!decide (v62=(-1))) fun x69 =>
   bif x69 then (
    bno (gix a6 v62) fun x71 =>
    bno (a6[(v62:Int).toNat]?) fun x72 =>
    bno (app 8 v63 ([v62]:(List Int))) fun x73 =>
    (iA a0 a1 a2 a3 a4 a5 a6 a7 a8 v53 n3) x72.next x73
   ) else (
     hT a0 v53 v63 fuel 0 a1 a2 a3 a4 a5 a6 a7 a8
   )
def hM (a0:Int) (v53:Int) (v152:(List Int)):Nat→Int→Int→Int→(List aO)→Int→Int→(List aN)→Int→(List Int)→Option (Int×Int×(List aO)×Int×Int×(List aN)×Int×(List Int))
 | 0,_,_,_,_,_,_,_,_,_=>none
 | n6+1,v181,v182,v183,v184,v185,v186,v187,v188,v189 =>
   bnd (decide (v181<(v152.length:Int))) fun x209 =>
   bif x209 then (
    bno (gix v152 v181) fun x211 =>
    bno (v152[(v181:Int).toNat]?) fun x212 =>
    bno (gix v187 a0) fun x213 =>
    chk (v187.length=64)<|bno (v187[(a0:Int).toNat]?) fun x215 =>
    bno (gix v187 x212) fun x216 =>
    bno (v187[(x212:Int).toNat]?) fun x217 =>
    bnd (IntKind.wrap .i64 (x215.weight*x217.weight)) fun x218 =>
    bno (quoI .i64 x218 v53) fun x219 =>
    bnd (max x219 1) fun x220 =>
    bno (gix v187 x212) fun x221 =>
    bno (v187[(x212:Int).toNat]?) fun x222 =>
    bnd (v187.set ((x212:Int).toNat) (⟨x222.id,x222.up,x222.first,x222.next,x220,x222.closed⟩:aN)) fun x223 =>
    bno (gix x223 a0) fun x224 =>
    bno (x223[(a0:Int).toNat]?) fun x225 =>
    bno (eT x212 x225.up v182 v183 v184 v185 v186 x223 v188 v189) fun x226 =>
    bnd (IntKind.wrap .i64 (v181+1)) fun x227 =>
    (hM a0 v53 v152 n6) x227 x226.1 x226.2.1 x226.2.2.1 x226.2.2.2.1 x226.2.2.2.2.1 x226.2.2.2.2.2.1 x226.2.2.2.2.2.2.1 x226.2.2.2.2.2.2.2
   ) else (
     bno (gZ a0 v182 v183 v184 v185 v186 v187 v188 v189) fun x228 =>
     bno (pL (⟨x228.2.2.1,x228.2.2.2.1,x228.2.2.2.2.1⟩:bG) a0) fun x229 =>
     chk (x228.2.2.2.2.2.1.length=64)<|bno (eF x228.2.2.2.2.2.2.2 a0) fun x231 =>
     some (x228.1,x228.2.1,x229.1.Cells,x229.1.Free,x229.1.Used,x228.2.2.2.2.2.1,x228.2.2.2.2.2.2.1,x231)
   )
def hP (a0:Int) (a1:Int) (a2:Int) (a3:(List aO)) (a4:Int) (a5:Int) (a6:(List aN)) (a7:Int) (a8:(List Int)) (v53:Int):Nat→Int→(List Int)→Option (Int×Int×(List aO)×Int×Int×(List aN)×Int×(List Int))
 | 0,_,_=>none
 | n5+1,v151,v152 =>
   bnd (!decide (v151=(-1))) fun x158 =>
   bif x158 then (
    bno (gix a6 v151) fun x160 =>
    bno (a6[(v151:Int).toNat]?) fun x161 =>
    bno (app 8 v152 ([v151]:(List Int))) fun x162 =>
    (hP a0 a1 a2 a3 a4 a5 a6 a7 a8 v53 n5) x161.next x162
   ) else (
     hM a0 v53 v152 fuel 0 a1 a2 a3 a4 a5 a6 a7 a8
   )
def jI (a0:Int) (a1:Int) (a2:Int) (a3:(List aO)) (a4:Int) (a5:Int) (a6:(List aN)) (a7:Int) (a8:(List Int)) (v53:Int):Option (Int×Int×(List aO)×Int×Int×(List aN)×Int×(List Int)) :=
 bnd (decide (a0=(-1))) fun x54 =>
 bif x54 then (
  chk (a6.length=64)<|iA a0 a1 a2 a3 a4 a5 a6 a7 a8 v53 fuel a7 ([]:(List Int))
 ) else (
   bno (gix a6 a0) fun x143 =>
   chk (a6.length=64)<|bno (a6[(a0:Int).toNat]?) fun x145 =>
   hP a0 a1 a2 a3 a4 a5 a6 a7 a8 v53 fuel x145.first ([]:(List Int))
 )
def hD (a0:Int) (a1:Int) (a2:Int) (a3:(List aO)) (a4:Int) (a5:Int) (a6:(List aN)) (a7:Int) (a8:(List Int)):Nat→Int→Int→Option (Int×Int×(List aO)×Int×Int×(List aN)×Int×(List Int))
 | 0,_,_=>none
 | n7+1,v242,v243 =>
   bnd (!decide (v242=(-1))) fun x251 =>
   bif x251 then (
    bno (gix a6 v242) fun x253 =>
    bno (a6[(v242:Int).toNat]?) fun x254 =>
    bno (gix a6 v242) fun x255 =>
    bno (a6[(v242:Int).toNat]?) fun x256 =>
    bnd (IntKind.wrap .i64 (v243+x256.weight)) fun x257 =>
    (hD a0 a1 a2 a3 a4 a5 a6 a7 a8 n7) x254.next x257
   ) else (
     jI a0 a1 a2 a3 a4 a5 a6 a7 a8 v243
   )
def hB (a0:Int) (a1:Int) (a2:Int) (a3:(List aO)) (a4:Int) (a5:Int) (a6:(List aN)) (a7:Int) (a8:(List Int)):Nat→Int→Int→Option (Int×Int×(List aO)×Int×Int×(List aN)×Int×(List Int))
 | 0,_,_=>none
 | n8+1,v268,v269 =>
   bnd (!decide (v268=(-1))) fun x277 =>
   bif x277 then (
    bno (gix a6 v268) fun x279 =>
    bno (a6[(v268:Int).toNat]?) fun x280 =>
    bno (gix a6 v268) fun x281 =>
    bno (a6[(v268:Int).toNat]?) fun x282 =>
    bnd (IntKind.wrap .i64 (v269+x282.weight)) fun x283 =>
    (hB a0 a1 a2 a3 a4 a5 a6 a7 a8 n8) x280.next x283
   ) else (
     jI a0 a1 a2 a3 a4 a5 a6 a7 a8 v269
   )
def mL (a0:Int) (a1:Int) (a2:Int) (a3:(List aO)) (a4:Int) (a5:Int) (a6:(List aN)) (a7:Int) (a8:(List Int)):Option (Int×Int×(List aO)×Int×Int×(List aN)×Int×(List Int)) :=
 bnd (decide (a0=(-1))) fun x232 =>
 bif x232 then (
  chk (a6.length=64)<|hD a0 a1 a2 a3 a4 a5 a6 a7 a8 fuel a7 0
 ) else (
   bno (gix a6 a0) fun x258 =>
   chk (a6.length=64)<|bno (a6[(a0:Int).toNat]?) fun x260 =>
   hB a0 a1 a2 a3 a4 a5 a6 a7 a8 fuel x260.first 0
 )

def rT (a0:bG) (a1:Int):Option (bG×Int×Int) :=
 bno (kG a0) fun x1 =>
 bno (nF a0) fun x2 =>
 bnd (!decide (x2=0)) fun x3 =>
 bif x3 then (
  some ((⟨x1.1,x1.2.1,x1.2.2⟩:bG),0,x2)
 ) else (
   bnd (decide (64≤a0.Used)) fun x5 =>
   bif x5 then (
    some ((⟨x1.1,x1.2.1,x1.2.2⟩:bG),0,7)
   ) else (
     bnd (IntKind.wrap .i64 (x1.2.2+1)) fun x7 =>
     bnd (decide (x1.2.1=(-1))) fun x8 =>
     bif x8 then (
      bno (app 24 x1.1 (([(⟨true,a1,0⟩:aO)]:(List aO)))) fun x10 =>
      some (((⟨x10,x1.2.1,x7⟩:bG),(a0.Cells.length:Int),0))
     ) else (
       bno (gix x1.1 x1.2.1) fun x11 =>
       bno (x1.1[(x1.2.1:Int).toNat]?) fun x12 =>
       bno (gix x1.1 x1.2.1) fun x13 =>
       bno (x1.1[(x1.2.1:Int).toNat]?) fun x14 =>
       bnd (x1.1.set ((x1.2.1:Int).toNat) (⟨true,a1,0⟩:aO)) fun x15 =>
       some ((⟨x15,x12.Link,x7⟩:bG),x1.2.1,0)
     )
   )
 )

def fT (a1:Int) (a7:(List aN)):Nat→Int→Option Bool
 | 0,_=>none
 | n0 + 1,v8 =>
   bnd (!decide (v8=(-1))) fun x16 =>
   bif x16 then (
    bno (gix a7 v8) fun x18 =>
    chk (a7.length=64)<|bno (a7[(v8:Int).toNat]?) fun x20 =>
    bnd (decide (x20.up=a1)) fun x21 =>
    bif x21 then (
     some true
    ) else (
      (fT a1 a7 n0) x20.up
    )
   ) else (
     some false
   )
def lD (a0:Int) (a1:Int) (a2:Int) (a3:Int) (a4:(List aO)) (a5:Int) (a6:Int) (a7:(List aN)) (a8:Int) (a9:(List Int)):Option Bool :=
 fT a1 a7 fuel a0

def eV (a0:Int) (v39:(List Int)):Nat→Int→Int→Int→(List aO)→Int→Int→(List aN)→Int→(List Int)→Option (Int×Int×(List aO)×Int×Int×(List aN)×Int×(List Int))
 | 0,_,_,_,_,_,_,_,_,_=>none
 | n3 + 1,v59,v60,v61,v62,v63,v64,v65,v66,v67 =>
   bnd (decide (v59<(v39.length:Int))) fun x77 =>
   bif x77 then (
    bno (gix v39 v59) fun x79 =>
    bno (v39[(v59:Int).toNat]?) fun x80 =>
    bnd (!decide (x80=a0)) fun x81 =>
    bif x81 then (
     bno (eT x80 a0 v60 v61 v62 v63 v64 v65 v66 v67) fun x83 =>
     bnd (IntKind.wrap .i64 (v59+1)) fun x84 =>
     (eV a0 v39 n3) x84 x83.1 x83.2.1 x83.2.2.1 x83.2.2.2.1 x83.2.2.2.2.1 x83.2.2.2.2.2.1 x83.2.2.2.2.2.2.1 x83.2.2.2.2.2.2.2
    ) else (
      bnd (IntKind.wrap .i64 (v59+1)) fun x85 =>
      (eV a0 v39 n3) x85 v60 v61 v62 v63 v64 v65 v66 v67
    )
   ) else (
     some (v60,v61,v62,v63,v64,v65,v66,v67)
   )
def fV (a0:Int) (x25:(Int×Int×(List aO)×Int×Int×(List aN)×Int×(List Int))) (x29:(List aN)):Nat→Int→(List Int)→Option (Int×Int×(List aO)×Int×Int×(List aN)×Int×(List Int))
 | 0,_,_=>none
 | n2+1,v38,v39 =>
   bnd (!decide (v38=(-1))) fun x45 =>
   bif x45 then (
    bno (gix x29 v38) fun x47 =>
    bno (x29[(v38:Int).toNat]?) fun x48 =>
    bno (app 8 v39 ([v38]:(List Int))) fun x49 =>
    (fV a0 x25 x29 n2) x48.next x49
   ) else (
     eV a0 v39 fuel 0 x25.1 x25.2.1 x25.2.2.1 x25.2.2.2.1 x25.2.2.2.2.1 x29 x25.2.2.2.2.2.2.1 x25.2.2.2.2.2.2.2
   )
def eU (a0:Int) (v94:(List Int)):Nat→Int→Int→Int→(List aO)→Int→Int→(List aN)→Int→(List Int)→Option (Int×Int×(List aO)×Int×Int×(List aN)×Int×(List Int))
 | 0,_,_,_,_,_,_,_,_,_=>none
 | n5 + 1,v114,v115,v116,v117,v118,v119,v120,v121,v122 =>
   bnd (decide (v114<(v94.length:Int))) fun x132 =>
   bif x132 then (
    bno (gix v94 v114) fun x134 =>
    bno (v94[(v114:Int).toNat]?) fun x135 =>
    bnd (!decide (x135=a0)) fun x136 =>
    bif x136 then (
     bno (eT x135 a0 v115 v116 v117 v118 v119 v120 v121 v122) fun x138 =>
     bnd (IntKind.wrap .i64 (v114+1)) fun x139 =>
     (eU a0 v94 n5) x139 x138.1 x138.2.1 x138.2.2.1 x138.2.2.2.1 x138.2.2.2.2.1 x138.2.2.2.2.2.1 x138.2.2.2.2.2.2.1 x138.2.2.2.2.2.2.2
    ) else (
      bnd (IntKind.wrap .i64 (v114+1)) fun x140 =>
      (eU a0 v94 n5) x140 v115 v116 v117 v118 v119 v120 v121 v122
    )
   ) else (
     some (v115,v116,v117,v118,v119,v120,v121,v122)
   )
def fU (a0:Int) (x25:(Int×Int×(List aO)×Int×Int×(List aN)×Int×(List Int))) (x29:(List aN)):Nat→Int→(List Int)→Option (Int×Int×(List aO)×Int×Int×(List aN)×Int×(List Int))
 | 0,_,_=>none
 | n4+1,v93,v94 =>
   bnd (!decide (v93=(-1))) fun x100 =>
   bif x100 then (
    bno (gix x29 v93) fun x102 =>
    bno (x29[(v93:Int).toNat]?) fun x103 =>
    bno (app 8 v94 ([v93]:(List Int))) fun x104 =>
    (fU a0 x25 x29 n4) x103.next x104
   ) else (
     eU a0 v94 fuel 0 x25.1 x25.2.1 x25.2.2.1 x25.2.2.2.1 x25.2.2.2.2.1 x29 x25.2.2.2.2.2.2.1 x25.2.2.2.2.2.2.2
   )
def iU (a0:Int) (x1:Int) (v7:Int) (v8:Bool) (v17:Int) (v18:Int) (v19:(List aO)) (v20:Int) (v21:Int) (v22:(List aN)) (v23:Int) (v24:(List Int)):Option (Int×Int×(List aO)×Int×Int×(List aN)×Int×(List Int)) :=
 bno (eT a0 x1 v17 v18 v19 v20 v21 v22 v23 v24) fun x25 =>
 bno (gix x25.2.2.2.2.2.1 a0) fun x26 =>
 chk (x25.2.2.2.2.2.1.length=64)<|bno (x25.2.2.2.2.2.1[(a0:Int).toNat]?) fun x28 =>
 bnd (x25.2.2.2.2.2.1.set ((a0:Int).toNat) (⟨x28.id,x28.up,x28.first,x28.next,v7,x28.closed⟩:aN)) fun x29 =>
 bif (!v8) then (
  some (x25.1,x25.2.1,x25.2.2.1,x25.2.2.2.1,x25.2.2.2.2.1,x29,x25.2.2.2.2.2.2.1,x25.2.2.2.2.2.2.2)
 ) else (
   bnd (decide (x1=(-1))) fun x31 =>
   bif x31 then (
    fV a0 x25 x29 fuel x25.2.2.2.2.2.2.1 ([]:(List Int))
   ) else (
     bno (gix x29 x1) fun x86 =>
     bno (x29[(x1:Int).toNat]?) fun x87 =>
     fU a0 x25 x29 fuel x87.first ([]:(List Int))
   )
 )
def iV (a0:Int) (a2:Int) (a3:Int) (a4:(List aO)) (a5:Int) (a6:Int) (a7:(List aN)) (a8:Int) (a9:(List Int)) (x1:Int) (v6:Int) (v7:Int) (v8:Bool):Option (Int×Int×(List aO)×Int×Int×(List aN)×Int×(List Int)) :=
 bnd (!decide (x1=(-1))) fun x141 =>
 bno (gd (x141 == true) (lD x1 a0 a2 a3 a4 a5 a6 a7 a8 a9) default) fun x142 =>
 bnd (x141&&x142) fun x143 =>
 bif x143 then (
  bno (gix a7 a0) fun x145 =>
  chk (a7.length=64)<|bno (a7[(a0:Int).toNat]?) fun x147 =>
  bno (eT x1 x147.up a2 a3 a4 a5 a6 a7 a8 a9) fun x148 =>
  iU a0 x1 v7 v8 x148.1 x148.2.1 x148.2.2.1 x148.2.2.2.1 x148.2.2.2.2.1 x148.2.2.2.2.2.1 x148.2.2.2.2.2.2.1 x148.2.2.2.2.2.2.2
 ) else (
   iU a0 x1 v7 v8 a2 a3 a4 a5 a6 a7 a8 a9
 )
def lE (a0:Int) (a1:gS) (a2:Int) (a3:Int) (a4:(List aO)) (a5:Int) (a6:Int) (a7:(List aN)) (a8:Int) (a9:(List Int)):Option (Int×Int×(List aO)×Int×Int×(List aN)×Int×(List Int)) :=
 bno (fN a1.dep a2 a3 a4 a5 a6 a7 a8 a9) fun x1 =>
 bnd (decide (x1=(-1))) fun x149 =>
 bnd (!decide (a1.dep=0)) fun x150 =>
 bnd (x149&&x150) fun x151 =>
 bif x151 then (
  iV a0 a2 a3 a4 a5 a6 a7 a8 a9 x1 0 16 false
 ) else (
   iV a0 a2 a3 a4 a5 a6 a7 a8 a9 x1 a1.dep a1.weight a1.only
 )

def iG (a0:Int) (a1:gS) (v10:Int) (v11:Int) (v12:(List aO)) (v13:Int) (v14:Int) (v15:(List aN)) (v16:Int) (v17:(List Int)):Option (Int×Int×Int×(List aO)×Int×Int×(List aN)×Int×(List Int)) :=
 bno (rT (⟨v12,v13,v14⟩:bG) a0) fun x18 =>
 bnd (!decide (x18.2.2=0)) fun x19 =>
 bif x19 then (
  some (x18.2.2,v10,v11,v12,v13,v14,v15,v16,v17)
 ) else (
   bno (gix v15 x18.2.1) fun x21 =>
   chk (v15.length=64)<|bno (v15[(x18.2.1:Int).toNat]?) fun x23 =>
   bnd (v15.set ((x18.2.1:Int).toNat) (⟨a0,0,(-1),(-1),16,false⟩:aN)) fun x24 =>
   bno (kD x18.2.1 (-1) v10 v11 x18.1.Cells x18.1.Free x18.1.Used x24 v16 v17) fun x25 =>
   bno (lE x18.2.1 a1 x25.1 x25.2.1 x25.2.2.1 x25.2.2.2.1 x25.2.2.2.2.1 x25.2.2.2.2.2.1 x25.2.2.2.2.2.2.1 x25.2.2.2.2.2.2.2) fun x26 =>
   some (0,x26.1,x26.2.1,x26.2.2.1,x26.2.2.2.1,x26.2.2.2.2.1,x26.2.2.2.2.2.1,x26.2.2.2.2.2.2.1,x26.2.2.2.2.2.2.2)
 )
def kS (a0:Int) (a1:gS) (a2:Int) (a3:Int) (a4:(List aO)) (a5:Int) (a6:Int) (a7:(List aN)) (a8:Int) (a9:(List Int)):Option (Int×Int×Int×(List aO)×Int×Int×(List aN)×Int×(List Int)) :=
 bno (mM a2 a3 a4 a5 a6 a7 a8 a9) fun x27 =>
 bnd (decide (a2≤x27)) fun x28 =>
 bif x28 then (
  chk (a7.length=64)<|bnd (decide ((a9.length:Int)=0)) fun x31 =>
  bif x31 then (
   some (7,a2,a3,a4,a5,a6,a7,a8,a9)
  ) else (
    bno (gix a9 0) fun x33 =>
    bno (a9[(0:Int).toNat]?) fun x34 =>
    bno (mL x34 a2 a3 a4 a5 a6 a7 a8 a9) fun x35 =>
    iG a0 a1 x35.1 x35.2.1 x35.2.2.1 x35.2.2.2.1 x35.2.2.2.2.1 x35.2.2.2.2.2.1 x35.2.2.2.2.2.2.1 x35.2.2.2.2.2.2.2
  )
 ) else (
   iG a0 a1 a2 a3 a4 a5 a6 a7 a8 a9
 )

def iC (a0:Int) (a1:Int) (a2:Int) (a3:Bool) (a4:Int) (a5:Int) (a6:(List aO)) (a7:Int) (a8:Int) (a9:(List aN)) (a10:Int) (a11:(List Int)):Option (Int×Int×Int×(List aO)×Int×Int×(List aN)×Int×(List Int)) :=
 bno (mK (⟨a1,a2,a3⟩:gS) a0) fun x1 =>
 bnd (!decide (x1=0)) fun x2 =>
 bif x2 then (
  some (x1,a4,a5,a6,a7,a8,a9,a10,a11)
 ) else (
   bno (fN a0 a4 a5 a6 a7 a8 a9 a10 a11) fun x4 =>
   bnd (!decide (x4=(-1))) fun x5 =>
   bif x5 then (
    some (13,a4,a5,a6,a7,a8,a9,a10,a11)
   ) else (
     bno (kS a0 (⟨a1,a2,a3⟩:gS) a4 a5 a6 a7 a8 a9 a10 a11) fun x7 =>
     some (x7.1,x7.2.1,x7.2.2.1,x7.2.2.2.1,x7.2.2.2.2.1,x7.2.2.2.2.2.1,x7.2.2.2.2.2.2.1,x7.2.2.2.2.2.2.2.1,x7.2.2.2.2.2.2.2.2)
   )
 )

def iB (a0:Int) (a1:Int) (a2:Int) (a3:(List aO)) (a4:Int) (a5:Int) (a6:(List aN)) (a7:Int) (a8:(List Int)):Option Int :=
 bnd (decide (a0=(-1))) fun x1 =>
 bif x1 then (
  some 0
 ) else (
   bno (gix a6 a0) fun x3 =>
   chk (a6.length=64)<|bno (a6[(a0:Int).toNat]?) fun x5 =>
   some x5.id
 )

def eP (a0:(List bI)):Option (List bI):=aAb (fun x=>x.ID) (fun x=>decide (0≤x.ID)&&decide (x.ID≤1048576)) a0

def fW (a0:Int) (a1:Int) (a2:(List aO)) (a3:Int) (a4:Int) (a5:(List aN)) (a6:Int) (a7:(List Int)) (x1:(List Int)):Nat→(List bI)→Int→Option (List bI)
 | 0,_,_=>none
 | n0+1,v11,v12 =>
   bnd (decide (v12<(x1.length:Int))) fun x22 =>
   bif x22 then (
    bno (gix x1 v12) fun x24 =>
    bno (gix a5 x24) fun x25 =>
    chk (a5.length=64)<|bno (a5[(x24:Int).toNat]?) fun x27 =>
    bno (iB x27.up a0 a1 a2 a3 a4 a5 a6 a7) fun x28 =>
    bno (app 32 v11 (([(⟨x27.id,x28,x27.weight,x27.closed⟩:bI)]:(List bI)))) fun x29 =>
    bnd (IntKind.wrap .i64 (v12+1)) fun x30 =>
    (fW a0 a1 a2 a3 a4 a5 a6 a7 x1 n0) x29 x30
   ) else (
     bno (eP v11) fun x31 =>
     chk (x31.length=v11.length)<|some x31
   )
def jS (a0:Int) (a1:Int) (a2:(List aO)) (a3:Int) (a4:Int) (a5:(List aN)) (a6:Int) (a7:(List Int)):Option (List bI) :=
 bno (pK (⟨a2,a3,a4⟩:bG)) fun x1 =>
 fW a0 a1 a2 a3 a4 a5 a6 a7 x1 fuel ([]:(List bI)) 0

def gH (a1:Int) (a2:Int) (a3:(List aO)) (a4:Int) (a5:Int) (a6:(List aN)) (a7:Int) (a8:(List Int)):Nat→(List Int)→Int→Option (List Int)
 | 0,_,_=>none
 | n0+1,v14,v15 =>
   bnd (!decide (v15=(-1))) fun x28 =>
   bno (gd (x28 == true) (gix a6 v15) default) fun x29 =>
   chk ((x28 == true)=true→a6.length=64)<|bno (gd (x28 == true) (a6[(v15:Int).toNat]?) default) fun x31 =>
   bnd (!decide (x31.up=(-1))) fun x32 =>
   bnd (x28&&x32) fun x33 =>
   bif x33 then (
    bno (gix a6 v15) fun x35 =>
    chk (a6.length=64)<|bno (a6[(v15:Int).toNat]?) fun x37 =>
    bno (iB x37.up a1 a2 a3 a4 a5 a6 a7 a8) fun x38 =>
    bno (app 8 v14 ([x38]:(List Int))) fun x39 =>
    (gH a1 a2 a3 a4 a5 a6 a7 a8 n0) x39 x37.up
   ) else (
     some v14
   )
def lR (a0:Int) (a1:Int) (a2:Int) (a3:(List aO)) (a4:Int) (a5:Int) (a6:(List aN)) (a7:Int) (a8:(List Int)):Option (List Int) :=
 bno (fN a0 a1 a2 a3 a4 a5 a6 a7 a8) fun x1 =>
 gH a1 a2 a3 a4 a5 a6 a7 a8 fuel ([]:(List Int)) x1

def kY (a0:(List Int)):Option (List Int):=aAc a0

def jB (v52:(List Int)):Option (List Int) :=
 bno (kY v52) fun x53 =>
 chk (x53.length=v52.length)<|some x53
def gJ (a1:Int) (a2:Int) (a3:(List aO)) (a4:Int) (a5:Int) (a6:(List aN)) (a7:Int) (a8:(List Int)):Nat→Int→(List Int)→Option (List Int)
 | 0,_,_=>none
 | n3+1,v64,v65 =>
   bnd (!decide (v64=(-1))) fun x72 =>
   bif x72 then (
    bno (gix a6 v64) fun x74 =>
    bno (a6[(v64:Int).toNat]?) fun x75 =>
    bno (iB v64 a1 a2 a3 a4 a5 a6 a7 a8) fun x76 =>
    bno (app 8 v65 ([x76]:(List Int))) fun x77 =>
    (gJ a1 a2 a3 a4 a5 a6 a7 a8 n3) x75.next x77
   ) else (
     jB v65
   )
def gI (a1:Int) (a2:Int) (a3:(List aO)) (a4:Int) (a5:Int) (a6:(List aN)) (a7:Int) (a8:(List Int)):Nat→Int→(List Int)→Option (List Int)
 | 0,_,_=>none
 | n4+1,v87,v88 =>
   bnd (!decide (v87=(-1))) fun x95 =>
   bif x95 then (
    bno (gix a6 v87) fun x97 =>
    bno (a6[(v87:Int).toNat]?) fun x98 =>
    bno (iB v87 a1 a2 a3 a4 a5 a6 a7 a8) fun x99 =>
    bno (app 8 v88 ([x99]:(List Int))) fun x100 =>
    (gI a1 a2 a3 a4 a5 a6 a7 a8 n4) x98.next x100
   ) else (
     jB v88
   )
def lS (a0:Int) (a1:Int) (a2:Int) (a3:(List aO)) (a4:Int) (a5:Int) (a6:(List aN)) (a7:Int) (a8:(List Int)):Option (List Int) :=
 bno (fN a0 a1 a2 a3 a4 a5 a6 a7 a8) fun x1 =>
 bnd (decide (x1=(-1))) fun x2 =>
 bnd (!decide (a0=0)) fun x3 =>
 bnd (x2&&x3) fun x4 =>
 bif x4 then (
  some ([]:(List Int))
 ) else (
   bnd (decide (x1=(-1))) fun x55 =>
   bif x55 then (
    chk (a6.length=64)<|gJ a1 a2 a3 a4 a5 a6 a7 a8 fuel a7 ([]:(List Int))
   ) else (
     bno (gix a6 x1) fun x78 =>
     chk (a6.length=64)<|bno (a6[(x1:Int).toNat]?) fun x80 =>
     gI a1 a2 a3 a4 a5 a6 a7 a8 fuel x80.first ([]:(List Int))
   )
 )

end Go.Fn
open Go Go.IL
namespace Go.Fn
structure T_anon22 where
 c0:Int
 c1:Int
 deriving DecidableEq,Inhabited
variable [Fu]
end Go.Fn
open Go Go.IL
namespace Go.Fn
structure aQ where
 ID:Int
 Weight:Int
 Sent:Int
 deriving DecidableEq,Inhabited
def aL:Enc aQ:=⟨⟨fun x=>.agg [.int .i64 x.ID,.int .i64 x.Weight,.int .i64 x.Sent],3,by decide,fun _=>⟨rfl,rfl⟩⟩,fun _=>rfl⟩

structure oB where
 c0:Int
 c1:Int
 c2:Int
 deriving DecidableEq,Inhabited
def aBa:Enc oB:=⟨⟨fun x=>.agg [.int .i64 x.c0,.int .i64 x.c1,.int .i64 x.c2],3,by decide,fun _=>⟨rfl,rfl⟩⟩,fun _=>rfl⟩

structure kN where
 c0:Int
 c1:Int
 deriving DecidableEq,Inhabited
structure aK where
 Parent:Int
 Members:(List aQ)
 deriving DecidableEq,Inhabited
def aC:Enc aK:=⟨⟨fun x=>.agg [.int .i64 x.Parent,.slice false (x.Members.map aL.d)],2,by decide,fun _=>⟨rfl,rfl⟩⟩,fun _=>rfl⟩


def jH (a0:Int) (a1:Int) (a2:Int):Option Bool :=
 bnd (decide (a1≤a0)) fun x1 =>
 bnd (decide (a0≤a2)) fun x2 =>
 bnd (x1&&x2) fun x3 =>
 some x3

def lO (a0:aQ) (a1:aQ) (a2:kN) (a3:Int):Option Bool :=
 bno (jH a0.Weight 1 256) fun x1 =>
 bno (gd (x1 == true) (jH a1.Weight 1 256) default) fun x2 =>
 bnd (x1&&x2) fun x3 =>
 bno (jH a0.Sent 0 1099511627776) fun x4 =>
 bno (gd (x4 == true) (jH a1.Sent 0 1099511627776) default) fun x5 =>
 bnd (x4&&x5) fun x6 =>
 bno (gd (x6 == true) (jH a3 0 1099511627776) default) fun x7 =>
 bnd (x6&&x7) fun x8 =>
 bnd ((!x3)||(!x8)) fun x9 =>
 bno (gd (x9 == false) (jH a2.c0 0 a0.Sent) default) fun x10 =>
 bnd (x9||(!x10)) fun x11 =>
 bno (gd (x11 == false) (jH a2.c1 0 a1.Sent) default) fun x12 =>
 bnd (x11||(!x12)) fun x13 =>
 bif x13 then (
  some false
 ) else (
   bnd (IntKind.wrap .i64 (a0.Sent-a2.c0)) fun x15 =>
   bnd (IntKind.wrap .i64 (x15*a1.Weight)) fun x16 =>
   bnd (IntKind.wrap .i64 (a1.Sent-a2.c1)) fun x17 =>
   bnd (IntKind.wrap .i64 (x17*a0.Weight)) fun x18 =>
   bnd (IntKind.wrap .i64 (x16-x18)) fun x19 =>
   bnd (IntKind.wrap .i64 (0-x19)) fun x20 =>
   bnd (max x19 x20) fun x21 =>
   bnd (IntKind.wrap .i64 (a0.Weight+a1.Weight)) fun x22 =>
   bnd (IntKind.wrap .i64 (a3*x22)) fun x23 =>
   bnd (decide (x21≤x23)) fun x24 =>
   some x24
 )

def fA (a0:Int) (a1:Int) (a2:Int):Option Bool :=
 bnd (decide (a1≤a0)) fun x1 =>
 bnd (decide (a0≤a2)) fun x2 =>
 bnd (x1&&x2) fun x3 =>
 some x3

def jM (a0:aQ) (a1:aQ) (a2:kN) (a3:Int):Option Bool :=
 bno (fA a0.Weight 1 256) fun x1 =>
 bno (gd ((!x1) == false) (fA a1.Weight 1 256) default) fun x2 =>
 bnd ((!x1)||(!x2)) fun x3 =>
 bno (gd (x3 == false) (fA a0.Sent 0 1099511627776) default) fun x4 =>
 bnd (x3||(!x4)) fun x5 =>
 bno (gd (x5 == false) (fA a1.Sent 0 1099511627776) default) fun x6 =>
 bnd (x5||(!x6)) fun x7 =>
 bno (gd (x7 == false) (fA a2.c0 0 a0.Sent) default) fun x8 =>
 bnd (x7||(!x8)) fun x9 =>
 bno (gd (x9 == false) (fA a2.c1 0 a1.Sent) default) fun x10 =>
 bnd (x9||(!x10)) fun x11 =>
 bno (gd (x11 == false) (fA a3 0 1099511627776) default) fun x12 =>
 bnd (x11||(!x12)) fun x13 =>
 bif x13 then (
  some false
 ) else (
   bnd (IntKind.wrap .i64 (a0.Sent-a2.c0)) fun x15 =>
   bnd (IntKind.wrap .i64 (x15*a1.Weight)) fun x16 =>
   bnd (IntKind.wrap .i64 (a1.Sent-a2.c1)) fun x17 =>
   bnd (IntKind.wrap .i64 (x17*a0.Weight)) fun x18 =>
   bnd (IntKind.wrap .i64 (x16-x18)) fun x19 =>
   bnd (IntKind.wrap .i64 (a0.Weight+a1.Weight)) fun x20 =>
   bnd (IntKind.wrap .i64 (a3*x20)) fun x21 =>
   bnd (decide (x19≤x21)) fun x22 =>
   bnd (IntKind.wrap .i64 (0-x19)) fun x23 =>
   bnd (decide (x23≤x21)) fun x24 =>
   bnd (x22&&x24) fun x25 =>
   some x25
 )

def eB (a0:(List aQ)):Option (List aQ) :=
 yN a0 (
  some []
 ) (
   bno (app 24 ([]:(List aQ)) a0) fun x3 =>
   some x3
 )

def gE (a0:(List aK)):Nat→(List aK)→Int→Option (List aK)
 | 0,_,_=>none
 | n0+1,v7,v8 =>
   bnd (decide (v8<(a0.length:Int))) fun x15 =>
   bif x15 then (
    bno (gix a0 v8) fun x17 =>
    bno (eB x17.Members) fun x18 =>
    bno (app 32 v7 (([(⟨x17.Parent,x18⟩:aK)]:(List aK)))) fun x19 =>
    bnd (IntKind.wrap .i64 (v8+1)) fun x20 =>
    (gE a0 n0) x19 x20
   ) else (
     some v7
   )
def lN (a0:(List aK)):Option (List aK) :=
 gE a0 fuel ([]:(List aK)) 0

def oE (a0:aK):Option Bool :=
 bnd (decide (24<(a0.Members.length:Int))) fun x1 =>
 some x1

def cF (a0:(List aK)):Nat→Int→Option Int
 | 0,_=>none
 | n0 + 1,v7 =>
   bnd (decide (v7<(a0.length:Int))) fun x14 =>
   bif x14 then (
    bno (gix a0 v7) fun x16 =>
    bno (oE x16) fun x17 =>
    bif x17 then (
     some v7
    ) else (
      bnd (IntKind.wrap .i64 (v7+1)) fun x19 =>
      (cF a0 n0) x19
    )
   ) else (
     some (-1)
   )
def dV (a0:(List aK)):Option Int :=
 cF a0 fuel 0

def dM (a0:(List aK)):Option Bool :=
 bno (dV a0) fun x1 =>
 bnd (decide (0≤x1)) fun x2 =>
 some x2

def lA (a0:aQ):Option Bool :=
 bno (jH a0.ID 1 1048576) fun x1 =>
 bno (gd (x1 == true) (jH a0.Weight 1 256) default) fun x2 =>
 bnd (x1&&x2) fun x3 =>
 bno (gd (x3 == true) (jH a0.Sent 0 1099511627776) default) fun x4 =>
 bnd (x3&&x4) fun x5 =>
 some x5

def mW (a0:aQ):Option Bool :=
 bno (lA a0) fun x1 =>
 some (!x1)

def cA (a0:(List aQ)):Nat→Int→Option Int
 | 0,_=>none
 | n0 + 1,v7 =>
   bnd (decide (v7<(a0.length:Int))) fun x14 =>
   bif x14 then (
    bno (gix a0 v7) fun x16 =>
    bno (mW x16) fun x17 =>
    bif x17 then (
     some v7
    ) else (
      bnd (IntKind.wrap .i64 (v7+1)) fun x19 =>
      (cA a0 n0) x19
    )
   ) else (
     some (-1)
   )
def dH (a0:(List aQ)):Option Int :=
 cA a0 fuel 0

def dF (a0:(List aQ)):Option Bool :=
 bno (dH a0) fun x1 =>
 bnd (decide (0≤x1)) fun x2 =>
 some x2

def oD (a0:aK):Option Bool :=
 bno (jH a0.Parent 0 1048576) fun x1 =>
 bno (gd ((!x1) == false) (dF a0.Members) default) fun x2 =>
 bnd ((!x1)||x2) fun x3 =>
 some x3

def cE (a0:(List aK)):Nat→Int→Option Int
 | 0,_=>none
 | n0 + 1,v7 =>
   bnd (decide (v7<(a0.length:Int))) fun x14 =>
   bif x14 then (
    bno (gix a0 v7) fun x16 =>
    bno (oD x16) fun x17 =>
    bif x17 then (
     some v7
    ) else (
      bnd (IntKind.wrap .i64 (v7+1)) fun x19 =>
      (cE a0 n0) x19
    )
   ) else (
     some (-1)
   )
def dU (a0:(List aK)):Option Int :=
 cE a0 fuel 0

def dL (a0:(List aK)):Option Bool :=
 bno (dU a0) fun x1 =>
 bnd (decide (0≤x1)) fun x2 =>
 some x2

def jL (a0:aK):Nat→Int→Option Bool
 | 0,_=>none
 | n0 + 1,v9 =>
   bnd (decide (v9<(a0.Members.length:Int))) fun x18 =>
   bif x18 then (
    bnd (IntKind.wrap .i64 (v9-1)) fun x20 =>
    bno (gix a0.Members x20) fun x21 =>
    bno (gix a0.Members v9) fun x22 =>
    bnd (decide (x22.ID≤x21.ID)) fun x23 =>
    bif x23 then (
     some false
    ) else (
      bnd (IntKind.wrap .i64 (v9+1)) fun x25 =>
      (jL a0 n0) x25
    )
   ) else (
     some true
   )
def oC (a0:aK):Option Bool :=
 jL a0 fuel 1

def kL (a0:(List aK)):Nat→Int→Option Int
 | 0,_=>none
 | n1 + 1,v20 =>
   bnd (decide (v20<(a0.length:Int))) fun x33 =>
   bif x33 then (
    bno (gix a0 v20) fun x35 =>
    bnd (decide (0<v20)) fun x36 =>
    bnd (IntKind.wrap .i64 (v20-1)) fun x37 =>
    bno (gd (x36 == true) (gix a0 x37) default) fun x38 =>
    bnd (decide (x35.Parent≤x38.Parent)) fun x39 =>
    bnd (x36&&x39) fun x40 =>
    bno (gd (x40 == false) (oC x35) default) fun x41 =>
    bnd (x40||(!x41)) fun x42 =>
    bif x42 then (
     some 10
    ) else (
      bnd (IntKind.wrap .i64 (v20+1)) fun x44 =>
      (kL a0 n1) x44
    )
   ) else (
     some 0
   )
def lY (a0:(List aK)) (v4:Bool):Option Int :=
 bif v4 then (
  some 5
 ) else (
   bno (dL a0) fun x6 =>
   bif x6 then (
    some 8
   ) else (
     kL a0 fuel 0
   )
 )
def lQ (a0:(List aK)):Option Int :=
 bnd (decide (25<(a0.length:Int))) fun x45 =>
 bif x45 then (
  lY a0 x45
 ) else (
   bno (dM a0) fun x47 =>
   lY a0 x47
 )

def lX (a0:aK) (a1:(List (Int×bI))) (a2:(List (Int×Bool))) (a3:(List (Int×Bool))) (a4:Int) (a5:Int) (a6:(List aO)) (a7:Int) (a8:Int) (a9:(List aN)) (a10:Int) (a11:(List Int)):Option Bool :=
 bnd ((mget a1 a0.Parent).getD (⟨0,0,0,false⟩:bI)) fun x1 =>
 bnd ((mget a1 a0.Parent).isSome) fun x2 =>
 bnd (!decide (a0.Parent=0)) fun x3 =>
 bnd (x3&&(!x2)) fun x4 =>
 some x4

def cC (a0:(List aK)) (a1:(List (Int×bI))) (a2:(List (Int×Bool))) (a3:(List (Int×Bool))) (a4:Int) (a5:Int) (a6:(List aO)) (a7:Int) (a8:Int) (a9:(List aN)) (a10:Int) (a11:(List Int)):Nat→Int→Option Int
 | 0,_=>none
 | n0 + 1,v8 =>
   bnd (decide (v8<(a0.length:Int))) fun x16 =>
   bif x16 then (
    bno (gix a0 v8) fun x18 =>
    bno (a0[(v8:Int).toNat]?) fun x19 =>
    bno (lX x19 a1 a2 a3 a4 a5 a6 a7 a8 a9 a10 a11) fun x20 =>
    bif x20 then (
     some v8
    ) else (
      bnd (IntKind.wrap .i64 (v8+1)) fun x22 =>
      (cC a0 a1 a2 a3 a4 a5 a6 a7 a8 a9 a10 a11 n0) x22
    )
   ) else (
     some (-1)
   )
def dS (a0:(List aK)) (a1:(List (Int×bI))) (a2:(List (Int×Bool))) (a3:(List (Int×Bool))) (a4:Int) (a5:Int) (a6:(List aO)) (a7:Int) (a8:Int) (a9:(List aN)) (a10:Int) (a11:(List Int)):Option Int :=
 cC a0 a1 a2 a3 a4 a5 a6 a7 a8 a9 a10 a11 fuel 0

def bW (a1:(List (Int×bI))) (a2:(List (Int×Bool))) (a3:(List (Int×Bool))) (a4:Int) (a5:Int) (a6:(List aO)) (a7:Int) (a8:Int) (a9:(List aN)) (a10:Int) (a11:(List Int)):Nat→(List aK)→Int→Int→Option (List aK)
 | 0,_,_,_=>none
 | n0 + 1,v17,v18,v19 =>
   bnd (decide (v19<(v17.length:Int))) fun x32 =>
   bif x32 then (
    bno (gix v17 v19) fun x34 =>
    bno (v17[(v19:Int).toNat]?) fun x35 =>
    bno (lX x35 a1 a2 a3 a4 a5 a6 a7 a8 a9 a10 a11) fun x36 =>
    bif (!x36) then (
     bno (gix v17 v18) fun x38 =>
     bno (v17[(v18:Int).toNat]?) fun x39 =>
     bnd (v17.set ((v18:Int).toNat) x35) fun x40 =>
     bnd (IntKind.wrap .i64 (v18+1)) fun x41 =>
     bnd (IntKind.wrap .i64 (v19+1)) fun x42 =>
     (bW a1 a2 a3 a4 a5 a6 a7 a8 a9 a10 a11 n0) x40 x41 x42
    ) else (
      bnd (IntKind.wrap .i64 (v19+1)) fun x43 =>
      (bW a1 a2 a3 a4 a5 a6 a7 a8 a9 a10 a11 n0) v17 v18 x43
    )
   ) else (
     bno (cut v17 0 v18) fun x44 =>
     bno (cut x44 0 v18) fun x45 =>
     some x45
   )
def dP (a0:(List aK)) (a1:(List (Int×bI))) (a2:(List (Int×Bool))) (a3:(List (Int×Bool))) (a4:Int) (a5:Int) (a6:(List aO)) (a7:Int) (a8:Int) (a9:(List aN)) (a10:Int) (a11:(List Int)):Option (List aK) :=
 bno (dS a0 a1 a2 a3 a4 a5 a6 a7 a8 a9 a10 a11) fun x1 =>
 bnd (decide (x1=(-1))) fun x2 =>
 bif x2 then (
  some a0
 ) else (
   bnd (IntKind.wrap .i64 (x1+1)) fun x4 =>
   bW a1 a2 a3 a4 a5 a6 a7 a8 a9 a10 a11 fuel a0 x1 x4
 )

def jQ (a0:aK) (a1:Int):Option Int :=
 bnd (IntKind.wrap .i64 (a0.Parent-a1)) fun x1 =>
 some x1

def bQ (a0:(List aK)) (a1:Int):Nat→Int→Int→Option (Int×Bool)
 | 0,_,_=>none
 | n0 + 1,v12,v13 =>
   bnd (decide (v12<v13)) fun x25 =>
   bif x25 then (
    bnd (IntKind.wrap .i64 (v12+v13)) fun x27 =>
    bnd (IntKind.wrap .u64 x27) fun x28 =>
    bno (shrI .u64 x28 1) fun x29 =>
    bnd (IntKind.wrap .i64 x29) fun x30 =>
    bno (gix a0 x30) fun x31 =>
    bno (jQ x31 a1) fun x32 =>
    bnd (decide (x32<0)) fun x33 =>
    bif x33 then (
     bnd (IntKind.wrap .i64 (x30+1)) fun x35 =>
     (bQ a0 a1 n0) x35 v13
    ) else (
      (bQ a0 a1 n0) v12 x30
    )
   ) else (
     bnd (decide (v12<(a0.length:Int))) fun x36 =>
     bno (gd (x36 == true) (gix a0 v12) default) fun x37 =>
     bno (gd (x36 == true) (jQ x37 a1) default) fun x38 =>
     bnd (decide (x38=0)) fun x39 =>
     bnd (x36&&x39) fun x40 =>
     some (v12,x40)
   )
def cZ (a0:(List aK)) (a1:Int):Option (Int×Bool) :=
 bQ a0 a1 fuel 0 (a0.length:Int)

def jK (a0:(List aK)) (a1:Int):Option (Int×Bool) :=
 bno (cZ a0 a1) fun x1 =>
 some (x1.1,x1.2)

def fR (a0:Int) (a1:(List aK)) (a2:(List aK)):Option (List aK):=insS 32 a2 a0 a1

def dR (a0:(List aQ)):Option (List aQ) :=
 yN a0 (
  some ([]:(List aQ))
 ) (
   bno (app 24 ([]:(List aQ)) a0) fun x3 =>
   some x3
 )

def gX (x1:(List aQ)):Nat→(List aQ)→Int→Option (List aQ)
 | 0,_,_=>none
 | n0+1,v8,v9 =>
   bnd (decide (v9<(x1.length:Int))) fun x16 =>
   bif x16 then (
    bno (gix v8 v9) fun x18 =>
    bno (v8[(v9:Int).toNat]?) fun x19 =>
    bnd (v8.set ((v9:Int).toNat) (⟨x19.ID,x19.Weight,0⟩:aQ)) fun x20 =>
    bnd (IntKind.wrap .i64 (v9+1)) fun x21 =>
    (gX x1 n0) x20 x21
   ) else (
     some v8
   )
def mI (a0:aK):Option (List aQ) :=
 bno (dR a0.Members) fun x1 =>
 gX x1 fuel x1 0

def cY (a0:(List aQ)) (a1:(List aQ)):Nat→Int→Option Bool
 | 0,_=>none
 | n0 + 1,v10 =>
   bnd (decide (v10<(a0.length:Int))) fun x18 =>
   bif x18 then (
    bno (gix a0 v10) fun x20 =>
    bno (gix a1 v10) fun x21 =>
    bnd ((decide (x20.ID=x21.ID)&&(decide (x20.Weight=x21.Weight)&&(decide (x20.Sent=x21.Sent)&&true)))) fun x22 =>
    bif (!x22) then (
     some false
    ) else (
      bnd (IntKind.wrap .i64 (v10+1)) fun x24 =>
      (cY a0 a1 n0) x24
    )
   ) else (
     some true
   )
def eA (a0:(List aQ)) (a1:(List aQ)):Option Bool :=
 bnd (!decide ((a0.length:Int)=(a1.length:Int))) fun x1 =>
 bif x1 then (
  some false
 ) else (
   cY a0 a1 fuel 0
 )

def kZ (a0:aK) (a1:(List aK)):Option (List aK) :=
 bno (jK a1 a0.Parent) fun x1 =>
 bif (!x1.2) then (
  bno (fR x1.1 ([a0]:(List aK)) a1) fun x3 =>
  some x3
 ) else (
   bno (gix a1 x1.1) fun x4 =>
   bno (a1[(x1.1:Int).toNat]?) fun x5 =>
   bno (mI x5) fun x6 =>
   bno (eA x6 a0.Members) fun x7 =>
   bif (!x7) then (
    bno (gix a1 x1.1) fun x9 =>
    bno (a1[(x1.1:Int).toNat]?) fun x10 =>
    bnd (a1.set ((x1.1:Int).toNat) a0) fun x11 =>
    some x11
   ) else (
     some a1
   )
 )

def fG (x2:(List aQ)):Nat→Int→Int→Int→Int→Option Int
 | 0,_,_,_,_=>none
 | n0 + 1,v12,v13,v14,v15 =>
   bnd (decide (v12<(x2.length:Int))) fun x25 =>
   bif x25 then (
    bno (gix x2 v12) fun x27 =>
    bnd (IntKind.wrap .i64 (x27.Sent*v14)) fun x28 =>
    bnd (IntKind.wrap .i64 (v15*x27.Weight)) fun x29 =>
    bnd (decide (x28<x29)) fun x30 =>
    bif x30 then (
     bnd (IntKind.wrap .i64 (v12+1)) fun x32 =>
     (fG x2 n0) x32 x27.ID x27.Weight x27.Sent
    ) else (
      bnd (IntKind.wrap .i64 (v12+1)) fun x33 =>
      (fG x2 n0) x33 v13 v14 v15
    )
   ) else (
     some v13
   )
def lP (a0:aK):Option Int :=
 bno (gix a0.Members 0) fun x1 =>
 bno (cut a0.Members 1 (a0.Members.length:Int)) fun x2 =>
 fG x2 fuel 0 x1.ID x1.Weight x1.Sent

def jV (v32:Int) (kk0:Int→(List (Int×bI))→(List (Int×Bool))→(List (Int×Bool))→Option ((List aK)×Int)) (x68:(List (Int×bI))) (x73:(List (Int×Bool))) (x75:(List Int)):Nat→Int→(List (Int×Bool))→Option ((List aK)×Int)
 | 0,_,_=>none
 | n1+1,v81,v82 =>
   bnd (decide (v81<(x75.length:Int))) fun x88 =>
   bif x88 then (
    bno (gix x75 v81) fun x90 =>
    bnd (mput v82 x90 true) fun x91 =>
    bnd (IntKind.wrap .i64 (v81+1)) fun x92 =>
    (jV v32 kk0 x68 x73 x75 n1) x92 x91
   ) else (
     bnd (IntKind.wrap .i64 (v32+1)) fun x93 =>
     kk0 x93 x68 x73 v82
   )
def jC (v33:(List (Int×bI))) (v34:(List (Int×Bool))) (v35:(List (Int×Bool))) (v137:(List aK)) (v138:Int) (kk2:(List aK)→Int→Option ((List aK)×Int)) (x176:(List Int)):Nat→Int→(List aQ)→Option ((List aK)×Int)
 | 0,_,_=>none
 | n3 + 1,v186,v187 =>
   bnd (decide (v186<(x176.length:Int))) fun x197 =>
   bif x197 then (
    bno (gix x176 v186) fun x199 =>
    bnd ((mget v35 x199).getD false) fun x200 =>
    bif x200 then (
     bnd ((mget v33 x199).getD (⟨0,0,0,false⟩:bI)) fun x202 =>
     bno (app 24 v187 (([(⟨x199,x202.Weight,0⟩:aQ)]:(List aQ)))) fun x203 =>
     bnd (IntKind.wrap .i64 (v186+1)) fun x204 =>
     (jC v33 v34 v35 v137 v138 kk2 x176 n3) x204 x203
    ) else (
      bnd (IntKind.wrap .i64 (v186+1)) fun x205 =>
      (jC v33 v34 v35 v137 v138 kk2 x176 n3) x205 v187
    )
   ) else (
     bno (kZ (⟨v138,v187⟩:aK) v137) fun x206 =>
     bno (jK x206 v138) fun x207 =>
     bno (gix x206 x207.1) fun x208 =>
     bno (x206[(x207.1:Int).toNat]?) fun x209 =>
     bno (lP x209) fun x210 =>
     bnd ((mget v34 x210).getD false) fun x211 =>
     bif x211 then (
      some (x206,x210)
     ) else (
       kk2 x206 x210
     )
   )
def jD (a2:Int) (a3:Int) (a4:(List aO)) (a5:Int) (a6:Int) (a7:(List aN)) (a8:Int) (a9:(List Int)) (v33:(List (Int×bI))) (v34:(List (Int×Bool))) (v35:(List (Int×Bool))):Nat→(List aK)→Int→Option ((List aK)×Int)
 | 0,_,_=>none
 | n2+1,v137,v138 =>
   bno (lS v138 a2 a3 a4 a5 a6 a7 a8 a9) fun x176 =>
   jC v33 v34 v35 v137 v138 (jD a2 a3 a4 a5 a6 a7 a8 a9 v33 v34 v35 n2) x176 fuel 0 ([]:(List aQ))
def gW (a0:(List aK)) (a1:(List Int)) (a2:Int) (a3:Int) (a4:(List aO)) (a5:Int) (a6:Int) (a7:(List aN)) (a8:Int) (a9:(List Int)) (x1:(List aK)) (x2:(List bI)):Nat→Int→(List (Int×bI))→(List (Int×Bool))→(List (Int×Bool))→Option ((List aK)×Int)
 | 0,_,_,_,_=>none
 | n0 + 1,v32,v33,v34,v35 =>
   bnd (decide (v32<(x2.length:Int))) fun x65 =>
   bif x65 then (
    bno (gix x2 v32) fun x67 =>
    bnd (mput v33 x67.ID x67) fun x68 =>
    bno (gd (x67.Closed == false) (gN a1 x67.ID) default) fun x69 =>
    bnd (x67.Closed||(!x69)) fun x70 =>
    bif x70 then (
     bnd (IntKind.wrap .i64 (v32+1)) fun x72 =>
     (gW a0 a1 a2 a3 a4 a5 a6 a7 a8 a9 x1 x2 n0) x72 x68 v34 v35
    ) else (
      bnd (mput v34 x67.ID true) fun x73 =>
      bnd (mput v35 x67.ID true) fun x74 =>
      bno (lR x67.ID a2 a3 a4 a5 a6 a7 a8 a9) fun x75 =>
      jV v32 (gW a0 a1 a2 a3 a4 a5 a6 a7 a8 a9 x1 x2 n0) x68 x73 x75 fuel 0 x74
    )
   ) else (
     bno (lQ a0) fun x94 =>
     bnd (!decide (x94=0)) fun x95 =>
     bnd (decide ((v34.length:Int)=0)) fun x96 =>
     bnd (x95||x96) fun x97 =>
     bif x97 then (
      some (x1,0)
     ) else (
       bno (dP x1 v33 v34 v35 a2 a3 a4 a5 a6 a7 a8 a9) fun x99 =>
       jD a2 a3 a4 a5 a6 a7 a8 a9 v33 v34 v35 fuel x99 0
     )
   )
def mB (a0:(List aK)) (a1:(List Int)) (a2:Int) (a3:Int) (a4:(List aO)) (a5:Int) (a6:Int) (a7:(List aN)) (a8:Int) (a9:(List Int)):Option ((List aK)×Int) :=
 bno (lN a0) fun x1 =>
 bno (jS a2 a3 a4 a5 a6 a7 a8 a9) fun x2 =>
 gW a0 a1 a2 a3 a4 a5 a6 a7 a8 a9 x1 x2 fuel 0 ([]:(List (Int×bI))) ([]:(List (Int×Bool))) ([]:(List (Int×Bool)))

def fS (x1:(List aQ)):Nat→(List aQ)→Int→Option (List aQ)
 | 0,_,_=>none
 | n0+1,v8,v9 =>
   bnd (decide (v9<(x1.length:Int))) fun x16 =>
   bif x16 then (
    bno (gix v8 v9) fun x18 =>
    bno (v8[(v9:Int).toNat]?) fun x19 =>
    bnd (v8.set ((v9:Int).toNat) (⟨x19.ID,x19.Weight,0⟩:aQ)) fun x20 =>
    bnd (IntKind.wrap .i64 (v9+1)) fun x21 =>
    (fS x1 n0) x20 x21
   ) else (
     some v8
   )
def lC (a0:aK):Option (List aQ) :=
 bno (dR a0.Members) fun x1 =>
 fS x1 fuel x1 0

def lB (a0:aQ) (a1:Int):Option Bool :=
 bnd (decide (a0.ID=a1)) fun x1 =>
 some x1

def cD (a0:(List aQ)) (a1:Int):Nat→Int→Option Int
 | 0,_=>none
 | n0 + 1,v7 =>
   bnd (decide (v7<(a0.length:Int))) fun x14 =>
   bif x14 then (
    bno (gix a0 v7) fun x16 =>
    bno (lB x16 a1) fun x17 =>
    bif x17 then (
     some v7
    ) else (
      bnd (IntKind.wrap .i64 (v7+1)) fun x19 =>
      (cD a0 a1 n0) x19
    )
   ) else (
     some (-1)
   )
def cI (a0:(List aQ)) (a1:Int):Option Int :=
 cD a0 a1 fuel 0

def iT (a0:(List aK)):Nat→(List aK)→Int→Option (List aK)
 | 0,_,_=>none
 | n0+1,v7,v8 =>
   bnd (decide (v8<(a0.length:Int))) fun x15 =>
   bif x15 then (
    bno (gix a0 v8) fun x17 =>
    bno (eB x17.Members) fun x18 =>
    bno (app 32 v7 (([(⟨x17.Parent,x18⟩:aK)]:(List aK)))) fun x19 =>
    bnd (IntKind.wrap .i64 (v8+1)) fun x20 =>
    (iT a0 n0) x19 x20
   ) else (
     some v7
   )
def mV (a0:(List aK)):Option (List aK) :=
 iT a0 fuel ([]:(List aK)) 0

def fC (a1:Int) (a2:Int) (a3:(List aO)) (a4:Int) (a5:Int) (a6:(List aN)) (a7:Int) (a8:(List Int)):Nat→(List Int)→Int→Option (List Int)
 | 0,_,_=>none
 | n0+1,v14,v15 =>
   bnd (!decide (v15=(-1))) fun x28 =>
   bno (gd (x28 == true) (gix a6 v15) default) fun x29 =>
   chk ((x28 == true)=true→a6.length=64)<|bno (gd (x28 == true) (a6[(v15:Int).toNat]?) default) fun x31 =>
   bnd (!decide (x31.up=(-1))) fun x32 =>
   bnd (x28&&x32) fun x33 =>
   bif x33 then (
    bno (gix a6 v15) fun x35 =>
    chk (a6.length=64)<|bno (a6[(v15:Int).toNat]?) fun x37 =>
    bno (iB x37.up a1 a2 a3 a4 a5 a6 a7 a8) fun x38 =>
    bno (app 8 v14 ([x38]:(List Int))) fun x39 =>
    (fC a1 a2 a3 a4 a5 a6 a7 a8 n0) x39 x37.up
   ) else (
     some v14
   )
def kJ (a0:Int) (a1:Int) (a2:Int) (a3:(List aO)) (a4:Int) (a5:Int) (a6:(List aN)) (a7:Int) (a8:(List Int)):Option (List Int) :=
 bno (fN a0 a1 a2 a3 a4 a5 a6 a7 a8) fun x1 =>
 fC a1 a2 a3 a4 a5 a6 a7 a8 fuel ([]:(List Int)) x1

def nP (a0:bI) (a1:Int):Option Bool :=
 bnd (decide (a0.ID=a1)) fun x1 =>
 some x1

def cH (a0:(List bI)) (a1:Int):Nat→Int→Option Int
 | 0,_=>none
 | n0 + 1,v7 =>
   bnd (decide (v7<(a0.length:Int))) fun x14 =>
   bif x14 then (
    bno (gix a0 v7) fun x16 =>
    bno (nP x16 a1) fun x17 =>
    bif x17 then (
     some v7
    ) else (
      bnd (IntKind.wrap .i64 (v7+1)) fun x19 =>
      (cH a0 a1 n0) x19
    )
   ) else (
     some (-1)
   )
def dZ (a0:(List bI)) (a1:Int):Option Int :=
 cH a0 a1 fuel 0

def dQ (a0:(List bI)) (a1:Int):Option Bool :=
 bno (dZ a0 a1) fun x1 =>
 bnd (decide (0≤x1)) fun x2 =>
 some x2

def fY (v:List aQ) (i b:Int):Option (List aQ) :=
 bno (gix v i) fun y1 =>
 bnd (IntKind.wrap .i64 (y1.Sent+b)) fun y2 =>
 some (v.set i.toNat (⟨y1.ID,y1.Weight,y2⟩:aQ))
def gB (g:aK) (a1 a2:Int):Option (List aQ) :=
 bno (cI g.Members a1) fun x1 =>
 bnd (decide (x1<0)) fun x2 =>
 bif x2 then some g.Members else
 bno (gix g.Members x1) fun x3 =>
 bnd (IntKind.wrap .i64 (1099511627776-a2)) fun x4 =>
 bnd (decide (x4<x3.Sent)) fun x5 =>
 bif x5 then bno (lC g) fun x6=>fY x6 x1 a2
 else fY g.Members x1 a2
def gT (x11:List Int) (a2:Int):Nat→List aK→Int→Int→Option (List aK)
 | 0,_,_,_=>none
 | n0 + 1,gs,v20,v21 =>
   bnd (decide (v20<(x11.length:Int))) fun x30 =>
   bif x30 then (
    bno (gix x11 v20) fun x32 =>
    bno (x11[(v20:Int).toNat]?) fun x33 =>
    bno (jK gs x33) fun x34 =>
    bif x34.2 then (
     bno (gix gs x34.1) fun x36 =>
     bno (gB x36 v21 a2) fun x38 =>
     bnd (gs.set x34.1.toNat (⟨x36.Parent,x38⟩:aK)) fun x39 =>
     bnd (IntKind.wrap .i64 (v20+1)) fun x37 =>
     (gT x11 a2 n0) x39 x37 x33
    ) else (
      bnd (IntKind.wrap .i64 (v20+1)) fun x37 =>
      (gT x11 a2 n0) gs x37 x33
    )
   ) else (
     some gs
   )
def nO (a0:(List aK)) (a1:Int) (a2:Int) (a3:Int) (a4:Int) (a5:(List aO)) (a6:Int) (a7:Int) (a8:(List aN)) (a9:Int) (a10:(List Int)):Option (List aK) :=
 bno (mV a0) fun x1 =>
 bno (lQ a0) fun x2 =>
 bnd (!decide (x2=0)) fun x3 =>
 bno (gd (x3 == false) (jH a2 0 1048576) default) fun x4 =>
 bnd (x3||(!x4)) fun x5 =>
 bif x5 then (
  some x1
 ) else (
   bno (kJ a1 a3 a4 a5 a6 a7 a8 a9 a10) fun x7 =>
   bno (jS a3 a4 a5 a6 a7 a8 a9 a10) fun x8 =>
   bno (dQ x8 a1) fun x9 =>
   bif (!x9) then (
    some x1
   ) else (
     bno (app 8 x7 ([0]:(List Int))) fun x11 =>
     gT x11 a2 fuel x1 0 a1
   )
 )

def oW (a0:(List aK)) (a1:(List Int)) (a2:Int) (a3:Int) (a4:Int) (a5:(List aO)) (a6:Int) (a7:Int) (a8:(List aN)) (a9:Int) (a10:(List Int)):Option ((List aK)×Int) :=
 bno (mB a0 a1 a3 a4 a5 a6 a7 a8 a9 a10) fun x1 =>
 bnd (decide (x1.2=0)) fun x2 =>
 bif x2 then (
  some (x1.1,0)
 ) else (
   bno (nO x1.1 x1.2 a2 a3 a4 a5 a6 a7 a8 a9 a10) fun x4 =>
   some (x4,x1.2)
 )

def oV (a0:aK) (a1:aK):Option Bool :=
 bnd (decide (a0.Parent=a1.Parent)) fun x1 =>
 bno (gd (x1 == true) (eA a0.Members a1.Members) default) fun x2 =>
 bnd (x1&&x2) fun x3 =>
 some x3

def bL (a0:(List aK)) (a1:(List aK)):Nat→Int→Option Bool
 | 0,_=>none
 | n0 + 1,v10 =>
   bnd (decide (v10<(a0.length:Int))) fun x18 =>
   bif x18 then (
    bno (gix a0 v10) fun x20 =>
    bno (gix a1 v10) fun x21 =>
    bno (oV x20 x21) fun x22 =>
    bif (!x22) then (
     some false
    ) else (
      bnd (IntKind.wrap .i64 (v10+1)) fun x24 =>
      (bL a0 a1 n0) x24
    )
   ) else (
     some true
   )
def cL (a0:(List aK)) (a1:(List aK)):Option Bool :=
 bnd (!decide ((a0.length:Int)=(a1.length:Int))) fun x1 =>
 bif x1 then (
  some false
 ) else (
   bL a0 a1 fuel 0
 )

def pE (a0:(List aK)) (a1:(List aK)):Option Bool :=
 bno (cL a0 a1) fun x1 =>
 some x1

def gF (x11:(Int×Int×Int×(List aO)×Int×Int×(List aN)×Int×(List Int))) (x12:(Int×Int×Int×(List aO)×Int×Int×(List aN)×Int×(List Int))) (x13:(Int×Int×Int×(List aO)×Int×Int×(List aN)×Int×(List Int))):Nat→(List aK)→(List UInt8)→Int→Option Bool
 | 0,_,_,_=>none
 | n0+1,v23,v24,v25 =>
   bnd (decide (v25<7)) fun x35 =>
   bif x35 then (
    bno (oW v23 ([3,1,5]:(List Int)) 10 x13.2.1 x13.2.2.1 x13.2.2.2.1 x13.2.2.2.2.1 x13.2.2.2.2.2.1 x13.2.2.2.2.2.2.1 x13.2.2.2.2.2.2.2.1 x13.2.2.2.2.2.2.2.2) fun x37 =>
    bno (remI x37.2 10) fun x38 =>
    bnd (IntKind.wrap .u8 x38) fun x39 =>
    bnd (IntKind.wrap .u8 (48+x39)) fun x40 =>
    bno (toU8 x40) fun x41 =>
    bno (cat v24 ([x41]:(List UInt8))) fun x42 =>
    bnd (IntKind.wrap .i64 (v25+1)) fun x43 =>
    (gF x11 x12 x13 n0) x37.1 x42 x43
   ) else (
     bno (mB v23 ([5]:(List Int)) x13.2.1 x13.2.2.1 x13.2.2.2.1 x13.2.2.2.2.1 x13.2.2.2.2.2.1 x13.2.2.2.2.2.2.1 x13.2.2.2.2.2.2.2.1 x13.2.2.2.2.2.2.2.2) fun x44 =>
     bno (mB v23 ([9]:(List Int)) x13.2.1 x13.2.2.1 x13.2.2.2.1 x13.2.2.2.2.1 x13.2.2.2.2.2.1 x13.2.2.2.2.2.2.1 x13.2.2.2.2.2.2.2.1 x13.2.2.2.2.2.2.2.2) fun x45 =>
     bnd (decide (x11.1=0)) fun x46 =>
     bnd (decide (x12.1=0)) fun x47 =>
     bnd (x46&&x47) fun x48 =>
     bnd (decide (x13.1=0)) fun x49 =>
     bnd (x48&&x49) fun x50 =>
     bnd (decide (v24=([49,51,51,49,51,51,49]:List UInt8))) fun x51 =>
     bnd (x50&&x51) fun x52 =>
     bnd (decide ((v23.length:Int)=1)) fun x53 =>
     bnd (x52&&x53) fun x54 =>
     bnd (decide (x44.2=5)) fun x55 =>
     bnd (x54&&x55) fun x56 =>
     bnd (decide ((x44.1.length:Int)=2)) fun x57 =>
     bnd (x56&&x57) fun x58 =>
     bno (gd (x58 == true) (gix x44.1 1) default) fun x59 =>
     bnd (decide (x59.Parent=3)) fun x60 =>
     bnd (x58&&x60) fun x61 =>
     bnd (decide (x45.2=0)) fun x62 =>
     bnd (x61&&x62) fun x63 =>
     bno (gd (x63 == true) (pE v23 x45.1) default) fun x64 =>
     bnd (x63&&x64) fun x65 =>
     bno (gd (x65 == true) (pE v23 x44.1) default) fun x66 =>
     bnd (x65&&(!x66)) fun x67 =>
     bno (gd (x67 == true) (lQ x44.1) default) fun x68 =>
     bnd (decide (x68=0)) fun x69 =>
     bnd (x67&&x69) fun x70 =>
     bno (gd (x70 == true) (lQ ([(⟨(-1),[]⟩:aK)]:(List aK))) default) fun x71 =>
     bnd (decide (x71=8)) fun x72 =>
     bnd (x70&&x72) fun x73 =>
     bno (gd (x73 == true) (gix v23 0) default) fun x74 =>
     bno (gd (x73 == true) (gix x74.Members 0) default) fun x75 =>
     bno (gd (x73 == true) (gix v23 0) default) fun x76 =>
     bno (gd (x73 == true) (gix x76.Members 1) default) fun x77 =>
     bno (gd (x73 == true) (lO x75 x77 (⟨0,0⟩:kN) 10) default) fun x78 =>
     bnd (x73&&x78) fun x79 =>
     bno (gd (x79 == true) (gix v23 0) default) fun x80 =>
     bno (gd (x79 == true) (gix x80.Members 0) default) fun x81 =>
     bno (gd (x79 == true) (gix v23 0) default) fun x82 =>
     bno (gd (x79 == true) (gix x82.Members 1) default) fun x83 =>
     bno (gd (x79 == true) (lO x81 x83 (⟨0,0⟩:kN) 0) default) fun x84 =>
     bnd (x79&&(!x84)) fun x85 =>
     bnd (bif x85 then true else false) fun x86 =>
     bnd (bif x86 then true else false) fun x87 =>
     bnd (bif x87 then true else false) fun x88 =>
     some x88
   )
def kC  : Option Bool :=
 bno (oH 8 1 24) fun x1 =>
 bno (gd ((!x1) == false) (oH 2 0 8) default) fun x2 =>
 bnd ((!x1)||(!x2)) fun x3 =>
 bif x3 then (
  bnd (!decide (8=0)) fun x5 =>
  bnd (x5||true) fun x6 =>
  some false
 ) else (
   bno (uC) fun x7 =>
   bnd (!decide (0=0)) fun x8 =>
   bnd (x8||false) fun x9 =>
   bif x9 then (
    some false
   ) else (
     bno (iC 1 0 16 false 8 2 x7.Cells x7.Free x7.Used ((List.replicate 64 (⟨0,0,0,0,0,false⟩:aN):(List aN))) (-1) []) fun x11 =>
     bno (iC 3 0 32 false x11.2.1 x11.2.2.1 x11.2.2.2.1 x11.2.2.2.2.1 x11.2.2.2.2.2.1 x11.2.2.2.2.2.2.1 x11.2.2.2.2.2.2.2.1 x11.2.2.2.2.2.2.2.2) fun x12 =>
     bno (iC 5 3 1 false x12.2.1 x12.2.2.1 x12.2.2.2.1 x12.2.2.2.2.1 x12.2.2.2.2.2.1 x12.2.2.2.2.2.2.1 x12.2.2.2.2.2.2.2.1 x12.2.2.2.2.2.2.2.2) fun x13 =>
     gF x11 x12 x13 fuel ([]:(List aK)) ([]:(List UInt8)) 0
   )
 )

def fJ (a0:aQ) (a1:aQ) (a2:oB):Option Bool :=
 bno (lO a0 a1 (⟨a2.c0,a2.c1⟩:kN) a2.c2) fun x1 =>
 bno (jM a0 a1 (⟨a2.c0,a2.c1⟩:kN) a2.c2) fun x2 =>
 bnd (x1 == x2) fun x3 =>
 bno (gd (x3 == true) (kC) default) fun x4 =>
 bnd (x3&&x4) fun x5 =>
 some x5

end Go.Fn
