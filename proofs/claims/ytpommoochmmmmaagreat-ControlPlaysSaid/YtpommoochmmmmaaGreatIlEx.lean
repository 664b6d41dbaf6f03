/-
  A part of the proof: rules and plain facts. No condition.
-/
import Derived.Test.YtpommoochmmmmaaGreatIlZ
import Derived.RangeFuncIn
import Derived.Laws.FloatArith
import Derived.Laws.Cover2
import Derived.Laws.Externs
import Derived.Lib.AppendZerosOnto
import Derived.Laws.CopyRow
import Derived.Lib.Overlaps
import Derived.Lib.Bytealg
import Derived.Lib.ItoaNum
import Derived.Lib.Join
import Derived.Laws.Pointers
import Derived.LaidEqlPtr
set_option linter.all false
open Array renaming foldl_toList → Hf,getElem?_append → Cs,getElem?_replicate → Dy,replicate → BX,toArray_toList → BA
open Bool renaming or_eq_true → CB
open Go renaming FuncId → BP,Operand → Ag,Program → An,TypeId → Ak,Value → AI
open Go.IL.HOk renaming put → EA
open Go.IL.Rd renaming mono → Dm
open Go.IL.RdL renaming mono → Bu
open Iff renaming rfl → Gl
open List renaming all_eq_true → AV,getElem?_eq_none → Cg,length_cons → Ao,mapM_toArray → ES,map_cons → AB,mem_cons → AF,nodup_cons → Di,range → Bx,range' → Db,range'_succ → CM,range_eq_range' → Cz,size_toArray → CF,zip_cons_cons → Dq
open Nat renaming blt → Gq,le_of_not_lt → DK,le_refl → AJ,lt_irrefl → CT,not_lt_zero → Fk,sub_zero → DA,zero_add → Bl
open _root_ renaming Option → Ad,absurd → AP,if_neg → Aq,if_pos → Az
namespace Go.IL
open RowKit (Below)

def noK (k:Nat):Ent→Bool
 | .kept j _=>!(j == k)
 | .loop j ..=>!(j == k)
 | _=>true
def aFn (k:Nat) (ids:List Nat) (H:List (Nat×Ent)):Bool:=H.all fun x=>ids.elem x.1||noK k x.2
theorem tU {k:Nat} {ids:List Nat} {H:List (Nat×Ent)} (h:aFn k ids H=true) {id:Nat} (hid:id ∉ ids):noK k (entL H id)=true:=by
 unfold entL
 rcases rF (z:=defE id) (t:=id) (l:=H) with h1 | h1
 · rw [h1]; unfold defE; split <;> rfl
 · have h2:=AV.1 h _ h1
   simp only [CB,List.elem_eq_mem,decide_eq_true_eq] at h2
   exact h2.resolve_left hid

def aR.same (O O':aR):Prop:=O'.w=O.w∧O'.X=O.X∧O'.foot=O.foot∧O'.given=O.given
def vJ (O O':aR):Ent→Prop
 | .kept j _=>O'.kv j=O.kv j∧O'.dv j=O.dv j
 | .loop j ..=>O'.lv j=O.lv j∧O'.lc j=O.lc j
 | _=>True
theorem aD0.swap {O O':aR} {E:Env} {β:bD} {id:Nat} {e:Ent} (h:aD0 O E β id e) (hs:O.same O') (hc:vJ O O' e):aD0 O' E β id e:=by
 obtain ⟨s1,s2,s3,s4⟩:=hs
 have hown:∀ b,O.own b→O'.own b:=fun b hb=>by unfold aR.own at hb ⊢; rw [s1,s3]; exact hb
 cases e with
 | none=>trivial
 | fresh=>exact h
 | blk e ds =>
   rcases h with h | ⟨b,vs,sp,h1,h2,h3⟩
   · exact .inl h
   · exact .inr ⟨b,vs,sp,h1,hown b h2,h3⟩
 | tail e sz n =>
   rcases h with h | ⟨b,c,h1,h2,h3⟩
   · exact .inl h
   · exact .inr ⟨b,c,h1,hown b h2,h3⟩
 | loop lk ds st pend =>
   obtain ⟨b,r,h1,h2,h3,h4,h5,h6,h7,h8,h9,h10,h11⟩:=h
   obtain ⟨c1,c2⟩:O'.lv lk=O.lv lk∧O'.lc lk=O.lc lk:=hc
   exact ⟨b,r,h1,hown b h2,h3,h4,by rw [c2]; exact h5,by rw [c2]; exact h6,by rw [c2]; exact h7,h8,h9,c1.trans h10,h11⟩
 | kept k ds =>
   obtain ⟨c1,c2⟩:O'.kv k=O.kv k∧O'.dv k=O.dv k:=hc
   exact ⟨c1 ▸ h.1,fun b hb=>h.2 b (c2 ▸ hb)⟩
theorem HOk.swap {O O':aR} {E:Env} {β:bD} {H H':Nat→Ent} (h:HOk O E β H) (hs:O.same O') (hc:∀ id,(H' id=H id∧vJ O O' (H id))∨H' id = .none):HOk O' E β H' where
 os:=by rw [hs.1]; exact h.os
 tab:=by rw [hs.1,hs.2.1]; exact h.tab
 tape:=by rw [hs.1]; exact h.tape
 output:=by rw [hs.1]; exact h.output
 size:=by rw [hs.1]; exact h.size
 block k hk hf:=by rw [hs.1] at hk ⊢; rw [hs.2.2.1] at hf; exact h.block k hk hf
 xlt:=h.xlt
 xold b o hb hf:=by rw [hs.1] at hb; rw [hs.2.2.1] at hf; rw [hs.2.1]; exact h.xold b o hb hf
 ent id:=by
  rcases hc id with ⟨h1,h2⟩ | h1
  · rw [h1]; exact (h.ent id).swap hs h2
  · rw [h1]; trivial
 inj i j b hi hj:=by
  have key:∀ i,(H' i).held=true→(H i).held=true:=fun i hi=>by
   rcases hc i with ⟨h1,_⟩ | h1
   · rwa [h1] at hi
   · rw [h1] at hi; cases hi
  exact h.inj i j b (key i hi) (key j hj)
 le:=by rw [hs.1,hs.2.1]; exact h.le
 gid:=by rw [hs.2.2.2]; exact h.gid
 given:=by rw [hs.2.2.2]; exact h.given
theorem HOk.addK {O:aR} {E:Env} {β:bD} {H:List (Nat×Ent)} (h:HOk O E β (entL H)) {id k:Nat} {ds:List D} (hr:RdL E β (O.kv k) ds) (hd:∀ b∈O.dv k,E.w.heap[b]? = some (.deferred (some []))):HOk O E β (entL ((id,.kept k ds)::H)) :=
 { h with
   ent:=fun j=>by
    show aD0 O E β j (look _ _ _)
    rw [aN]
    by_cases hj:id=j
    · rw [Az hj]; exact ⟨hr,hd⟩
    · rw [Aq hj]; exact h.ent j
   inj:=fun i j b hi hj=>by
    have key:∀ i,(entL ((id,.kept k ds)::H) i).held=true→(entL H i).held=true:=fun i hi=>by
     have hi':(look (defE i) i ((id,.kept k ds)::H)).held=true:=hi
     rw [aN] at hi'
     by_cases h:id=i
     · rw [Az h] at hi'; cases hi'
     · rw [Aq h] at hi'; exact hi'
    exact h.inj i j b (key i hi) (key j hj) }

theorem aBh {E:Env} {β:bD} {vs:List AI} {ds:List D} (hv:RdL E β vs ds) (n:Nat) (s:Nat):Rd E β ((vs.toArray++BX n undef).getD s undef) (look .dead s ((Bx ds.length).zip ds)):=by
 have key : ∀ (ds:List D) (vs:List AI) (k:Nat),RdL E β vs ds→Rd E β (if s<k then undef else vs.getD (s-k) undef) (look .dead s ((Db k ds.length).zip ds)):=by
  intro ds
  induction ds with
  | nil=>intro vs k _; simp [look]; exact .dead _ _
  | cons d ds ih =>
    intro vs k hv
    cases hv with
    | cons h1 h2 =>
      simp only [Ao,CM,Dq,aN]
      by_cases hks:k=s
      · subst hks; simpa using h1
      · rw [Aq hks]
        have:=ih _ (k+1) h2
        by_cases hlt:s<k
        · simpa [hlt,show s<k+1 by omega] using this
        · have h3:¬ s<k+1:=by omega
          rw [Aq hlt]; rw [Aq h3] at this
          rw [show s-k=(s-(k+1))+1 by omega]
          simpa using this
 have:=key ds vs 0 hv
 rw [Cz]
 simp only [Fk,if_false,DA] at this
 have hg:(vs.toArray++BX n undef).getD s undef=vs.getD s undef:=by
  by_cases hs:s<vs.length
  · simp [hs,Cs]
  · simp [Cs,hs,Cg (DK hs)]
    simp [Dy]
    split <;> rfl
 rw [hg]
 exact this
theorem xQ {E:Env} {β:bD} {a:Array AI} {ds:List D} (hv:RdL E β a.toList ds) (s:Nat):Rd E β (a.getD s undef) (look .dead s ((Bx ds.length).zip ds)):=by
 have:=aBh hv 0 s
 simpa using this
def allD (N:Nat) (S:St):List D:=(Bx N).map S.get
theorem aC8 {O:aR} {N:Nat} {S:St} {E:Env} {β:bD} {a:Act} (hr:Rel O N S E β a):RdL E β a.tmps.toList (allD N S):=by
 have key:∀ (l:List AI) (k:Nat),(∀ s,s<l.length→Rd E β (l.getD s undef) (S.get (k+s)))→RdL E β l ((Db k l.length).map S.get):=by
  intro l
  induction l with
  | nil=>intro k _; exact .nil _
  | cons v l ih =>
    intro k h
    rw [Ao,CM,AB]
    refine .cons (by simpa using h 0 (by simp)) (ih (k+1) fun s hs=>?_)
    have:=h (s+1) (by simpa using hs)
    rw [show k+1+s=k+(s+1) by omega]
    simpa using this
 unfold allD
 have hn:a.tmps.toList.length=N:=by simpa using hr.n
 have:=key a.tmps.toList 0 fun s hs=>by
  have h1:=hr.sl s
  rw [Bl]
  simpa using h1
 rwa [hn,←Cz] at this
theorem HOk.turn {O:aR} {E:Env} {β:bD} {H:List (Nat×Ent)} (h:HOk O E β (entL H)) {id k:Nat} {ds:List D} {st:LoopState} {pend:Ad Code} (he:entL H id = .loop k ds st pend) :
 ∃ r,E.w.heap[O.lv k]? = some (.loop r)∧β id=some (O.lv k)∧r.params=(O.lc k).1∧r.assign=(O.lc k).2.1∧r.body=(O.lc k).2.2∧r.state=st∧r.pending=pend∧∀ st' pend',(E).le ⟨E.w.putObj (O.lv k) (.loop { r with state:=st',pending:=pend' }),E.X⟩ ∧
   HOk O ⟨E.w.putObj (O.lv k) (.loop { r with state:=st',pending:=pend' }),E.X⟩ β (entL ((id,.loop k ds st' pend')::H)):=by
 have hh:=h.ent id
 rw [he] at hh
 obtain ⟨b,r,h1,h2,h3,h4,h5,h6,h7,h8,h9,h10,h11⟩:=hh
 subst h10
 refine ⟨r,h3,h1,h5,h6,h7,h8,h9,fun st' pend'=>?_⟩
 let E':Env:=⟨E.w.putObj (O.lv k) (.loop { r with state:=st',pending:=pend' }),E.X⟩
 have hs:Step O E E' (O.lv k):=⟨rfl,rfl,rfl,by simp [E',World.putObj],by simpa [E',World.putObj] using cU h3,h2,fun j _ hj=>World.putObj_heap_other hj,fun _ _ _=>Gl,fun _ hx=>by rw [h3] at hx; cases hx⟩
 have hle:E.le E':=hs.le (fun o v _ hx=>AP (h4 o) hx) (fun c e f hx=>by rw [h3] at hx; cases hx)
 refine ⟨hle,EA h hs hle (bD.le.refl _) (id:=id) (fun j hj=>?_) (fun j hj hh hb=>?_) h1 ?_ (fun _ _=>trivial)⟩
 · left; exact ⟨by show look _ _ _=_; rw [aN,Aq (Ne.symm hj)]; rfl,rfl⟩
 · have hh':(look (defE j) j ((id,.loop k ds st' pend')::H)).held=true:=hh
   rw [aN,Aq (Ne.symm hj)] at hh'
   exact hj (h.inj j id _ hh' (by rw [he]; rfl) hb h1)
 · show aKl O E' β _ (look _ _ _)
   rw [aN,Az rfl]
   exact ⟨_,World.putObj_heap_same (cU h3),h4,h5,h6,h7,rfl,rfl,rfl,Bu hle (bD.le.refl _) h11⟩
end Go.IL
namespace Go.IL
open RowKit (Below)
section
variable {P:An} {O:aR} {N:Nat} {S S':St} {Q:Exit→St→Prop}

@[reducible] def rangeQ (P:An) (O:aR) (N k:Nat) (Q:Exit→St→Prop) (e:Exit) (S':St):Prop :=
 (e = .normal∨e = .ret)∧∃ iL iK dl ds' st pend,S'.ent iL = .loop k dl st pend∧st ≠ .busy∧S'.ent iK = .kept k ds'∧aFn k [iL,iK] S'.H=true ∧
   ∃ S2 ρ,Weak ⟨(Bx N).zip ds',(iK,.none)::(iL,.none)::S'.H⟩ S2 ρ∧match pend with
   | none=>Q .normal S2
   | some c=>IWP P O N c S2 Q

theorem aEa {g : Ag} {ps:Array Tmp} {acx bd:Code} {f:BP} {fn:Func} {c:Code} {caps:List D} (k idL idK:Nat)
 (hg:SV S g (.fn f caps)) (hc:bP P f) (hf:P.funcs[f]? = some fn) (hb:fn.body=some c) (hres:fn.results = #[]) {N':Nat} (hn:fn.ntmps=N') (hN':caps.length+1≤N')
 (hfr:aFn k [] S.H=true) (hL:S.ent idL = .fresh) (hO:O.Plain)
 (h:∀ O',O'.round=none→O'.lc k=(ps,acx,bd)→IWP P O' N' c ⟨(Bx (.yld idL::caps).length).zip (.yld idL::caps),(idK,.kept k (allD N S))::(idL,.loop k (allD N S) .ready none)::S.H⟩ (rangeQ P O N k Q)):IWP P O N (.rangeFunc g ps acx bd) S Q:=by
 subst hn
 obtain ⟨Ow,OX,Of,Og,Or,Okv,Olv,Odv,Olc⟩:=O
 obtain ⟨hro,hfoot,hdv⟩:=hO
 simp only at hro hfoot hdv
 subst hro
 intro E β a hr
 obtain ⟨bs,hbs,hnd,hall⟩:=hr.nd
 obtain ⟨vs,hev,hcaps⟩:=aIu (hg.rd hr)
 refine wpIn_rangeFunc ?_
 intro fn0 _
 let r0:Loop:={ state:=.ready,pending:=none,fn:=fn0,tmps:=a.tmps,params:=ps,assign:=acx,body:=bd,defers:=E.w.heap.size }
 let W0:=E.w.alloc (.deferred (some []))
 have hsz0:W0.heap.size=E.w.heap.size+1:=by simp [W0]
 let W1:=W0.alloc (.loop r0)
 have hb0:Below E.w.heap.size E.w W0:=(Below.refl _ _).alloc (AJ _) _
 refine ⟨E.w.heap.size+1,[{ target:=.collected E.w.heap.size,args:=#[] }],W1,{ target:=.fn (.func f) vs.toArray,args:=#[.func (.yield (E.w.heap.size+1)) #[] #[]] },W1,f,
  #[.func (.yield (E.w.heap.size+1)) #[] #[]]++vs.toArray,W1,run_enterLoop_outer _ _ _ _ _,?_,fun _ _=>trivial,?_,fun h=>by simp [fen,Fence.wide] at h,?_⟩
 · simp only [resolve,hev]
   simp [go_sem]
 · simp [invoke,iY hc]
 let O':aR:=⟨Ow,OX,Of,Og,none,fun j=>if j=k then a.tmps.toList else Okv j,fun j=>if j=k then E.w.heap.size+1 else Olv j,fun j=>if j=k then E.w.heap.size::bs else Odv j,fun j=>if j=k then (ps,acx,bd) else Olc j⟩
 have hsame:(⟨Ow,OX,Of,Og,none,Okv,Olv,Odv,Olc⟩:aR).same O':=⟨rfl,rfl,rfl,rfl⟩
 have hcomp : ∀ e,noK k e=true→vJ ⟨Ow,OX,Of,Og,none,Okv,Olv,Odv,Olc⟩ O' e∧vJ O' ⟨Ow,OX,Of,Og,none,Okv,Olv,Odv,Olc⟩ e:=fun e he=>by
  cases e with
  | kept j ds => have:j≠k:=by simpa [noK] using he
                 simp [vJ,O',this]
  | loop j => have:j≠k:=by simpa [noK] using he
              simp [vJ,O',this]
  | _=>exact ⟨trivial,trivial⟩
 have h0:HOk O' ⟨W0,E.X⟩ β (entL S.H):=(hr.h.below hb0).swap hsame fun id=>.inl ⟨rfl,(hcomp _ (tU hfr (by simp))).1⟩
 let E1:Env:=⟨W1,fun b o=>b=E.w.heap.size+1∨E.X b o⟩
 let β1:bD:=fun j=>if j=idL then some (E.w.heap.size+1) else β j
 have hfrL:β idL=none:=by have:=hr.h.ent idL; rw [hL] at this; exact this
 have hβ:β.le β1:=fun j b hj=>by
  by_cases hji:j=idL
  · subst hji; rw [hfrL] at hj; cases hj
  · simp [β1,hji,hj]
 have hs:Step O' ⟨W0,E.X⟩ E1 (E.w.heap.size+1) :=
  ⟨rfl,rfl,rfl,by simp [E1,W1],by simp [E1,W1,hsz0],.inl (by have:=h0.size; simp only [hsz0] at this; exact this),fun j hj _=>heap_alloc_old _ _ hj,fun j o hj=>by simp [E1,hj],fun _ hx=>by have h9:E.w.heap.size+1<W0.heap.size:=cU hx; omega⟩
 have hle:(⟨W0,E.X⟩:Env).le E1:=hs.le (fun o v hx _=>by have:=World.block_lt_of_cell? _ _ hx; simp [hsz0] at this) (fun c e f hx=>by have:=cU hx; simp [hsz0] at this)
 have hle0:E.le E1:=(rI hb0).trans hle
 have hnew:W1.heap[E.w.heap.size+1]? = some (.loop r0):=by have:=World.alloc_heap_new W0 (.loop r0); rwa [hsz0] at this
 have hdef:W1.heap[E.w.heap.size]? = some (.deferred (some [])):=(heap_alloc_old _ _ (by omega)).trans (World.alloc_heap_new E.w _)
 have hrd:RdL E1 β1 a.tmps.toList (allD N S):=Bu hle0 hβ (aC8 hr)
 have h1:HOk O' E1 β1 (entL ((idL,.loop k (allD N S) .ready none)::S.H)):=by
  refine EA h0 hs hle hβ (id:=idL) (fun j hj=>?_) (fun j hj hh hb=>?_) (by simp [β1]) ?_ (fun _ _=>trivial)
  · left; exact ⟨by show look _ _ _=_; rw [aN,Aq (Ne.symm hj)]; rfl,by simp [β1,hj]⟩
  · have hh':(look (defE j) j ((idL,.loop k (allD N S) .ready none)::S.H)).held=true:=hh
    rw [aN,Aq (Ne.symm hj)] at hh'
    have:=h0.lt (j:=j) hh' hb
    simp [hsz0] at this
  · show aKl O' E1 β1 _ (look _ _ _)
    rw [aN,Az rfl]
    exact ⟨r0,hnew,fun o=>.inl rfl,by simp [O',r0],by simp [O',r0],by simp [O',r0],rfl,rfl,by simp [O'],hrd⟩
 have h2:HOk O' E1 β1 (entL ((idK,.kept k (allD N S))::(idL,.loop k (allD N S) .ready none)::S.H)):=by
  refine h1.addK (by simpa [O'] using hrd) fun b hb=>?_
  have hb':b∈E.w.heap.size::bs:=by simpa [O'] using hb
  rcases AF.1 hb' with rfl | hb'
  · exact hdef
  · have hx:=(hall b hb').2
    have hlt:=cU hx
    exact ((heap_alloc_old W0 _ (by omega)).trans (heap_alloc_old E.w _ hlt)).trans hx
 have hargs:RdL E1 β1 (Value.func (.yield (E.w.heap.size+1)) #[] #[]::vs) (.yld idL::caps):=.cons (.yld _ _ _ (by simp [β1])) (Bu hle0 hβ hcaps)
 have hlen:=hargs.length
 have hrel:Rel O' fn.ntmps ⟨(Bx (D.yld idL::caps).length).zip (.yld idL::caps),(idK,.kept k (allD N S))::(idL,.loop k (allD N S) .ready none)::S.H⟩ E1 β1
  { tmps:=(#[Value.func (.yield (E.w.heap.size+1)) #[] #[]]++vs.toArray)++BX (fn.ntmps-(#[Value.func (.yield (E.w.heap.size+1)) #[] #[]]++vs.toArray).size) undef,defers:=[] }:=by
  refine ⟨by simp at hlen ⊢; omega,vN.nil,h2,fun s=>?_⟩
  have:=aBh hargs (fn.ntmps-(#[Value.func (.yield (E.w.heap.size+1)) #[] #[]]++vs.toArray).size) s
  show Rd E1 β1 _ (look _ _ _)
  simpa using this
 refine callsIn_wide (n:=0) |>.2 (rU (E:=E1) (O:=O') hf hb rfl hfoot hrel (h O' rfl (by simp [O'])) ?_)
 rintro e S2 E2 β2 a2 hr2 ⟨he,iL,iK,dl,ds',st,pend,hentL,hst,hentK,hfree,S3,ρ3,hw3,hQ⟩
 refine ⟨he,.tuple #[],by simp [results,hres],?_⟩
 obtain ⟨r,g1,g2,g3,g4,g5,g6,g7,g8⟩:=hr2.h.turn (H:=S2.H) hentL
 obtain ⟨g9,g10⟩:=g8 .exhausted pend
 have hlk:O'.lv k=E.w.heap.size+1:=by simp [O']
 rw [hlk] at g1 g9 g10
 have hkept:=hr2.h.ent iK
 rw [hentK] at hkept
 obtain ⟨k1,k2⟩:=hkept
 have hkv:O'.kv k=a.tmps.toList:=by simp [O']
 have hdk:O'.dv k=E.w.heap.size::bs:=by simp [O']
 rw [hkv] at k1; rw [hdk] at k2
 have hds':ds'.length=N:=by rw [←k1.length]; simpa using hr.n
 let E3:Env:=⟨E2.w.putObj (E.w.heap.size+1) (.loop { r with state:=.exhausted,pending:=pend }),E2.X⟩
 have hrel3:Rel ⟨Ow,OX,Of,Og,none,Okv,Olv,Odv,Olc⟩ N ⟨(Bx N).zip ds',(iK,.none)::(iL,.none)::S2.H⟩ E3 β2 { a with defers:={ target:=.collected E.w.heap.size,args:=#[] }::a.defers }:=by
  refine ⟨hr.n,⟨E.w.heap.size::bs,by rw [AB,←hbs],?_,?_⟩,?_,fun s=>?_⟩
  · rw [Di]
    exact ⟨fun hm=>CT _ (cU (hall _ hm).2),hnd⟩
  · intro b hb
    refine ⟨⟨?_,fun j=>by simp [hdv]⟩,(World.putObj_heap_other ?_).trans (k2 b hb)⟩
    · rcases AF.1 hb with rfl | hb
      · exact hr.h.size
      · exact (hall b hb).1.1
    · rintro rfl; have:=k2 _ hb; rw [g1] at this; cases this
  · refine HOk.swap (O:=O') (H:=entL ((iL,.loop k dl .exhausted pend)::S2.H)) g10 ⟨rfl,rfl,rfl,rfl⟩ fun id=>?_
    show (look _ _ _=look _ _ _∧_)∨_
    simp only [aN]
    by_cases h5:iK=id
    · right; show look _ _ _=_; rw [aN,Az h5]
    · by_cases h6:iL=id
      · right; show look _ _ _=_; rw [aN,Aq h5,aN,Az h6]
      · left
        rw [Aq h5,Aq h6]
        refine ⟨by first | rfl | rw [Aq h6],(hcomp _ ?_).2⟩
        show noK k (look _ _ _)=true
        rw [aN,Aq h6]
        exact tU hfree (by simp; exact ⟨Ne.symm h6,Ne.symm h5⟩)
  · have:=xQ (Bu g9 (bD.le.refl _) k1) s
    rw [hds'] at this
    exact this
 refine ⟨pend,E3.w,?_,?_⟩
 · have:=run_endLoop (P:=P) (l:=E.w.heap.size+1) g1 (by rw [g6]; exact hst)
   rw [g7] at this
   exact this
 · cases pend with
   | none=>obtain ⟨β4,hr4⟩:=hrel3.weak hw3; exact ⟨_,E3,β4,rfl,hr4,hQ⟩
   | some c=>obtain ⟨β4,hr4⟩:=hrel3.weak hw3; exact hQ E3 β4 _ hr4

def jumpOf:Exit→Option (Ad Code)
 | .normal=>some none
 | .ret=>some (some .ret)
 | .exit i=>some (some (.exit i))
 | _=>none
@[reducible] def yieldQ (P:An) (O:aR) (N t k k2:Nat) (ops:Array Oper) (l:List Oper) (Q:Exit→St→Prop) (e:Exit) (S':St):Prop :=
 ∃ iL iK dl dk j,jumpOf e=some j∧S'.ent iL = .loop k dl .busy none∧S'.ent iK = .kept k2 dk∧aFn k2 [iK] S'.H=true∧iL≠iK ∧
   ∃ S2 ρ,Weak ⟨(t,.bool j.isNone)::(Bx N).zip dk,(iL,.loop k dl (if j.isNone then .ready else .done) j)::(iK,.none)::S'.H⟩ S2 ρ∧ILS P O N ops l S2 Q
def aKw (S:St) (l:List (Nat×D)):St:=l.foldl (fun S x=>S.set x.1 x.2) S
theorem aGF {E:Env} {β:bD}:∀ (ps:List Nat) (vs:List AI) (ds:List D) (S:St) (a:Array AI),(∀ p∈ps,p<N)→RdL E β vs ds→Rel O N S E β { tmps:=a,defers:=[] } →
 Rel O N (aKw S (ps.zip ds)) E β { tmps:=(ps.zip vs).foldl (fun t x=>t.setIfInBounds x.1 x.2) a,defers:=[] }
 | [],_,_,S,a,_,_,h=>by simpa [aKw] using h
 | _::_,_,_,S,a,_,.nil _,h=>by simpa [aKw] using h
 | p::ps,_,_,S,a,hp,.cons hv hvs,h=>aGF ps _ _ _ _ (fun q hq=>hp q (by simp [hq])) hvs (h.set (hp p (by simp)) hv)
theorem aEq {ops : Array Oper} {o:Oper} {l:List Oper} {x:Ag} {xs:List Ag} {ts:Array Ak} {t k:Nat} {ps:Array Tmp} {acx bd:Code} {ds da:List D} {N0:Nat} (k2 idL idK:Nat) (hg:pH o=true)
 (ho:o.op = .call { callee:=.value x,args:=xs.toArray,argTypes:=ts }) (hd:o.dst=some t) (ht:t<N) (hx:S.op x = .yld idL) (hxs:SVs S xs da) (he:S.ent idL = .loop k ds .ready none)
 (hn:ds.length=N0) (hps:ps.toList.length=da.length) (hpl:(ps.toList.all fun p=>Gq p N0)=true) (hfr:aFn k2 [] S.H=true) (hK:S.ent idK = .fresh) (hro:O.round=none) (hlc:O.lc k=(ps,acx,bd))
 (S0:St) (ρ0:Nat→Nat) (hw0:Weak (aKw ⟨(Bx ds.length).zip ds,(idK,.kept k2 (allD N S))::S.H⟩ (ps.toList.zip da)) S0 ρ0)
 (h:∀ O',IWP P O' N0 acx S0 (fun e S1=>e = .normal∧∃ iL dl,S1.ent iL = .loop k dl .ready none ∧
   ∃ S2 ρ,Weak ⟨S1.sl,(iL,.loop k dl .busy none)::S1.H⟩ S2 ρ∧IWP P O' N0 bd S2 (yieldQ P O N t k k2 ops l Q))):ILS P O N ops (o::l) S Q:=by
 subst hn
 replace hpl:∀ p∈ps.toList,p<ds.length:=fun p hp=>by simpa using AV.1 hpl p hp
 obtain ⟨Ow,OX,Of,Og,Or,Okv,Olv,Odv,Olc⟩:=O
 simp only at hro
 subst hro
 intro E β a hr
 obtain ⟨bs,hbs,hnd,hall⟩:=hr.nd
 have hkk:k2≠k:=by
  have:=tU hfr (id:=idL) (by simp)
  have he':entL S.H idL=_:=he
  rw [he'] at this
  intro e; subst e; simp [noK] at this
 have hidne:idK≠idL:=by rintro rfl; rw [hK] at he; cases he
 refine wpListIn_plain (rQ hg).1 fun K hK'=>⟨fun _ _=>trivial,?_⟩
 rw [Oper.semAt_eq _ _ _ (aCZ (rQ hg).2)]
 have hent:=hr.h.ent idL
 rw [he] at hent
 obtain ⟨b,r,e1,e2,e3,e4,e5,e6,e7,e8,e9,e10,e11⟩:=hent
 have hev:a.eval x = .func (.yield b) #[] #[]:=by
  have:=hr.op x
  rw [hx] at this
  generalize a.eval x=v at this
  cases this with
  | yld _ _ l hl=>rw [e1] at hl; cases hl; rfl
 have hargs:=hxs.rd hr
 have hal:=hargs.length
 have hrun:(execOp a.eval o).run P E.w = .ok (.round b r.fn ((r.params.zip (xs.map a.eval).toArray).foldl (fun tmps (t,a)=>tmps.setIfInBounds t a) r.tmps) r.assign r.body) E.w:=by
  have hy:=run_yield (P:=P) (args:=(xs.map a.eval).toArray) e3 (by rw [e5,hlc]; simp at hal ⊢; simp at hps; omega)
  simp [execOp,ho,resolve,Deferred.ofValue,hev,invoke]
  simpa using hy
 rw [hrun,Oper.uponIn_round]
 refine ⟨fun h=>by simp [fen,Fence.wide] at h,roundIn_of_wpIn trivial ?_⟩
 have hlc':Olc k=(ps,acx,bd):=hlc
 rw [e6,e7]
 simp only [hlc']
 have hlen:r.tmps.size=ds.length:=by have:=e11.length; simpa using this
 let O':aR:=⟨Ow,OX,Of,Og,some b,fun j=>if j=k2 then a.tmps.toList else Okv j,Olv,fun j=>if j=k2 then bs else Odv j,Olc⟩
 have hcomp:∀ e,noK k2 e=true→vJ ⟨Ow,OX,Of,Og,none,Okv,Olv,Odv,Olc⟩ O' e∧vJ O' ⟨Ow,OX,Of,Og,none,Okv,Olv,Odv,Olc⟩ e:=fun e he=>by
  cases e with
  | kept j ds => have:j≠k2:=by simpa [noK] using he
                 simp [vJ,O',this]
  | _=>exact ⟨by first | trivial | rfl,by first | trivial | rfl⟩
 have h0:HOk O' E β (entL S.H):=hr.h.swap ⟨rfl,rfl,rfl,rfl⟩ fun id=>.inl ⟨rfl,(hcomp _ (tU hfr (by simp))).1⟩
 have h1:HOk O' E β (entL ((idK,.kept k2 (allD N S))::S.H)):=h0.addK (by simpa [O'] using aC8 hr) fun c hc=>(hall c (by simpa [O'] using hc)).2
 have hrel0:Rel O' ds.length ⟨(Bx ds.length).zip ds,(idK,.kept k2 (allD N S))::S.H⟩ E β { tmps:=r.tmps,defers:=[] } :=
  ⟨hlen,vN.nil,h1,fun s=>xQ e11 s⟩
 have hrel1:=aGF ps.toList (xs.map a.eval) da _ r.tmps hpl hargs hrel0
 have htm:(r.params.zip (xs.map a.eval).toArray).foldl (fun tmps (t,a)=>tmps.setIfInBounds t a) r.tmps=(ps.toList.zip (xs.map a.eval)).foldl (fun t x=>t.setIfInBounds x.1 x.2) r.tmps:=by
  rw [e5,hlc,←Hf]; simp
 rw [htm]
 obtain ⟨β6,hr6⟩:=hrel1.weak hw0
 refine wpIn_mono (h O' E β6 _ hr6) ?_
 rintro e a1 w1 ⟨S1,E1,β1,rfl,hr1,rfl,iL,dl,hentL,S7,ρ7,hw7,hbody⟩
 obtain ⟨r1,g1,g2,g3,g4,g5,g6,g7,g8⟩:=hr1.h.turn (H:=S1.H) hentL
 obtain ⟨g9,g10⟩:=g8 .busy none
 have hlk:O'.lv k=b:=e10
 rw [hlk] at g1 g9 g10
 let E2:Env:=⟨E1.w.putObj b (.loop { r1 with state:=.busy,pending:=none }),E1.X⟩
 have hw2:(Instr.beginRound b).run P E1.w = .ok () E2.w:=by
  have:=run_beginRound (P:=P) g1 g6
  rw [this]
  show _=Result.ok () (E1.w.putObj b (.loop { r1 with state:=.busy,pending:=none }))
  congr 3
  rw [←g7]
 refine ⟨E2.w,hw2,?_⟩
 have hrel2:Rel O' ds.length ⟨S1.sl,(iL,.loop k dl .busy none)::S1.H⟩ E2 β1 a1 :=
  ⟨hr1.n,hr1.nd.mono (fun c hc=>(World.putObj_heap_other (by rintro rfl; rw [g1] at hc; cases hc)).trans hc),g10,fun s=>Dm g9 (bD.le.refl _) (hr1.sl s)⟩
 obtain ⟨β7,hr7⟩:=hrel2.weak hw7
 refine wpIn_mono (hbody E2 β7 a1 hr7) ?_
 rintro e a3 w3 ⟨S3,E3,β3,rfl,hr3,iL3,iK3,dl3,dk3,j,hj,hL3,hK3,hf3,hne3,S5,ρ5,hw5,hils⟩
 obtain ⟨r3,m1,m2,m3,m4,m5,m6,m7,m8⟩:=hr3.h.turn (H:=S3.H) hL3
 obtain ⟨m9,m10⟩:=m8 (if j.isNone then .ready else .done) j
 rw [hlk] at m1 m9 m10
 have hkept:=hr3.h.ent iK3
 rw [hK3] at hkept
 obtain ⟨k1,k2'⟩:=hkept
 have hkv:O'.kv k2=a.tmps.toList:=by simp [O']
 have hdk:O'.dv k2=bs:=by simp [O']
 rw [hkv] at k1; rw [hdk] at k2'
 have hdk3:dk3.length=N:=by rw [←k1.length]; simpa using hr.n
 let E4:Env:=⟨E3.w.putObj b (.loop { r3 with state:=if j.isNone then .ready else .done,pending:=j }),E3.X⟩
 have hend:(Instr.endRound b j).run P E3.w = .ok (.bool j.isNone) E4.w:=run_endRound (P:=P) j m1
 have hrel4:Rel ⟨Ow,OX,Of,Og,none,Okv,Olv,Odv,Olc⟩ N ⟨(t,.bool j.isNone)::(Bx N).zip dk3,(iL3,.loop k dl3 (if j.isNone then .ready else .done) j)::(iK3,.none)::S3.H⟩ E4 β3 (a.put (some t) (.bool j.isNone)):=by
  refine Rel.set (S:=⟨(Bx N).zip dk3,(iL3,.loop k dl3 (if j.isNone then .ready else .done) j)::(iK3,.none)::S3.H⟩) ⟨hr.n,⟨bs,hbs,hnd,fun c hc=>⟨(hall c hc).1,(World.putObj_heap_other (by rintro rfl; have:=k2' _ hc; rw [m1] at this; cases this)).trans (k2' c hc)⟩⟩,?_,fun s=>?_⟩ ht (.bool _ _)
  · refine HOk.swap (O:=O') (H:=entL ((iL3,.loop k dl3 (if j.isNone then .ready else .done) j)::S3.H)) m10 ⟨rfl,rfl,rfl,rfl⟩ fun id=>?_
    by_cases h6:iL3=id
    · left
      subst h6
      refine ⟨by show look _ _ _=look _ _ _; rw [aN,Az rfl,aN,Az rfl],(hcomp _ ?_).2⟩
      show noK k2 (look _ _ _)=true
      rw [aN,Az rfl]
      simp [noK,Ne.symm hkk]
    · by_cases h5:iK3=id
      · right; show look _ _ _=_; rw [aN,Aq h6,aN,Az h5]
      · left
        refine ⟨by show look _ _ _=look _ _ _; rw [aN,Aq h6,aN,Aq h5,aN,Aq h6],(hcomp _ ?_).2⟩
        show noK k2 (look _ _ _)=true
        rw [aN,Aq h6]
        exact tU hf3 (by simp; exact Ne.symm h5)
  · have:=xQ (Bu m9 (bD.le.refl _) k1) s
    rw [hdk3] at this
    exact this
 have hfin:K (a.put o.dst (.bool j.isNone)) E4.w:=by
  rw [hd]
  obtain ⟨β5,hr5⟩:=hrel4.weak hw5
  exact hK' _ _ (hils E4 β5 _ hr5)
 cases e with
 | normal=>cases hj; exact ⟨_,_,hend,hfin⟩
 | ret=>cases hj; exact ⟨_,_,hend,hfin⟩
 | exit i=>cases hj; exact ⟨_,_,hend,hfin⟩
 | goto i=>cases hj
 | panic c=>cases hj
 | outgrown=>cases hj

theorem aKz {E:Env} {β:bD} {S:St} {a:Act} {rs:List D} {fn:Func} (hr:Rel O N S E β a) (hres:aAc P S fn.results.toList rs):∃ v,(results fn a.tmps).run P E.w = .ok v E.w∧Rd E β v (retD rs):=by
 obtain ⟨vs',h1,h2⟩:=tN (P:=P) hr hres
 have hrun:(results fn a.tmps).run P E.w = .ok (if h:vs'.toArray.size=1 then vs'.toArray[0] else .tuple vs'.toArray) E.w:=by
  have hF:results fn a.tmps=(fn.results.mapM (resF a.tmps)) >>= fun vs=>pure (if h:vs.size=1 then vs[0] else .tuple vs):=by
   unfold results
   congr 2
  rw [hF,←BA (xs:=fn.results),ES]
  simp only [Sem.run_bind,Sem.run_map,h1,Result.andThen_ok,Sem.run_pure]
 refine ⟨_,hrun,?_⟩
 cases h2 with
 | nil=>simpa [retD] using Rd.tuple (E:=E) β [] [] (.nil _)
 | cons h5 h6 =>
   cases h6 with
   | nil=>simpa [retD] using h5
   | cons h7 h8 =>
     simp only [retD,CF,Ao]
     rw [dif_neg (by omega)]
     exact .tuple _ _ _ (.cons h5 (.cons h7 h8))
@[reducible] def inlQ (P:An) (O:aR) (N t k2:Nat) (fn:Func) (ops:Array Oper) (l:List Oper) (Q:Exit→St→Prop) (e:Exit) (S':St):Prop :=
 (e = .normal∨e = .ret)∧∃ iK dk rs,aAc P S' fn.results.toList rs∧S'.ent iK = .kept k2 dk∧aFn k2 [iK] S'.H=true ∧
   ∃ S2 ρ,Weak ⟨(t,retD rs)::(Bx N).zip dk,(iK,.none)::S'.H⟩ S2 ρ∧ILS P O N ops l S2 Q
theorem aJf {ops : Array Oper} {o:Oper} {l:List Oper} {xs:List Ag} {ts:Array Ak} {f:BP} {fn:Func} {c:Code} {t:Nat} {ds:List D} (k2 idK:Nat) (hg:pH o=true)
 (ho:o.op = .call { callee:=.value (.func f),args:=xs.toArray,argTypes:=ts }) (hd:o.dst=some t) (ht:t<N) (hc:bP P f) (hf:P.funcs[f]? = some fn) (hb:fn.body=some c) (hxs:SVs S xs ds) {N':Nat} (hn:fn.ntmps=N') (hN:ds.length≤N')
 (hfr:aFn k2 [] S.H=true) (hO:O.Plain)
 (h:∀ O',O'.round=none→IWP P O' N' c ⟨(Bx ds.length).zip ds,(idK,.kept k2 (allD N S))::S.H⟩ (inlQ P O N t k2 fn ops l Q)):ILS P O N ops (o::l) S Q:=by
 subst hn
 obtain ⟨Ow,OX,Of,Og,Or,Okv,Olv,Odv,Olc⟩:=O
 obtain ⟨hro,hfoot,hdv⟩:=hO
 simp only at hro hfoot hdv
 subst hro
 intro E β a hr
 obtain ⟨bs,hbs,hnd,hall⟩:=hr.nd
 refine wpListIn_plain (rQ hg).1 fun K hK'=>aHY _ (rQ hg).2 ?_
 have hrun:(execOp a.eval o).run P E.w = .ok (.enter f (xs.map a.eval).toArray) E.w:=by
  simp [execOp,ho,resolve,Deferred.ofValue,Act.eval,invoke,iY hc]
 unfold Oper.wp
 rw [hrun]
 simp only [Oper.upon,hd]
 let O':aR:=⟨Ow,OX,Of,Og,none,fun j=>if j=k2 then a.tmps.toList else Okv j,Olv,fun j=>if j=k2 then bs else Odv j,Olc⟩
 have hcomp:∀ e,noK k2 e=true→vJ ⟨Ow,OX,Of,Og,none,Okv,Olv,Odv,Olc⟩ O' e∧vJ O' ⟨Ow,OX,Of,Og,none,Okv,Olv,Odv,Olc⟩ e:=fun e he=>by
  cases e with
  | kept j ds => have:j≠k2:=by simpa [noK] using he
                 simp [vJ,O',this]
  | loop j=>simp [vJ,O']
  | _=>exact ⟨trivial,trivial⟩
 have h0:HOk O' E β (entL S.H):=hr.h.swap ⟨rfl,rfl,rfl,rfl⟩ fun id=>.inl ⟨rfl,(hcomp _ (tU hfr (by simp))).1⟩
 have h1:HOk O' E β (entL ((idK,.kept k2 (allD N S))::S.H)):=h0.addK (by simpa [O'] using aC8 hr) fun c hc=>(hall c (by simpa [O'] using hc)).2
 have hargs:=hxs.rd hr
 have hlen:=hargs.length
 have hrel:Rel O' fn.ntmps ⟨(Bx ds.length).zip ds,(idK,.kept k2 (allD N S))::S.H⟩ E β { tmps:=(xs.map a.eval).toArray++BX (fn.ntmps-(xs.map a.eval).toArray.size) undef,defers:=[] }:=by
  refine ⟨by simp at hlen ⊢; omega,vN.nil,h1,fun s=>?_⟩
  have:=aBh hargs (fn.ntmps-(xs.map a.eval).toArray.size) s
  show Rd E β _ (look _ _ _)
  simpa using this
 refine rU (E:=E) (O:=O') hf hb rfl hfoot hrel (h O' rfl) ?_
 rintro e S2 E2 β2 a2 hr2 ⟨he,iK,dk,rs,hres,hentK,hfree,S5,ρ5,hw5,hils⟩
 refine ⟨he,?_⟩
 obtain ⟨v,hv,hrd⟩:=aKz hr2 hres
 have hkept:=hr2.h.ent iK
 rw [hentK] at hkept
 obtain ⟨k1,k2'⟩:=hkept
 have hkv:O'.kv k2=a.tmps.toList:=by simp [O']
 have hdk:O'.dv k2=bs:=by simp [O']
 rw [hkv] at k1; rw [hdk] at k2'
 have hdk3:dk.length=N:=by rw [←k1.length]; simpa using hr.n
 suffices hrel5:Rel ⟨Ow,OX,Of,Og,none,Okv,Olv,Odv,Olc⟩ N ⟨(t,retD rs)::(Bx N).zip dk,(iK,.none)::S2.H⟩ E2 β2 (a.put (some t) v) by
  obtain ⟨β5,hr5⟩:=hrel5.weak hw5
  exact ⟨v,hv,hK' _ _ (hils E2 β5 _ hr5)⟩
 refine Rel.set (S:=⟨(Bx N).zip dk,(iK,.none)::S2.H⟩) ⟨hr.n,⟨bs,hbs,hnd,fun c hc=>⟨(hall c hc).1,k2' c hc⟩⟩,?_,fun s=>?_⟩ ht hrd
 · refine HOk.swap (O:=O') (H:=entL S2.H) hr2.h ⟨rfl,rfl,rfl,rfl⟩ fun id=>?_
   by_cases h5:iK=id
   · right; show look _ _ _=_; rw [aN,Az h5]
   · left
     refine ⟨by show look _ _ _=look _ _ _; rw [aN,Aq h5],(hcomp _ ?_).2⟩
     exact tU hfree (by simp; exact Ne.symm h5)
 · have:=xQ k1 s
   rw [hdk3] at this
   exact this
theorem SV.gsls {x:Ag} {id sz:Nat} {l:List D} (h:SV S x (.gsl id sz l)):SV S x (.slice false l):=fun E β v hv=>by
 have:=h E β v hv
 cases this with
 | gsl _ _ b len cap _ vs _ hβ hl hc hz hsz hr hv c e f h1 h2 h3=>exact .slice _ _ _ _ _ _ _ _ _ hl hc (by simp) hz hsz hr hv
 | ngsl=>exact .nslice _ _
theorem SV.nilss {x:Ag} {f:Bool} (h:SV S x .nils):SV S x (.slice f []):=fun E β v hv=>by
 have:=h E β v hv
 cases this; exact .nslice _ _
end
end Go.IL
open Go.IL.D renaming flat → Al,refsInL → AG
open List renaming length_map → Bf,replicate → Ay
namespace Go.IL

section
variable {P:An} {O:aR} {N:Nat} {S S':St} {o:Oper} {t:Nat}
end
def aDz (P : An) (f : BP) (g : Array AI → Sem AI) : Prop := ∃ fn, P.funcs[f]? = some fn ∧ (fn.name == "runtime.NumGoroutine") = false ∧ fn.body.isNone = true ∧ Extern.findNext fn = none ∧ Extern.find fn = some g
section
variable {P:An} {O:aR} {N:Nat} {S S':St} {o:Oper} {t:Nat}
end
section
variable {P:An} {O:aR} {N:Nat} {S S':St} {o:Oper} {t:Nat}
theorem aLU {x y u:Ag} {ts:Array Ak} {k:IntKind} {a b d c:Int} (ho:o.op = .call { callee:=.builtin .max,args:=#[x,y,u],argTypes:=ts }) (hd:o.dst=some t) (ht:t<N)
 (hx:SV S x (.int k a)) (hy:SV S y (.int k b)) (hu:SV S u (.int k d)) (hc:max (max a b) d=c):IOp P O N o S (S.set t (.int k c)) :=
 eO hd ht fun E β ac hr=>⟨.int k c,by
  subst hc
  have h1:∀ a b:Int,(if a<b then b else a)=max a b:=by intro a b; split <;> omega
  simp [execOp,ho,resolve,invoke,builtin,Builtin.max_,Builtin.max2,fH (hx.rd hr),fH (hy.rd hr),fH (hu.rd hr),h1],.int _ _ _⟩
theorem aLT {x y u:Ag} {ts:Array Ak} {k:IntKind} {a b d c:Int} (ho:o.op = .call { callee:=.builtin .min,args:=#[x,y,u],argTypes:=ts }) (hd:o.dst=some t) (ht:t<N)
 (hx:SV S x (.int k a)) (hy:SV S y (.int k b)) (hu:SV S u (.int k d)) (hc:min (min a b) d=c):IOp P O N o S (S.set t (.int k c)) :=
 eO hd ht fun E β ac hr=>⟨.int k c,by
  subst hc
  have h1:∀ a b:Int,(if b<a then b else a)=min a b:=by intro a b; split <;> omega
  simp [execOp,ho,resolve,invoke,builtin,Builtin.min_,Builtin.min2,fH (hx.rd hr),fH (hy.rd hr),fH (hu.rd hr),h1],.int _ _ _⟩
end
section
variable {P:An} {O:aR} {N:Nat} {S S':St} {o:Oper} {t:Nat}
theorem aBI {T e:Ak} {len esz eb:Nat} {ez:AI} {ps:List (Nat×Ag)} {dps:List (Nat×D)} {ds:List D} (ho:o.op = .buildSlice T len ps.toArray) (hd:o.dst=some t) (ht:t<N)
 (hu:P.underlying T=some (.slice e)) (he:TI P e (some ez) esz eb) (hsp:0<esz) (hx:PVs S ps dps)
 (hfill:xG (fun i=>some (i*esz,esz)) (Ay (len*esz) .dead) dps=some (Al ds)) (hl:ds.length=len) (hz:∀ d∈ds,d.cells.length=esz) (hp:AG noRef (Al ds)=true) (hb:len*esz≤2 ^ 24) :
 IOp P O N o S (S.set t (.slice false ds)):=by
 subst hl
 refine aEk hd ht fun E β a hr=>?_
 obtain ⟨i,h1,h2,h3,_⟩:=he.at
 let init:Array AI:=(Array.range (ds.length*esz)).map fun k=>(if ds.length*esz=0 then #[] else ez.cells)[k % (if ds.length*esz=0 then #[] else ez.cells).size]!
 have hinit:RdL E β init.toList (Ay (ds.length*esz) .dead):=by
  have:=vT E β init.toList
  rwa [show init.toList.length=ds.length*esz by simp [init]] at this
 obtain ⟨cells,h4,h5⟩:=aAu hr hx hinit hfill
 have hcl:cells.size=ds.length*esz:=by have:=h5.length; rw [pM hz] at this; simpa using this
 have hbel:RowKit.Below E.w.heap.size E.w (E.w.alloc (.cells cells e)):=(RowKit.Below.refl _ _).alloc (AJ _) _
 refine ⟨.slice (some ⟨E.w.heap.size,0,none⟩) ds.length ds.length,E.w.alloc (.cells cells e),?_,hbel,?_⟩
 · have hb':¬ (2 ^ 24<ds.length*esz):=by omega
   simp only [execOp,ho,Instr.buildSlice,Sem.run_bind,run_underlying hu,Result.andThen_ok,he.run_size]
   rw [Aq (by simpa using hb')]
   by_cases h0:ds.length*esz=0
   · have h4':=h4
     simp only [init,h0,if_true] at h4' ⊢
     simp at h4'
     simp [h4',newRow]
   · have h4':=h4
     simp only [init,h0,if_false] at h4' ⊢
     simp [zeroValue,typeInfo,h1,h2,h4',newRow]
 · refine .slice _ _ 0 _ _ esz false cells.toList _ rfl (AJ _) (by simp) hz hsp (fun k v hk=>⟨?_,fun h=>by have:=hr.h.xlt _ _ h; omega⟩) (Bu (rI hbel) (bD.le.refl _) (h5.bare hp))
   rw [Bl]
   refine (cell_of_row _ E.w.heap.size k _ _ _ (heap_alloc_new E.w _)).trans ?_
   simpa using hk
theorem iop_bsF {α:Type} (f:Enc α) (xs:List α) {T e:Ak} {len eb:Nat} {ez:AI} {ps:List (Nat×Ag)} {dps:List (Nat×D)} (ho:o.op = .buildSlice T len ps.toArray) (hd:o.dst=some t) (ht:t<N)
 (hu:P.underlying T=some (.slice e)) (he:TI P e (some ez) f.sz eb) (hx:PVs S ps dps)
 (hfill:xG (fun i=>some (i*f.sz,f.sz)) (Ay (len*f.sz) .dead) dps=some (Al (xs.map f.d))) (hl:xs.length=len) (hb:len*f.sz≤2 ^ 24) :
 IOp P O N o S (S.set t (.slice false (xs.map f.d))) :=
 aBI ho hd ht hu he f.pos hx hfill (by rw [Bf]; exact hl) (f.len xs) (f.noRef xs) hb
end
end Go.IL
open Eq renaming refl → GR
open Go.IntKind renaming wrap → Ab
open Int renaming ediv_le_self → HX,ediv_nonneg → Fp,emod_eq_of_lt → DY,le_of_lt → EY,le_refl → AU,pow_pos → ET,tdiv_eq_ediv_of_nonneg → FA,toNat_natCast → Au
open List renaming getElem?_eq_getElem → Am,take_of_length_le → BD
open Nat renaming min_eq_left → BT
open UInt8 renaming ofNat → Cf
open _root_ renaming UInt8 → Ai
namespace Go.IL
theorem eM {α β:Type} (e:α) (f:α→Ad β):bnd e f=f e:=rfl
theorem bF {α β:Type} (x:α) (f:α→Ad β):bno (some x) f=f x:=rfl
theorem aLi {α:Type} (o:Ad α) (d:α):gd true o d=o:=rfl
theorem gd_ff {α:Type} (o:Ad α) (d:α):gd false o d=some d:=rfl
theorem iT {α:Type} (l:List α) (k:Nat):gix l (k:Int)=l[k]?:=by unfold gix; rw [Az (by omega)]; rfl
theorem zE {α:Type} (l:List α) {i:Int} (h:0≤i):gix l i=l[i.toNat]?:=by unfold gix; rw [Az h]
theorem aAs {α:Type} {l:List α} {i:Int} (h:0≤i) (hl:i.toNat<l.length):gix l i=some l[i.toNat]:=by rw [zE l h,Am hl]
theorem aBC {α:Type} {l:List α} {a b:Int} (h0:0≤a) (h1:a≤b) (h2:b≤(l.length:Int)):cut l a b=some ((l.take b.toNat).drop a.toNat):=Az ⟨h0,h1,h2⟩
theorem tW {α:Type} {l:List α} {a:Int} (h0:0≤a) (h1:a≤(l.length:Int)):cut l a (l.length:Int)=some (l.drop a.toNat):=by
 rw [aBC h0 h1 (AU _),Au,BD (AJ _)]
theorem yQ {α:Type} {l:List α} {b:Int} (h0:0≤b) (h1:b≤(l.length:Int)):cut l 0 b=some (l.take b.toNat):=by
 rw [aBC (AU _) h0 h1]; rfl
theorem dU {α:Type} {b:Nat} {l m:List α} (h:l.length+m.length≤9223372036854775807) (h1:(l.length+m.length)*b≤140737488355328):app b l m=some (l++m):=Az ⟨h,h1⟩
theorem sM {a b:List Ai} (h:a.length+b.length≤9223372036854775807):cat a b=some (a++b):=Az h
theorem w64 {n:Int} (h0 : -9223372036854775808≤n) (h1:n≤9223372036854775807):Ab .i64 n=n:=wrap_i64 h0 h1
theorem wU64 {n:Int} (h0:0≤n) (h1:n<18446744073709551616):Ab .u64 n=n:=aKp h0 h1
theorem wU8 {n:Int} (h0:0≤n) (h1:n<256):Ab .u8 n=n:=by rw [aII,DY h0 h1]
theorem yU {n:Int} (h0:0≤n) (h1:n<256):toU8 n=some (Cf n.toNat):=Az ⟨h0,h1⟩
theorem aIb {k:IntKind} {a b c:Int} (h:yJ .shl k a b=some (.int k c)):shlI k a b=some c:=by
 unfold yJ at h; unfold shlI
 split at h
 · cases h
 · rename_i hb; rw [Aq hb]; simp only [Option.some.injEq,D.int.injEq,true_and] at h; rw [h]
theorem shr_ok {k:IntKind} {a:Int} {n:Nat} (hn:n≤k.bits):shrI k a (n:Int)=some (a / 2 ^ n):=by
 unfold shrI
 rw [Aq (by omega),Au,BT hn,Int.fdiv_eq_ediv_of_nonneg _ (EY (ET (by decide)))]
theorem aBb {k:IntKind} {a b:Int} (n:Nat) (hb:b=(n:Int)) (hn:n≤k.bits):shrI k a b=some (a / 2 ^ n):=by rw [hb,shr_ok hn]
theorem int_e {op:BinOp} {k:IntKind} {a b c d:Int} (h:int2 op k a b=some (.int k c)) (e:int2 op k a b=some (.int k d)):d=c:=by
 rw [h] at e; simpa using e.symm
theorem quo_ok {a b:Int} (h0:0≤a) (h1:a≤9223372036854775807) (hb:0<b):quoI .i64 a b=some (a / b):=by
 unfold quoI
 have h2:a / b≤a:=HX _ h0
 have h3:0≤a / b:=Fp h0 (EY hb)
 rw [Aq (by omega),FA h0,w64 (by omega) (by omega)]
theorem aEJ {a b:Int} (h0:0≤a) (hb:0<b):remI a b=some (a % b):=by
 unfold remI
 rw [Aq (by omega),Int.tmod_eq_emod_of_nonneg h0]
theorem aJG {α:Type} {b:Nat} {n:Int} {z:α} (h0:0≤n) (h1:(b:Int)*n≤281474976710656) (h2:n≤9223372036854775807):made b n z=some (Ay n.toNat z):=Az ⟨h0,h1,h2⟩
theorem yB {α β:Type} [DecidableEq α] [DecidableEq β] {l:List α} {a b:Ad β} (h:l=[]→a=b):aCO l a b=b:=by
 unfold aCO; split
 · rename_i hl; rw [Az (h hl),h hl]
 · rfl
theorem bK {n:Nat} (h:n<18446744073709551616):n<fuel:=by show n<2 ^ 64; omega
theorem bndD {α β:Type} (e:α) (f:α→Ad β):bnd e f=f e:=(GR _).trans (eM e f)
theorem bnoS {α β:Type} (x:α) (f:α→Ad β):bno (some x) f=f x:=(GR _).trans (bF x f)
theorem gdtt {α:Type} (o:Ad α) (d:α):gd true o d=o:=(GR _).trans (aLi o d)
theorem gdff {α:Type} (o:Ad α) (d:α):gd false o d=some d:=(GR _).trans (gd_ff o d)
theorem aU {α:Type} (a b:α):(bif true then a else b)=a:=(GR _).trans (GR _)
theorem aQ {α:Type} (a b:α):(bif false then a else b)=b:=(GR _).trans (GR _)
end Go.IL
open Go.IL.D renaming load → Et
open List renaming getElem?_cons_succ → DF,getElem?_cons_zero → Cj,getElem?_eq_some_iff → AH,getElem?_map → CH,length → DH,length_drop → AA,length_take → Aw
open Nat renaming add_mul → Bp,add_zero → CE,one_mul → DC,zero_mul → CW
open _root_ renaming congrArg → Bv
open Go.RowKit
namespace Go.IL
def At (cs:List D) (size sz:Nat):Nat→List (List D)→Prop
 | _,[]=>True
 | off,c::L=>(cs.drop off).take size=c∧At cs size sz (off+sz) L
theorem At.get {cs:List D} {size sz:Nat}:∀ {L:List (List D)} {off i:Nat} {c:List D},At cs size sz off L→L[i]? = some c→(cs.drop (off+i*sz)).take size=c
 | [],_,_,_,_,h=>by simp at h
 | x::L,off,0,c,h,hi=>by
   simp only [Cj,Option.some.injEq] at hi
   subst hi; rw [CW,CE]; exact h.1
 | x::L,off,i+1,c,h,hi=>by
   simp only [DF] at hi
   have:=At.get h.2 hi
   rw [←this]; congr 2; rw [Bp,DC]; omega
def aMS:Nat→(Nat→Prop)→Prop
 | 0,_=>True
 | n+1,p=>aMS n p∧p n
theorem aMS.get:∀ {n:Nat} {p:Nat→Prop},aMS n p→∀ j,j<n→p j
 | 0,_,_,_,h=>by omega
 | n+1,p,h,j,hj=>by
   by_cases e:j=n
   · subst e; exact h.2
   · exact aMS.get h.1 j (by omega)
section
variable {P:An} {O:aR} {N:Nat} {S S':St} {o:Oper} {t:Nat}
theorem aEh {α:Type} (f:Enc α) {T e:Ak} {len:Nat} {x y:Ag} {k:IntKind} {u:TypeDesc} {z:Ad AI} {size bytes:Nat} {cs ds:List D} {xs:List α} {a:α} {i:Int} (ho:o.op = .index T x y) (hd:o.dst=some t) (ht:t<N)
 (hu:P.underlying T=some (.array len e)) (hue:P.underlying e=some u) (hg:gP P e=true) (hi:TI P e z size bytes) (h0:0<size) (hx:SV S x (.agg cs)) (hy:SV S y (.int k i)) (hn:gix xs i=some a) (hlen:xs.length=len)
 (hat:At cs size size 0 (xs.map fun x=>(f.d x).cells)) (hdd:(f.d a).cells=ds) (hsz:ds.length=size):IOp P O N o S (S.set t (.agg ds)):=by
 have h1:=hat.get (i:=i.toNat) (c:=(f.d a).cells) (by rw [CH,(aDk hn).2]; rfl)
 rw [hdd,Bl] at h1
 have h4:=(AH.1 (aDk hn).2).1
 refine aDg ho hd ht hu hue hi hx hy (aDk hn).1 (by omega) ?_ h0 (by simp [Et,hg,h1])
 have h3:=Bv DH h1
 rw [Aw,AA] at h3; omega
end
end Go.IL
open Go.IL.D renaming one → EH
open Go.IL.St renaming ent → Cv,get → CL,set → BM,setE → BK
open Int renaming max_eq_left → Fs
open List renaming append_assoc → Ax,append_nil → AQ,drop_append_of_le_length → Bi,getElem?_append_left → AX,getElem?_drop → CJ,getElem?_take → BW,length_append → Ae,length_eq_zero_iff → Bh,length_nil → Bj,mem_of_mem_take → CK,take_append_drop → AO,take_append_of_le_length → AC,take_length → AM,toArray → FB
open Nat renaming min_le_right → HY,mul_le_mul_right → AS
open Go.RowKit (Below)
namespace Go.IL
section
variable {P:An} {O:aR} {N:Nat} {S S':St} {o:Oper} {t:Nat} {Q:Exit→St→Prop}
theorem yL {E:Env} {β:bD} {v:AI} {id sz off len cap:Nat} (h:Rd E β v (.rsl id sz off len cap)) :
 ∃ b p c e f,v = .slice (some ⟨b,p,none⟩) len cap∧β id=some b∧len≤cap∧0<sz∧(0<cap→p=off)∧p≤off∧E.w.heap[b]? = some (Obj.cells c e f)∧off+cap*sz≤c.size∧cap≤maxLen:=by
 cases h with
 | rsl _ _ _ _ _ _ b p h1 h2 h3 h4 c e f h5 h6 h7=>exact ⟨b,p,c,e,f,rfl,h1,h2,h3,h4.1,h4.2,h5,h6,h7⟩
theorem aAU {S:St} {id t:Nat} {e:Ent} {d:D}:((S.setE id e).set t d).ent id=e:=by simp [Cv,entL,BK,BM,aN]
theorem yN {S:St} {id t j:Nat} {e:Ent} {d:D} (h:j≠id):((S.setE id e).set t d).ent j=S.ent j:=by simp [Cv,entL,BK,BM,aN,Ne.symm h]
theorem Rel.turn {E:Env} {β:bD} {a:Act} (h:Rel O N S E β a) {id b:Nat} {e:Ak} {ds ds':List D} {d:D} (he:S.ent id = .blk e ds) (hb:β id=some b)
 (hk:∀ vs sp,E.w.heap[b]? = some (.cells (FB (vs++sp)) e (0,0))→RdL E β vs ds→∃ vs' sp',vs'++sp'=vs++sp∧RdL E β vs' ds') (hd:Rd E β (a.tmps.getD t undef) d) :
 Rel O N ((S.setE id (.blk e ds')).set t d) E β a:=by
 have hent:=h.h.ent id
 rw [he] at hent
 obtain ⟨vs,sp,h1,h2,h3,h4⟩:=uL hent hb
 obtain ⟨vs',sp',h5,h6⟩:=hk vs sp h2 h4
 have held:∀ j,(((S.setE id (.blk e ds')).set t d).ent j).held=(S.ent j).held:=fun j=>by
  by_cases hj:j=id
  · subst hj; rw [aAU,he]; rfl
  · rw [yN hj]
 refine ⟨h.n,h.nd,?_,fun s=>?_⟩
 · refine { h.h with ent:=fun j=>?_,inj:=fun i j k hi hj=>h.h.inj i j k (held i ▸ hi) (held j ▸ hj) }
   by_cases hj:j=id
   · subst hj; rw [aAU]; exact .inr ⟨b,vs',sp',hb,h1,by rw [h5]; exact h2,h3,h6⟩
   · rw [yN hj]; exact h.h.ent j
 · by_cases hst:t=s
   · subst hst; simpa [CL,BM,aN] using hd
   · have:=h.sl s
     simpa [CL,BM,BK,aN,hst] using this
theorem Rel.opened {E:Env} {β:bD} {a:Act} (h:Rel O N S E β a) {id sz n:Nat} {e:Ak} {ds:List D} (hS:S.get t = .osl id sz n) (he:S.ent id = .blk e ds) (hl:ds.length=n*sz) :
 (n=0∧Rel O N (S.set t .nils) E β a)∨∃ cap,n≤cap∧cap≤maxLen∧Rel O N ((S.setE id (.blk e (ds++Ay ((cap-n)*sz) .dead))).set t (.rsl id sz 0 n cap)) E β a:=by
 have h1:=h.sl t
 rw [hS] at h1
 generalize hv:a.tmps.getD t undef=v at h1
 cases h1 with
 | nosl =>
   left
   refine ⟨rfl,h.n,h.nd,?_,fun s=>?_⟩
   · exact h.h
   · by_cases hst:t=s
     · subst hst; simp only [CL,BM,aN,if_true]; rw [hv]; exact .nils _
     · have:=h.sl s
       simpa [CL,BM,aN,hst] using this
 | osl _ _ b _ cap _ hb hc hsz c e' f hcap hcs hcm =>
   right
   refine ⟨cap,hc,hcm,h.turn he hb (fun vs sp hh hvs=>?_) ?_⟩
   · rw [hh] at hcap; cases hcap
     have hvl:=hvs.length
     have hle:(cap-n)*sz≤sp.length:=by
      simp only [CF,Ae,hvl,hl] at hcs
      have:cap*sz=n*sz+(cap-n)*sz:=by rw [←Bp]; congr 1; omega
      omega
     refine ⟨vs++sp.take ((cap-n)*sz),sp.drop ((cap-n)*sz),by rw [Ax,AO],hvs.append ?_⟩
     have:=vT E β (sp.take ((cap-n)*sz))
     rwa [Aw,BT hle] at this
   · rw [hv]; exact .rsl _ _ _ _ _ _ b 0 hb hc hsz ⟨fun _=>rfl,AJ _⟩ c e' f hcap (by rw [Bl]; exact hcs) hcm
theorem Rel.closed {E:Env} {β:bD} {a:Act} (h:Rel O N S E β a) {id sz n cap:Nat} {e:Ak} {ds j:List D} (hS:S.get t = .rsl id sz 0 n cap) (he:S.ent id = .blk e (ds++j)) (hl:ds.length=n*sz) :
 Rel O N ((S.setE id (.blk e ds)).set t (.osl id sz n)) E β a:=by
 have h1:=h.sl t
 rw [hS] at h1
 obtain ⟨b,p,c,e',f,hv,hb,hc,hsz,hp,hp',hcap,hcs,hcm⟩:=yL h1
 refine h.turn he hb (fun vs sp hh hvs=>?_) ?_
 · refine ⟨vs.take ds.length,vs.drop ds.length++sp,by rw [←Ax,AO],?_⟩
   have:=hvs.take ds.length
   rwa [AC (AJ _),AM] at this
 · rw [hv]
   have:p=0:=by omega
   subst this
   exact .osl _ _ b n cap sz hb hc hsz c e' f hcap (by omega) hcm
theorem aDU {c:Code} (t:Nat) {id sz n:Nat} {e:Ak} {ds:List D} (hS:S.get t = .osl id sz n) (he:S.ent id = .blk e ds) (hl:ds.length=n*sz) (h0:n=0→IWP P O N c (S.set t .nils) Q)
 (h1:∀ cap,n≤cap→cap≤maxLen→IWP P O N c ((S.setE id (.blk e (ds++Ay ((cap-n)*sz) .dead))).set t (.rsl id sz 0 n cap)) Q):IWP P O N c S Q:=by
 intro E β a hr
 rcases hr.opened hS he hl with ⟨h2,h3⟩ | ⟨cap,h2,h3,h4⟩
 · exact h0 h2 E β a h3
 · exact h1 cap h2 h3 E β a h4
theorem xB {c:Code} (t:Nat) {id sz n cap:Nat} {e:Ak} {ds j:List D} (hS:S.get t = .rsl id sz 0 n cap) (he:S.ent id = .blk e (ds++j)) (hl:ds.length=n*sz) (h:IWP P O N c ((S.setE id (.blk e ds)).set t (.osl id sz n)) Q):IWP P O N c S Q :=
 fun E β a hr=>h E β a (hr.closed hS he hl)
theorem aJg {ops:Array Oper} {c:List Oper} (t:Nat) {id sz n cap:Nat} {e:Ak} {ds j:List D} (hS:S.get t = .rsl id sz 0 n cap) (he:S.ent id = .blk e (ds++j)) (hl:ds.length=n*sz) (h:ILS P O N ops c ((S.setE id (.blk e ds)).set t (.osl id sz n)) Q):ILS P O N ops c S Q :=
 fun E β a hr=>h E β a (hr.closed hS he hl)
theorem aFh {T e:Ak} {x:Ag} {id sz off len cap:Nat} {n:Int} (ho:o.op = .call { callee:=.builtin .cap,args:=#[x],argTypes:=#[T] }) (hd:o.dst=some t) (ht:t<N) (hu:P.underlying T=some (.slice e))
 (hx:SV S x (.rsl id sz off len cap)) (hn:(cap:Int)=n):IOp P O N o S (S.set t (.int .i64 n)) :=
 eO hd ht fun E β a hr=>⟨.int .i64 n,by
  subst hn
  obtain ⟨b,p,c,e',f,hv,_⟩:=yL (hx.rd hr)
  simp [execOp,ho,resolve,invoke,builtin,Builtin.cap_,run_underlying hu,hv,goInt],.int _ _ _⟩
theorem vX {T e:Ak} {x:Ag} {id sz off len cap:Nat} {n:Int} (ho:o.op = .call { callee:=.builtin .len,args:=#[x],argTypes:=#[T] }) (hd:o.dst=some t) (ht:t<N) (hu:P.underlying T=some (.slice e))
 (hx:SV S x (.rsl id sz off len cap)) (hn:(len:Int)=n):IOp P O N o S (S.set t (.int .i64 n)) :=
 eO hd ht fun E β a hr=>⟨.int .i64 n,by
  subst hn
  obtain ⟨b,p,c,e',f,hv,_⟩:=yL (hx.rd hr)
  simp [execOp,ho,resolve,invoke,builtin,Builtin.len_,run_underlying hu,hv,goInt],.int _ _ _⟩
theorem aFQ {E:Env} {β:bD} {a:Act} (hr:Rel O N S E β a) {len cap:Nat} {lo hi mx:Ad Ag} {l h m:Int} (hlo:vO S 0 lo l) (hhi:vO S len hi h) (hmx:vO S cap mx m) (hs:mx.isSome=true→hi.isSome=true) (h0:0≤l) (h1:l≤h) (h2:h≤m) (h3:m≤cap) :
 (Instr.sliceBounds true len cap (lo.map a.eval) (hi.map a.eval) (mx.map a.eval)).run P E.w = .ok (l.toNat,h.toNat,m.toNat) E.w:=by
 have e1:0≤h:=by omega
 have e0:0≤m:=by omega
 have e2:l≤(h.toNat:Int):=by omega
 have e3:h≤(m.toNat:Int):=by omega
 have m1:max h 0=h:=Fs e1
 have m2:max m 0=m:=Fs e0
 cases mx with
 | none =>
   have hmx:m=cap:=hmx
   subst hmx
   cases lo with
   | none =>
     have hlo:l=0:=hlo
     subst hlo
     cases hi with
     | none=>have hhi:h=len:=hhi; subst hhi; simp [Instr.sliceBounds]
     | some y=>obtain ⟨k,hy⟩:=hhi; simp [Instr.sliceBounds,Instr.sliceBound,fH (hy.rd hr),asIntOf,e1,h2]
   | some x =>
     obtain ⟨k,hx⟩:=hlo
     cases hi with
     | none=>have hhi:h=len:=hhi; subst hhi; simp [Instr.sliceBounds,Instr.sliceBound,fH (hx.rd hr),asIntOf,h0,h1]
     | some y=>obtain ⟨k',hy⟩:=hhi; simp [Instr.sliceBounds,Instr.sliceBound,fH (hx.rd hr),fH (hy.rd hr),asIntOf,h0,e1,e2,h2,m1,h1]
 | some z =>
   obtain ⟨kz,hz⟩:=hmx
   cases hi with
   | none=>exact AP (hs rfl) (by simp)
   | some y =>
     obtain ⟨k',hy⟩:=hhi
     cases lo with
     | none =>
       have hlo:l=0:=hlo
       subst hlo
       simp [Instr.sliceBounds,Instr.sliceBound,fH (hy.rd hr),fH (hz.rd hr),asIntOf,e0,e1,e3,h3,m2,h2]
     | some x =>
       obtain ⟨k,hx⟩:=hlo
       simp [Instr.sliceBounds,Instr.sliceBound,fH (hx.rd hr),fH (hy.rd hr),fH (hz.rd hr),asIntOf,h0,e0,e1,e2,e3,h3,m1,m2,h1,h2]
theorem dX {T e:Ak} {x:Ag} {lo hi mx:Ad Ag} {id sz off len cap:Nat} {l h m:Int} {z:Ad AI} {bytes:Nat} {d:D} (ho:o.op = .slice T x lo hi mx) (hd:o.dst=some t) (ht:t<N) (hu:P.underlying T=some (.slice e)) (hi':TI P e z sz bytes)
 (hx:SV S x (.rsl id sz off len cap)) (hlo:vO S 0 lo l) (hhi:vO S len hi h) (hmx:vO S cap mx m) (hs:mx.isSome=true→hi.isSome=true) (h0:0≤l) (h1:l≤h) (h2:h≤m) (h3:m≤cap)
 (hdd:D.rsl id sz (off+l.toNat*sz) (h.toNat-l.toNat) (m.toNat-l.toNat)=d):IOp P O N o S (S.set t d) :=
 eO hd ht fun E β a hr=>by
  subst hdd
  obtain ⟨b,p,c,e',f,hv,hb,hlc,hsz,hp,hp',hcap,hcs,hcm⟩:=yL (hx.rd hr)
  have hbd:=aFQ (P:=P) hr hlo hhi hmx hs h0 h1 h2 h3
  have hmc:m.toNat≤cap:=by omega
  have hlm:l.toNat≤m.toNat:=by omega
  have hfit:off+l.toNat*sz+(m.toNat-l.toNat)*sz≤c.size:=by
   have:l.toNat*sz+(m.toNat-l.toNat)*sz≤cap*sz:=by rw [←Bp]; exact AS _ (by omega)
   omega
  refine ⟨.slice (if m.toNat=l.toNat then some ⟨b,p,none⟩ else some ⟨b,p+l.toNat*sz,none⟩) (h.toNat-l.toNat) (m.toNat-l.toNat),?_,?_⟩
  · simp only [execOp,ho,hv,Instr.sliceAt,Instr.slice,Sem.run_bind,run_underlying hu,Result.andThen_ok,hbd,hi'.run_size,Sem.run_pure]
    split <;> simp [iW]
  · split
    · rename_i hml
      exact .rsl _ _ _ _ _ _ b p hb (by omega) hsz ⟨fun h=>by omega,by omega⟩ c e' f hcap hfit (by omega)
    · rename_i hml
      have hpo:=hp (by omega)
      exact .rsl _ _ _ _ _ _ b _ hb (by omega) hsz ⟨fun _=>by rw [hpo],by omega⟩ c e' f hcap hfit (by omega)
theorem aFN {y:Ag} {id sz off len cap:Nat} {e:Ak} {ds:List D} (hy:SV S y (.rsl id sz off len cap)) (he:S.ent id = .blk e ds) (hl:off+len*sz≤ds.length):∀ E β a,Rel O N S E β a→Src E β (a.eval y) len ((ds.drop off).take (len*sz)):=by
 intro E β a hr
 obtain ⟨b,p,c,e',f,hv,hb,hlc,hsz,hp,hp',hcap,hcs,hcm⟩:=yL (hy.rd hr)
 have hent:=hr.h.ent id
 rw [he] at hent
 obtain ⟨vs,sp,_,hh,_,hvs⟩:=uL hent hb
 by_cases h0:len=0
 · subst h0; exact .inl ⟨.inr ⟨_,_,hv⟩,rfl,by simp⟩
 · have hpo:=hp (by omega)
   subst hpo
   have hvl:=hvs.length
   refine .inr ⟨b,p,cap,(vs.drop p).take (len*sz),hv,fun j u hj=>?_,(hvs.drop p).take _⟩
   rw [iW,cell_of_row _ _ _ _ _ _ hh]
   rw [BW] at hj
   split at hj
   · rename_i hjl
     rw [CJ] at hj
     have hlt:=(AH.1 hj).1
     simpa [AX hlt] using hj
   · cases hj
theorem aHe {vs us sp:List AI} {off:Nat} (h:off+us.length≤vs.length):((vs++sp).take off++us++(vs++sp).drop (off+us.length))=(vs.take off++us++vs.drop (off+us.length))++sp:=by
 rw [AC (by omega),Bi h]; simp
theorem aDC {E:Env} {β:bD} {a:Act} (hr:Rel O N S E β a) {id b off:Nat} {e:Ak} {ds es:List D} {vs us sp:List AI} (he:S.ent id = .blk e ds) (hb:β id=some b) (hown:O.own b) (hh:E.w.heap[b]? = some (.cells (FB (vs++sp)) e (0,0))) (hX:∀ o,E.X b o)
 (hl:RdL E β vs ds) (hc:RdL E β us es) (hn:off+es.length≤ds.length) :
 ∃ E':Env,E'.w=E.w.setRow b ((vs++sp).take off++us++(vs++sp).drop (off+us.length)).toArray∧E'.X=E.X∧E.le E'∧Rel O N (S.setE id (.blk e (eH ds off es))) E' β a:=by
 have hvl:=hl.length
 have hul:=hc.length
 have e1:=aHe (sp:=sp) (show off+us.length≤vs.length by omega)
 let E':Env:=⟨E.w.setRow b ((vs++sp).take off++us++(vs++sp).drop (off+us.length)).toArray,E.X⟩
 have hs:Step O E E' b:=⟨rfl,rfl,rfl,by simp [E'],by simpa [E'] using cU hh,hown,fun k _ hk=>setRow_other _ _ _ _ hk,fun _ _ _=>Gl,fun _ h=>by rw [hh] at h; cases h⟩
 have hle:E.le E':=hs.le (fun o v _ h2=>AP (hX o) h2) (fun c e' f h3=>by
  rw [hh] at h3; cases h3
  exact ⟨_,_,setRow_heap _ _ _ _ _ _ hh,by rw [e1]; simp; omega⟩)
 refine ⟨E',rfl,rfl,hle,hr.n,hr.nd.step hs,?_,fun s=>Dm hle (bD.le.refl _) (hr.sl s)⟩
 refine EA hr.h hs hle (bD.le.refl _) ?_ ?_ hb ?_ (fun _ _=>trivial)
 · intro j hj; left; exact ⟨by simp [Cv,entL,BK,aN,Ne.symm hj],rfl⟩
 · intro j hj hheld hbj
   have:(S.ent j).held=true:=by simpa [Cv,entL,BK,aN,Ne.symm hj] using hheld
   exact hj (hr.h.inj j id b this (by rw [he]; rfl) hbj hb)
 · simp only [Cv,entL,BK,aN,if_true]
   refine ⟨_,sp,by rw [←e1]; exact setRow_heap _ _ _ _ _ _ hh,hX,?_⟩
   rw [eH,←hul]
   exact Bu hle (bD.le.refl _) (((hl.take off).append hc).append (hl.drop _))
theorem aAZ {es:List D} (h:es.all EH=true) (k:Nat):(es.take k).all EH=true:=by
 rw [AV] at h ⊢
 exact fun x hx=>h x (CK hx)
theorem aE8 {T T2 e:Ak} {x y:Ag} {id sz off len cap m:Nat} {e':Ak} {ds es ds':List D} {z:Ad AI} {bytes:Nat} {k:Int} (ho:o.op = .call { callee:=.builtin .copy,args:=#[x,y],argTypes:=#[T,T2] }) (hd:o.dst=some t) (ht:t<N)
 (hu:P.underlying T=some (.slice e)) (hi:TI P e z sz bytes) (he:S.ent id = .blk e' ds) (hy:∀ E β a,Rel O N S E β a→Src E β (a.eval y) m es) (hes:es.length=m*sz) (hone:(es.take (min m len*sz)).all EH=true)
 (hfit:off+len*sz≤ds.length) (hk:((min m len:Nat):Int)=k) (hds:eH ds off (es.take (min m len*sz))=ds'):∀ E β a,Rel O N S E β a→Rd E β (a.eval x) (.rsl id sz off len cap)→∀ (next:Act→World→Prop) Q,(∀ E' β' a',Rel O N ((S.setE id (.blk e' ds')).set t (.int .i64 k)) E' β' a'→next a' E'.w)→o.wp P a E.w next Q:=by
 intro E β a hr hxr next Q hn
 subst hk hds
 obtain ⟨b,p,c,e'',f,hv,hb,hlc,hsz,hp,hp',hcap,hcs,hcm⟩:=yL hxr
 have hent:=hr.h.ent id
 rw [he] at hent
 obtain ⟨vs,sp,hown,hh,hX,hvs⟩:=uL hent hb
 obtain ⟨i,hi1,hi2,hi3,hi4⟩:=hi.at
 have hvl:=hvs.length
 have hrun0:∀ r,(Builtin.copy_ #[T,T2] o.type #[a.eval x,a.eval y]).run P E.w=r→(execOp a.eval o).run P E.w=r.andThen fun v w'=>.ok (.value v) w':=fun r hr'=>by
  simp [execOp,ho,resolve,invoke,builtin,hr']
 have key:∀ us:List AI,RdL E β us (es.take (min m len*sz))→(0<min m len→p=off)→(Builtin.copy_ #[T,T2] o.type #[a.eval x,a.eval y]).run P E.w = .ok (goInt ((min m len:Nat):Int)) (E.w.setRow b ((vs++sp).take p++us++(vs++sp).drop (p+us.length)).toArray) →
  o.wp P a E.w next Q:=by
  intro us hus hpo hra
  unfold Oper.wp
  rw [hrun0 _ hra]
  have hul:=hus.length
  rw [Aw,hes] at hul
  have hmin:min (min m len*sz) (m*sz)=min m len*sz:=BT (AS _ (Nat.min_le_left _ _))
  rw [hmin] at hul
  have hle2:min m len*sz≤len*sz:=AS _ (HY _ _)
  have hlt:(es.take (min m len*sz)).length=min m len*sz:=by rw [Aw,hes,hmin]
  have heq:E.w.setRow b ((vs++sp).take p++us++(vs++sp).drop (p+us.length)).toArray=E.w.setRow b ((vs++sp).take off++us++(vs++sp).drop (off+us.length)).toArray:=by
   by_cases h0:0<min m len
   · rw [hpo h0]
   · have:us=[]:=Bh.1 (by rw [hul,show min m len=0 by omega,CW])
     subst this
     simp
  rw [heq]
  obtain ⟨E',h1,h2,h3,h4⟩:=aDC hr he hb hown hh hX hvs hus (off:=off) (by rw [hlt]; omega)
  simp only [Result.andThen_ok,Oper.upon,hd]
  rw [←h1]
  have:=h4.set ht (v:=goInt ((min m len:Nat):Int)) (d:=.int .i64 ((min m len:Nat):Int)) (by unfold goInt; exact .int _ _ _)
  exact hn E' β _ this
 have none_:m=0∨len=0→∀ yo sc,a.eval y = .slice yo m sc→o.wp P a E.w next Q:=by
  intro h0 yo sc hyv
  have hm0:min m len=0:=by omega
  refine key [] (by rw [hm0,CW]; exact .nil _) (fun h=>by omega) ?_
  have e1:E.w.setRow b ((vs++sp).take p++[]++(vs++sp).drop (p+([]:List AI).length)).toArray=E.w:=by
   simp only [AQ,Bj,CE,AO]
   exact setRow_self _ _ _ _ _ hh
  rw [e1,hm0,hv,hyv]
  have hl0:∀ q:Addr,(loadCells q 0).run P E.w = .ok #[] E.w:=fun q=>by simpa using run_loadCells_list (P:=P) E.w q [] (by simp)
  have hmn:Nat.min m len=0:=hm0
  cases yo <;> simp [Builtin.copy_,run_underlying hu,Builtin.lenOf,Builtin.firstCells,hi.run_size,hmn,storeCells,hl0]
 rcases hy E β a hr with ⟨hyv,hm0,he0⟩ | ⟨yb,yoff,ycap,us,hyv,hyr,hus⟩
 · subst hm0
   rcases hyv with hyv | ⟨ad,sc,hyv⟩
   · exact none_ (.inl rfl) _ _ hyv
   · exact none_ (.inl rfl) _ _ hyv
 · by_cases h0:m=0∨len=0
   · exact none_ h0 _ _ hyv
   · have hmin:min m len*sz≤m*sz:=AS _ (Nat.min_le_left _ _)
     have hle2:min m len*sz≤len*sz:=AS _ (HY _ _)
     have hul:us.length=m*sz:=by rw [hus.length,hes]
     have hpo:=hp (by omega)
     have hus':=hus.take (min m len*sz)
     have hlt:(us.take (min m len*sz)).length=min m len*sz:=by rw [Aw,hul]; omega
     refine key _ hus' (fun _=>hpo) ?_
     have hl:=run_loadCells_list (P:=P) E.w ⟨yb,yoff,none⟩ (us.take (min m len*sz)) (fun j u hj=>by
      rw [BW] at hj
      split at hj
      · exact hyr j u hj
      · cases hj)
     have hst:=run_storeCells_at P b p e' (us.take (min m len*sz)) 0 (vs++sp).toArray E.w hh (by simp; omega) (aAh hus' hone)
     simp only [CE] at hst
     rw [hv,hyv]
     have hmm:Nat.min m len=min m len:=rfl
     rw [hlt] at hl hst ⊢
     simp [Builtin.copy_,run_underlying hu,Builtin.lenOf,Builtin.firstCells,hi.run_size,hmm,hl,hst]
theorem uG {T T2 e:Ak} {x y:Ag} {id sz off len cap m:Nat} {e':Ak} {ds es ds':List D} {z:Ad AI} {bytes:Nat} {k:Int} (ho:o.op = .call { callee:=.builtin .copy,args:=#[x,y],argTypes:=#[T,T2] }) (hd:o.dst=some t) (ht:t<N)
 (hu:P.underlying T=some (.slice e)) (hi:TI P e z sz bytes) (hx:SV S x (.rsl id sz off len cap)) (he:S.ent id = .blk e' ds) (hy:∀ E β a,Rel O N S E β a→Src E β (a.eval y) m es) (hes:es.length=m*sz) (hone:(es.take (min m len*sz)).all EH=true)
 (hfit:off+len*sz≤ds.length) (hk:((min m len:Nat):Int)=k) (hds:eH ds off (es.take (min m len*sz))=ds'):IOp P O N o S ((S.setE id (.blk e' ds')).set t (.int .i64 k)) :=
 fun E β a hr next Q hn=>aE8 ho hd ht hu hi he hy hes hone hfit hk hds E β a hr (hx.rd hr) next Q hn
end
end Go.IL
open Array renaming getD_eq_getD_getElem? → Dh,getElem?_eq_some_iff → Dn,getElem?_setIfInBounds_ne → By,getElem?_setIfInBounds_self → CI,length_toList → Fq,size_append → ER
open List renaming length_pos_iff → DD,length_replicate → BG,mem_map → AL
open Option renaming getD_some → Dp
open Go.RowKit (Below)
namespace Go.IL
section
variable {P:An} {O:aR} {N:Nat} {S S':St} {o:Oper} {t:Nat} {Q:Exit→St→Prop}
theorem aEm {T e:Ak} {x y:Ag} {id sz l cap m:Nat} {ds es ds':List D} {z:Ad AI} {bytes:Nat} {d:D} (ho:o.op = .call { callee:=.builtin .append,args:=#[x,y],argTypes:=#[T,T] }) (hd:o.dst=some t) (ht:t<N)
 (hu:P.underlying T=some (.slice e)) (hi:TI P e z sz bytes) (hx:SV S x (.rsl id sz 0 l cap)) (he:S.ent id = .blk e ds) (hy:∀ E β a,Rel O N S E β a→Src E β (a.eval y) m es) (hes:es.length=m*sz) (hone:es.all EH=true)
 (hroom:l+m≤cap) (hfit:(l+m)*sz≤ds.length) (hds:eH ds (l*sz) es=ds') (hdd:D.rsl id sz 0 (l+m) cap=d):IOp P O N o S ((S.setE id (.blk e ds')).set t d):=by
 intro E β a hr next Q hn
 subst hds hdd
 obtain ⟨b,p,c,e'',f,hv,hb,hlc,hsz,hp,hp',hcap,hcs,hcm⟩:=yL (hx.rd hr)
 have hp0:p=0:=by omega
 subst hp0
 have hent:=hr.h.ent id
 rw [he] at hent
 obtain ⟨vs,sp,hown,hh,hX,hvs⟩:=uL hent hb
 obtain ⟨i,hi1,hi2,hi3,hi4⟩:=hi.at
 have hvl:=hvs.length
 have hrun0:∀ r,(Builtin.append_ #[T,T] o.type #[a.eval x,a.eval y]).run P E.w=r→(execOp a.eval o).run P E.w=r.andThen fun v w'=>.ok (.value v) w':=fun r hr'=>by
  simp [execOp,ho,resolve,invoke,builtin,hr']
 have hmul:(l+m)*sz=l*sz+m*sz:=Bp _ _ _
 have key:∀ us:List AI,RdL E β us es→(Builtin.append_ #[T,T] o.type #[a.eval x,a.eval y]).run P E.w = .ok (.slice (some ⟨b,0,none⟩) (l+m) cap) (E.w.setRow b ((vs++sp).take (l*sz)++us++(vs++sp).drop (l*sz+us.length)).toArray)→o.wp P a E.w next Q:=by
  intro us hus hra
  unfold Oper.wp
  rw [hrun0 _ hra]
  obtain ⟨E',h1,h2,h3,h4⟩:=aDC hr he hb hown hh hX hvs hus (off:=l*sz) (by omega)
  simp only [Result.andThen_ok,Oper.upon,hd]
  rw [←h1]
  rw [hh] at hcap; cases hcap
  obtain ⟨c',f',h5,h6⟩:=h3.size _ _ _ _ hh
  exact hn E' β _ (h4.set ht (.rsl _ _ _ _ _ _ b 0 hb hroom hsz ⟨fun _=>rfl,AJ _⟩ _ _ _ h5 (by rw [h6]; exact hcs) hcm))
 have nothing:m=0→es=[]→(a.eval y = .slice none 0 0∨∃ b c',a.eval y = .slice (some b) 0 c')→o.wp P a E.w next Q:=by
  intro hm0 he0 hyv
  subst hm0 he0
  refine key [] (.nil _) ?_
  have e1:E.w.setRow b ((vs++sp).take (l*sz)++[]++(vs++sp).drop (l*sz+([]:List AI).length)).toArray=E.w:=by
   simp only [AQ,Bj,CE,AO]
   exact setRow_self _ _ _ _ _ hh
  rw [e1,hv]
  exact kZ (P:=P) (w:=E.w) (ty:=o.type) hu hi (some ⟨b,0,none⟩) l cap hlc _ hyv
 rcases hy E β a hr with ⟨hyv,hm0,he0⟩ | ⟨yb,yoff,ycap,us,hyv,hyr,hus⟩
 · exact nothing hm0 he0 hyv
 · by_cases h0:m=0
   · exact nothing h0 (Bh.1 (by rw [hes,h0,CW])) (.inr ⟨_,_,by subst h0; exact hyv⟩)
   · refine key us hus ?_
     rw [hv,hyv]
     have hul:us.length=m*i.size:=by rw [hus.length,hes,hi3]
     have:=run_append_room (P:=P) E.w T o.type e i hu hi1 b l cap (vs++sp).toArray hh ⟨yb,yoff,none⟩ m ycap us hul hyr (aAh hus hone) hroom (by rw [hul,hi3]; simp; omega)
     rw [this,hi3]
theorem aEn {T tn e:Ak} {x y:Ag} {z:AI} {id sz l cap k bytes:Nat} {ki kn:IntKind} {n:Int} {ds:List D} (id':Nat)
 (ho:o.op = .call { callee:=.builtin .append,args:=#[x,y],argTypes:=#[T,tn] }) (hd:o.dst=some t) (ht:t<N)
 (hu:P.underlying T=some (.slice e)) (htn:P.underlying tn=some (.int kn)) (hi:TI P e (some z) sz bytes) (hz:z.cells.size=sz)
 (hx:SV S x (.rsl id sz 0 l cap)) (he:S.ent id = .blk e ds) (hfr:S.ent id' = .fresh) (hy:SV S y (.int ki n)) (hn:n=(k:Int)) (hk:0<k) (hl:l*sz≤ds.length)
 (hg:cap<l+k) (hm:l+k≤maxLen) (hb:(l+k)*bytes≤140737488355328) :
 IOp P O N o S ((S.setE id' (.blk e (ds.take (l*sz)++Ay (k*sz) .dead))).set t (.osl id' sz (l+k))):=by
 intro E β a hr next Q hnx
 subst hn
 obtain ⟨b,p,c,e'',f,hv,hb',hlc,hsz,hp,hp',hcap,hcs,hcm⟩:=yL (hx.rd hr)
 have hp0:p=0:=by omega
 subst hp0
 have hent:=hr.h.ent id
 rw [he] at hent
 obtain ⟨vs,sp,hown,hh,hX,hvs⟩:=uL hent hb'
 obtain ⟨i,hi1,hi2,hi3,hi4⟩:=hi.at
 have hvl:=hvs.length
 have hfre:β id'=none:=by have:=hr.h.ent id'; rw [hfr] at this; exact this
 have hold:(Builtin.firstCells i.size l (.slice (some ⟨b,0,none⟩) l cap)).run P E.w.drew = .ok (vs.take (l*sz)).toArray E.w.drew:=by
  refine run_firstCells_some (P:=P) E.w.drew i.size l ⟨b,0,none⟩ l cap (vs.take (l*sz)) (by rw [Aw,hi3]; omega) fun j u hj=>?_
  rw [iW,Bl]
  have h1:E.w.drew.cell? ⟨b,j,none⟩=E.w.cell? ⟨b,j,none⟩:=rfl
  rw [h1,cell_of_row _ _ _ _ _ _ hh]
  rw [BW] at hj
  split at hj
  · have hlt:=(AH.1 hj).1
    simpa [AX hlt] using hj
  · cases hj
 have hkb:k*i.bytes≤281474976710656:=by
  have:k*i.bytes≤(l+k)*i.bytes:=AS _ (by omega)
  rw [hi4] at this ⊢; omega
 have hra:=Go.Lib.run_append_grow_zeros (P:=P) E.w T tn o.type e i z ki kn hu htn hi1 hi2 (some ⟨b,0,none⟩) l cap (vs.take (l*sz)) hold k hk (by rw [hi3]; exact hsz) hg (by simp [maxLen] at hm; omega) hkb (growslice_fits (by omega) (by rw [hi4]; exact hb))
 have hyv:=fH (hy.rd hr)
 have hrun:(execOp a.eval o).run P E.w=((Builtin.append_ #[T,tn] o.type #[a.eval x,a.eval y]).run P E.w).andThen fun v w'=>.ok (.value v) w':=by
  simp [execOp,ho,resolve,invoke,builtin]
 unfold Oper.wp
 rw [hrun,hv,hyv,hra]
 simp only [Result.andThen_ok,Oper.upon,hd]
 let C:Array AI:=(vs.take (l*sz)).toArray++Builtin.zeroCells z.cells k++Builtin.zeroCells z.cells (grownCap E.w (l+k) cap e-(l+k))
 let E':Env:=⟨E.w.drew.alloc (.cells C e),fun b o=>b=E.w.heap.size∨E.X b o⟩
 let β':bD:=fun j=>if j=id' then some E.w.heap.size else β j
 have hβ:β.le β':=fun j b hj=>by
  by_cases hji:j=id'
  · subst hji; rw [hfre] at hj; cases hj
  · simp [β',hji,hj]
 have hs:Step O E E' E.w.heap.size :=
  ⟨rfl,rfl,rfl,by simp [E'],by simp [E'],.inl hr.h.size,fun k hk _=>heap_alloc_old E.w.drew _ hk,fun k o hk=>by simp [E',hk],fun _ h=>CT _ (cU h)⟩
 have hle:E.le E':=hs.le (fun o v h1 _=>by have:=World.block_lt_of_cell? _ _ h1; simp at this) (fun c e f h1=>by have:=cU h1; simp at this)
 have hnew:E'.w.heap[E.w.heap.size]? = some (.cells C e (0,0)):=heap_alloc_new E.w.drew _
 have hts:t<a.tmps.size:=hr.n ▸ ht
 refine hnx E' β' _ ⟨by simp [Act.put,hr.n],hr.nd.step hs,?_,fun s=>?_⟩
 · refine EA hr.h hs hle hβ ?_ ?_ (id:=id') (by simp [β']) ?_ (fun _ _=>trivial)
   · intro j hj; left; constructor
     · simp [Cv,entL,BK,BM,aN,Ne.symm hj]
     · simp [β',hj]
   · intro j hj hheld hbj
     have:(S.ent j).held=true:=by simpa [Cv,entL,BK,BM,aN,Ne.symm hj] using hheld
     have:=hr.h.held_lt this hbj
     omega
   · simp only [Cv,entL,BK,BM,aN,if_true]
     refine ⟨vs.take (l*sz)++(Builtin.zeroCells z.cells k).toList,(Builtin.zeroCells z.cells (grownCap E.w (l+k) cap e-(l+k))).toList,by rw [hnew]; simp [C],fun o=>.inl rfl,(Bu hle hβ (hvs.take _)).append ?_⟩
     have:=vT E' β' (Builtin.zeroCells z.cells k).toList
     rwa [show (Builtin.zeroCells z.cells k).toList.length=k*sz by rw [Fq,size_zeroCells,hz]] at this
 · by_cases hst:t=s
   · subst hst
     simp only [Act.put,CL,BM,aN,if_true,Dh,CI,hts,Dp]
     refine .osl _ _ E.w.heap.size _ (grownCap E.w (l+k) cap e) sz (by simp [β']) (grownCap_ge _ _ _ _) hsz _ _ _ hnew ?_ (grownCap_le_maxLen _ _ _ _ hm)
     have h1:=grownCap_ge E.w (l+k) cap e
     simp only [C,ER,CF,size_zeroCells,hz,Aw]
     rw [BT (by omega),←Bp,←Bp]
     exact AS _ (by omega)
   · have:=Dm hle hβ (hr.sl s)
     simpa [Act.put,CL,BM,BK,aN,hst,By] using this
theorem aAM {T e:Ak} {x:Ag} {z:AI} {id sz off len cap bytes:Nat} {e':Ak} {ds ds':List D} (ho:o.op = .call { callee:=.builtin .clear,args:=#[x],argTypes:=#[T] }) (hd:o.dst=none)
 (hu:P.underlying T=some (.slice e)) (hi:TI P e (some z) sz bytes) (hz:z.cells.size=sz) (hz1:z.cells.toList.all Value.oneCell'=true) (hx:SV S x (.rsl id sz off len cap)) (he:S.ent id = .blk e' ds) (hfit:off+len*sz≤ds.length)
 (hds:eH ds off (Ay (len*sz) .dead)=ds'):IOp P O N o S (S.setE id (.blk e' ds')):=by
 intro E β a hr next Q hn
 subst hds
 obtain ⟨b,p,c,e'',f,hv,hb,hlc,hsz,hp,hp',hcap,hcs,hcm⟩:=yL (hx.rd hr)
 have hent:=hr.h.ent id
 rw [he] at hent
 obtain ⟨vs,sp,hown,hh,hX,hvs⟩:=uL hent hb
 obtain ⟨i,hi1,hi2,hi3,hi4⟩:=hi.at
 have hvl:=hvs.length
 have hrun0:∀ r,(Builtin.clear_ #[T] o.type #[a.eval x]).run P E.w=r→(execOp a.eval o).run P E.w=r.andThen fun v w'=>.ok (.value v) w':=fun r hr'=>by
  simp [execOp,ho,resolve,invoke,builtin,hr']
 have key:∀ us:List AI,us.length=len*sz→(Builtin.clear_ #[T] o.type #[a.eval x]).run P E.w = .ok (.tuple #[]) (E.w.setRow b ((vs++sp).take off++us++(vs++sp).drop (off+us.length)).toArray)→o.wp P a E.w next Q:=by
  intro us hul hra
  unfold Oper.wp
  rw [hrun0 _ hra]
  have hus:=vT E β us
  rw [hul] at hus
  obtain ⟨E',h1,h2,h3,h4⟩:=aDC hr he hb hown hh hX hvs hus (off:=off) (by rw [BG]; exact hfit)
  simp only [Result.andThen_ok,Oper.upon,hd,Act.put]
  rw [←h1]
  exact hn E' β _ h4
 by_cases h0:len=0
 · subst h0
   refine key [] (by simp) ?_
   have e1:E.w.setRow b ((vs++sp).take off++[]++(vs++sp).drop (off+([]:List AI).length)).toArray=E.w:=by
    simp only [AQ,Bj,CE,AO]
    exact setRow_self _ _ _ _ _ hh
   rw [e1,hv]
   simp [Builtin.clear_,run_underlying hu]
 · have hpo:=hp (by omega)
   have hl:(Builtin.zeroCells z.cells len).toList.length=len*sz:=by rw [Fq,size_zeroCells,hz]
   refine key (Builtin.zeroCells z.cells len).toList hl ?_
   have hone:∀ v∈(Builtin.zeroCells z.cells len).toList,v.oneCell'=true:=by
    intro v hv
    rw [AV] at hz1
    simp only [Builtin.zeroCells,Array.toList_map,AL] at hv
    obtain ⟨j,_,rfl⟩:=hv
    have hlt:j % z.cells.size<z.cells.size:=Nat.mod_lt _ (by rw [hz]; exact hsz)
    rw [getElem!_pos z.cells (j % z.cells.size) hlt]
    exact hz1 _ (by simp)
   have hst:=run_storeCells_at P b p e' (Builtin.zeroCells z.cells len).toList 0 (vs++sp).toArray E.w hh (by rw [hl]; simp; omega) hone
   simp only [CE] at hst
   rw [hv]
   subst hpo
   cases len with
   | zero=>exact AP rfl h0
   | succ len=>simp [Builtin.clear_,run_underlying hu,zeroValue,typeInfo,hi1,hi2,hst]
theorem aFg {f:BP} {g:Array AI→Sem AI} {xs:List Ag} {ts:Array Ak} {d:D} (ho:o.op = .call { callee:=.value (.func f),args:=xs.toArray,argTypes:=ts }) (hd:o.dst=some t) (ht:t<N)
 (hc:aDz P f g) (hg:∀ (E:Env) β a,Rel O N S E β a→∃ v,(g (xs.map a.eval).toArray).run P E.w = .ok v E.w∧Rd E β v d):IOp P O N o S (S.set t d) :=
 eO hd ht fun E β a hr=>by
  obtain ⟨fn,h1,h2,h3,h4,h5⟩:=hc
  obtain ⟨v,hv,hrd⟩:=hg E β a hr
  exact ⟨v,by simp [execOp,ho,resolve,Deferred.ofValue,Act.eval,invoke,run_callFunc_extern h1 h2 h3 h4 h5,hv,Result.andThen],hrd⟩
theorem aEf {f:BP} {T tr e:Ak} {x y:Ag} {ts:Array Ak} {l:List D} {full:Bool} {id sz off len cap:Nat} {e':Ak} {ds:List D} {z:Ad AI} {bytes:Nat} (ho:o.op = .call { callee:=.value (.func f),args:=#[x,y],argTypes:=ts }) (hd:o.dst=some t) (ht:t<N)
 (hc:aDz P f (Extern.SlicesOverlaps.overlaps #[T,T] #[tr])) (hu:P.underlying T=some (.slice e)) (hi:TI P e z sz bytes) (hx:SV S x (.slice full l)) (hne:l≠[]) (hy:SV S y (.rsl id sz off len cap)) (he:S.ent id = .blk e' ds) (hlen:ds≠[]):IOp P O N o S (S.set t (.bool false)):=by
 refine aFg (xs:=[x,y]) ho hd ht hc fun E β a hr=>?_
 obtain ⟨b,p,c,e'',f',hv,hb,hlc,hsz,hp,hp',hcap,hcs,hcm⟩:=yL (hy.rd hr)
 have hent:=hr.h.ent id
 rw [he] at hent
 obtain ⟨vs,sp,hown,hh,hX,hvs⟩:=uL hent hb
 refine ⟨.bool false,?_,.bool _ _⟩
 show (Extern.SlicesOverlaps.overlaps #[T,T] #[tr] #[a.eval x,a.eval y]).run P E.w = .ok (.bool false) E.w
 · skip
   rcases sO (hx.rd hr) with ⟨hev,rfl⟩ | ⟨yb,yoff,ycap,ysz,us,hev,hyc,_,hyz,hysp,hyrow,hus⟩ | ⟨ad,ycap,hev,rfl⟩
   · exact AP rfl hne
   rotate_left
   · exact AP rfl hne
   · -- a cell of the list
     have hpos:0<us.length:=by
      rw [hus.length]
      obtain ⟨d,r,rfl⟩:=List.exists_cons_of_ne_nil hne
      have:=hyz d (by simp)
      simp [Al,this]; omega
     have hcell:=hyrow 0 us[0] (Am hpos)
     rw [CE] at hcell
     have hbne:yb≠b:=by rintro rfl; exact hcell.2 (hX _)
     have hybk:∃ cs te fe,E.w.heap[yb]? = some (.cells cs te fe)∧0<cs.size:=by
      have h6:=hcell.1
      unfold World.cell? at h6
      simp only at h6
      split at h6
      · rename_i cs te fe hhb
        refine ⟨cs,te,fe,hhb,?_⟩
        have h7:cs[yoff]? = some us[0]:=by simpa using h6
        have:=(Dn.1 h7).1
        omega
      · cases h6
     obtain ⟨cs,te,fe,hyh,hys⟩:=hybk
     rw [hev,hv]
     have g1:(yb != b)=true:=by simpa using hbne
     have g2:(yb == b)=false:=by simpa using hbne
     have f1:E.w.frozen? ⟨b,p,none⟩=false:=by simp [World.frozen?,hh]
     have f2:E.w.frozen? ⟨b,(vs++sp).length,none⟩=false:=by simp [World.frozen?,hh]
     have s1:E.w.shape? b=some (e',(vs++sp).length):=by simp [World.shape?,hh]
     have s2:E.w.shape? yb=some (te,cs.size):=by simp [World.shape?,hyh]
     change Sem.run P (α:=AI) (do
      let some t := (#[T, T] : Array Ak)[0]? | stuck "slices.overlaps: no parameter types"
      let .slice elem ← underlying t | stuck "slices.overlaps: slice type expected"
      let size ←sizeOf elem
      match (some (⟨yb,yoff,none⟩:Addr):Ad Addr),(some (⟨b,p,none⟩:Addr):Ad Addr) with
      | some a,some b =>
        if l.length=0∨len=0∨size=0 then pure (Value.bool false)
        else if a.block != b.block&&(←frozen a)&&(←frozen b) then unsupported .addressObserved
        else do
         if a.block != b.block then do
          noView a; noView b
          if ← mayBeOne a b then return Value.bool ((← choose (.extern "sameAddr.stringBytes" 2)) == 1)
         pure (Value.bool (a.block == b.block&&a.off<b.off+len*size&&b.off<a.off+l.length*size))
      | _,_=>pure (Value.bool false)) E.w=_
     by_cases h0:l.length=0∨len=0∨sz=0
     · simp only [Sem.run_bind,List.getElem?_toArray,run_underlying hu,Result.andThen_ok,hi.run_size,Cj]
       rw [Az h0]; rfl
     · obtain ⟨q,hq⟩:∃ q,cs.size=q+1:=⟨cs.size-1,by omega⟩
       rw [hq] at s2
       obtain ⟨u,hu1⟩:∃ u,(vs++sp).length=u+1:=⟨(vs++sp).length-1,by
        have:=hvs.length
        have h8:0<ds.length:=DD.2 hlen
        simp; omega⟩
       rw [hu1] at s1 f2
       cases hfz:E.w.frozen? ⟨yb,yoff,none⟩ <;> cases hfe:E.w.frozen? ⟨yb,q+1,none⟩ <;>
       simp [run_underlying hu,hi.run_size,h0,g1,g2,frozen,noView,viewAt,mayBeOne,stringish,shape,Sem.run,s1,s2,f1,f2,hfz,hfe]
end
end Go.IL
open List renaming drop_length → Cm,drop_of_length_le → Cc,nil_append → AE
open Go.RowKit (Below)
namespace Go.IL
def insS {α:Type} (b:Nat) (l:List α) (i:Int) (vs:List α):Ad (List α) :=
 if 0≤i∧i≤(l.length:Int)∧l.length+vs.length≤9223372036854775807∧(l.length+vs.length)*b≤140737488355328 then some (l.take i.toNat++vs++l.drop i.toNat) else none
theorem insS_e {α:Type} {b:Nat} {l vs r:List α} {i:Int} (h:insS b l i vs=some r):∃ k:Nat,i=(k:Int)∧k≤l.length∧l.length+vs.length≤maxLen∧(l.length+vs.length)*b≤140737488355328∧l.take k++vs++l.drop k=r:=by
 unfold insS at h
 split at h
 · rename_i hh
   obtain ⟨h1,h2,h3,h4⟩:=hh
   exact ⟨i.toNat,by omega,by omega,by unfold maxLen; omega,h4,Option.some.inj h⟩
 · cases h
theorem insS_ok {α:Type} {b:Nat} {l vs:List α} {i:Int} (h0:0≤i) (h1:i≤(l.length:Int)) (h2:l.length+vs.length≤9223372036854775807) (h3:(l.length+vs.length)*b≤140737488355328):insS b l i vs=some (l.take i.toNat++vs++l.drop i.toNat):=Az ⟨h0,h1,h2,h3⟩
def delS {α:Type} (l:List α) (i j:Int):Ad (List α) :=
 if 0≤i∧i≤j∧j≤(l.length:Int) then some (l.take i.toNat++l.drop j.toNat) else none
theorem delS_e {α:Type} {l r:List α} {i j:Int} (h:delS l i j=some r):∃ k m:Nat,i=(k:Int)∧j=(m:Int)∧k≤m∧m≤l.length∧l.take k++l.drop m=r:=by
 unfold delS at h
 split at h
 · rename_i hh
   exact ⟨i.toNat,j.toNat,by omega,by omega,by omega,by omega,Option.some.inj h⟩
 · cases h
theorem delS_ok {α:Type} {l:List α} {i j:Int} (h0:0≤i) (h1:i≤j) (h2:j≤(l.length:Int)):delS l i j=some (l.take i.toNat++l.drop j.toNat):=Az ⟨h0,h1,h2⟩
section
variable {α:Type} (f:Enc0 α)
theorem Enc0.flat_take (l:List α) (k:Nat):(Al (l.map f.d)).take (k*f.sz)=Al ((l.take k).map f.d):=by
 by_cases hk:k≤l.length
 · have h1:=f.flat_append (l.take k) (l.drop k)
   rw [AO] at h1
   have h2:(Al ((l.take k).map f.d)).length=k*f.sz:=by rw [f.flat_len,Aw,BT hk]
   rw [←h1,AC (by rw [h2]; exact AJ _),←h2,AM]
 · rw [BD (l:=l) (by omega),BD (by rw [f.flat_len]; exact AS _ (by omega))]
theorem Enc0.flat_drop (l:List α) (k:Nat):(Al (l.map f.d)).drop (k*f.sz)=Al ((l.drop k).map f.d):=by
 by_cases hk:k≤l.length
 · have h1:=f.flat_append (l.take k) (l.drop k)
   rw [AO] at h1
   have h2:(Al ((l.take k).map f.d)).length=k*f.sz:=by rw [f.flat_len,Aw,BT hk]
   rw [←h1,←h2,Bi (AJ _),Cm,AE]
 · rw [Cc (l:=l) (by omega),Cc (by rw [f.flat_len]; exact AS _ (by omega))]; rfl
end
theorem wP {A B C D':List D} {off:Nat} (h:A.length=off) (hl:B.length=C.length):eH (A++B++D') off C=A++C++D':=by
 subst h
 unfold eH
 have e1:(A++B++D').take A.length=A:=by rw [Ax,AC (AJ _),AM]
 have e2:(A++B++D').drop (A.length+C.length)=D':=by
  rw [←hl,←Ae,Bi (AJ _),Cm,AE]
 rw [e1,e2]
theorem aJc {X Y V J:List D} {a m:Nat} (ha:X.length=a) (hv:V.length=m) (hj:m≤J.length) :
 eH (eH (X++Y++J) (a+m) Y) a V=X++V++Y++J.drop m:=by
 -- first the tail goes up
 have e1:∃ U W,X++Y++J=(X++U)++W++J.drop m∧U.length=m∧W.length=Y.length:=by
  have hUW:=AO m (Y++J.take m)
  have h1:X++Y++J=X++(Y++J.take m)++J.drop m:=by rw [Ax X (Y++_),Ax Y,AO,Ax]
  refine ⟨(Y++J.take m).take m,(Y++J.take m).drop m,?_,by simp; omega,by simp; omega⟩
  rw [h1,Ax X (List.take m (Y++List.take m J)),hUW]
 obtain ⟨U,W,e1,e2,e3⟩:=e1
 rw [e1,wP (by simp [ha,e2]) e3]
 have e4:X++U++Y++J.drop m=X++U++(Y++J.drop m):=by rw [Ax (X++U)]
 rw [e4,wP ha (by rw [e2,hv]),Ax (X++V)]
theorem ins_new {X V Y Z J:List D} {a m:Nat} (ha:X.length=a) (hv:V.length=m) (hz:Z.length=m+Y.length) :
 eH (eH (X++Z++J) a V) (a+m) Y=X++V++Y++J:=by
 have e1:X++Z++J=X++Z.take m++(Z.drop m++J):=by
  rw [Ax X,Ax X (Z.take m),←Ax (Z.take m),AO]
 rw [e1,wP ha (by simp; omega)]
 have e2:X++V++(Z.drop m++J)=X++V++Z.drop m++J:=by rw [Ax (X++V)]
 rw [e2,wP (by simp [ha,hv]) (by simp; omega)]
theorem yM {l c:List D} {o:Nat} (h:o+c.length≤l.length):(eH l o c).length=l.length:=by unfold eH; simp; omega
theorem wN {a b:Nat} (h:a+b≤maxLen):Ab .i64 ((a:Int)+(b:Int))=((a+b:Nat):Int):=by
 unfold maxLen at h; rw [aMV (by omega) (by omega)]; omega
theorem wS {a b:Nat} (h:b≤a) (h1:a≤maxLen):Ab .i64 ((a:Int)-(b:Int))=((a-b:Nat):Int):=by
 unfold maxLen at h1; rw [aMV (by omega) (by omega)]; omega
end Go.IL
open List renaming append_eq_nil_iff → Gh,drop_drop → DN
open Nat renaming le_add_right → Da
open Option renaming map_none → Gp,map_some → Cl
open Go.RowKit (Below)
namespace Go.IL
section
variable {P:An} {O:aR} {N:Nat} {S S':St} {o:Oper} {t:Nat} {Q:Exit→St→Prop}
theorem Rel.same {E:Env} {β:bD} {a:Act} (h:Rel O N S E β a) (h1:∀ s,S'.get s=S.get s) (h2:∀ j,S'.ent j=S.ent j):Rel O N S' E β a:=by
 have h3:S'.ent=S.ent:=funext h2
 exact ⟨h.n,h.nd,h3 ▸ h.h,fun s=>(h1 s).symm ▸ h.sl s⟩
theorem Rel.kill {E:Env} {β:bD} {a:Act} (h:Rel O N S E β a) (t:Nat):Rel O N (S.set t .dead) E β a:=by
 refine ⟨h.n,h.nd,h.h,fun s=>?_⟩
 by_cases hst:t=s
 · subst hst; simp only [CL,BM,aN,if_true]; exact .dead _ _
 · have:=h.sl s
   simpa [CL,BM,aN,hst] using this
theorem aBT {S:St} {id:Nat} {e:Ent}:(S.setE id e).ent id=e:=by simp [Cv,entL,BK,aN]
theorem zH {S:St} {id j:Nat} {e:Ent} (h:j≠id):(S.setE id e).ent j=S.ent j:=by simp [Cv,entL,BK,aN,Ne.symm h]
theorem Rel.shrunk {E:Env} {β:bD} {a:Act} (h:Rel O N S E β a) {id:Nat} {e:Ak} {ds ds' j:List D} (he:S.ent id = .blk e ds) (hd:ds=ds'++j):Rel O N (S.setE id (.blk e ds')) E β a:=by
 subst hd
 have hent:=h.h.ent id
 rw [he] at hent
 have held:∀ j,((S.setE id (.blk e ds')).ent j).held=(S.ent j).held:=fun j=>by
  by_cases hj:j=id
  · subst hj; rw [aBT,he]; rfl
  · rw [zH hj]
 refine ⟨h.n,h.nd,{ h.h with ent:=fun k=>?_,inj:=fun i j k hi hj=>h.h.inj i j k (held i ▸ hi) (held j ▸ hj) },h.sl⟩
 by_cases hk:k=id
 · subst hk
   rw [aBT]
   rcases hent with ⟨h1,h2⟩ | ⟨b,vs,sp,h1,h2,h3,h4,h5⟩
   · exact .inl ⟨h1,(Gh.1 h2).1⟩
   · refine .inr ⟨b,vs.take ds'.length,vs.drop ds'.length++sp,h1,h2,by rw [←Ax,AO]; exact h3,h4,?_⟩
     have:=h5.take ds'.length
     rwa [AC (AJ _),AM] at this
 · rw [zH hk]; exact h.h.ent k
theorem xY {α:Type} (f:Enc0 α) (l:List α) (k:Nat):Al (l.map f.d)=Al ((l.take k).map f.d)++Al ((l.drop k).map f.d):=by
 rw [f.flat_append,AO]
theorem aCa {α:Type} (f:Enc0 α) {T e e':Ak} {x y:Ag} {z:Ad AI} {bytes id n:Nat} {l r:List α} {k:IntKind} {h:Int} (ho:o.op = .slice T x none (some y) none) (hd:o.dst=some t) (ht:t<N)
 (hu:P.underlying T=some (.slice e)) (hi:TI P e z f.sz bytes) (hx:SV S x (.osl id f.sz n)) (he:S.ent id = .blk e' (Al (l.map f.d))) (hn:l.length≤n) (hy:SV S y (.int k h)) (hc:cut l 0 h=some r) :
 IOp P O N o S ((S.setE id (.blk e' (Al (r.map f.d)))).set t (.osl id f.sz r.length)):=by
 obtain ⟨⟨_,h0,h1⟩,hr'⟩:=aIA hc
 have hr2:l.take h.toNat=r:=by simpa using hr'
 have hrl:r.length=h.toNat:=by rw [←hr2,Aw]; omega
 have key:IOp P O N o S (S.set t (.osl id f.sz r.length)):=eO hd ht fun E β a hr=>by
  have hhi:vO S (n:Int) (some y) h:=⟨_,hy⟩
  have hlo:vO S 0 none 0:=rfl
  have h1:=hx.rd hr
  generalize hv:a.eval x=v at h1
  cases h1 with
  | nosl =>
    have hb:=sX (P:=P) hr (isS:=true) hlo hhi (AU 0) h0 (by omega) (AJ _)
    have e1:h.toNat=0:=by omega
    refine ⟨.slice none 0 0,?_,by rw [hrl,e1]; exact .nosl _ _ _⟩
    simp only [Gp,Cl] at hb
    simp [execOp,ho,hv,Instr.sliceAt,Instr.slice,run_underlying hu,hb,hi.run_size,e1]
  | osl _ _ b _ cap _ hb' hc' hsz c e2 f2 hcap hcs hcm =>
    have hb:=sX (P:=P) hr (isS:=true) hlo hhi (AU 0) h0 (by omega) hc'
    simp only [Gp,Cl] at hb
    refine ⟨.slice (some ⟨b,0,none⟩) h.toNat cap,?_,by rw [hrl]; exact .osl _ _ b _ cap _ hb' (by omega) hsz c e2 f2 hcap hcs hcm⟩
    simp [execOp,ho,hv,Instr.sliceAt,Instr.slice,run_underlying hu,hb,hi.run_size,Addr.add]
 intro E β a hr next Q hn'
 refine key E β a hr next Q fun E' β' a' hr'=>hn' E' β' a' ?_
 exact hr'.shrunk (ds':=Al (r.map f.d)) (j:=Al ((l.drop h.toNat).map f.d)) he (by rw [←hr2]; exact xY f l _)
theorem aCL {T e:Ak} {x y:Ag} {z:Ad AI} {size bytes:Nat} {k:IntKind} (ho:o.op = .slice T x (some y) none none) (hd:o.dst=some t) (ht:t<N)
 (hu:P.underlying T=some (.slice e)) (hi:TI P e z size bytes) (hx:SV S x .nils) (hy:SV S y (.int k 0)):IOp P O N o S (S.set t .nils) :=
 eO hd ht fun E β a hr=>by
  have h1:=hx.rd hr
  generalize hv:a.eval x=v at h1
  cases h1
  refine ⟨.slice none 0 0,?_,.nils _⟩
  simp [execOp,ho,hv,Instr.sliceAt,Instr.slice,run_underlying hu,hi.run_size,Instr.sliceBounds,Instr.sliceBound,fH (hy.rd hr),asIntOf]
theorem aBr {T e:Ak} {x y1 y2 y3:Ag} {z:Ad AI} {size bytes:Nat} {k1 k2 k3:IntKind} (ho:o.op = .slice T x (some y1) (some y2) (some y3)) (hd:o.dst=some t) (ht:t<N)
 (hu:P.underlying T=some (.slice e)) (hi:TI P e z size bytes) (hx:SV S x .nils) (hy1:SV S y1 (.int k1 0)) (hy2:SV S y2 (.int k2 0)) (hy3:SV S y3 (.int k3 0)):IOp P O N o S (S.set t .nils) :=
 eO hd ht fun E β a hr=>by
  have h1:=hx.rd hr
  generalize hv:a.eval x=v at h1
  cases h1
  refine ⟨.slice none 0 0,?_,.nils _⟩
  simp [execOp,ho,hv,Instr.sliceAt,Instr.slice,run_underlying hu,hi.run_size,Instr.sliceBounds,Instr.sliceBound,fH (hy1.rd hr),fH (hy2.rd hr),fH (hy3.rd hr),asIntOf]
theorem aCS {A Z C:List D} {off:Nat} (h:A.length=off):eH (A++Z) off C=A++(C++Z.drop C.length):=by
 subst h
 unfold eH
 rw [AC (AJ _),AM,←DN,Bi (AJ _),Cm,AE,Ax]
theorem aCM {T e:Ak} {x:Ag} (ho:o.op = .call { callee:=.builtin .clear,args:=#[x],argTypes:=#[T] }) (hd:o.dst=none)
 (hu:P.underlying T=some (.slice e)) (hx:SV S x .nils):IOp P O N o S S:=by
 intro E β a hr next Q hn
 have h1:=hx.rd hr
 generalize hv:a.eval x=v at h1
 cases h1
 have:(execOp a.eval o).run P E.w = .ok (.value (.tuple #[])) E.w:=by
  simp [execOp,ho,resolve,invoke,builtin,hv,Builtin.clear_,run_underlying hu]
 unfold Oper.wp
 rw [this]
 simp only [Oper.upon,hd,Act.put]
 exact hn E β _ hr
theorem aBz {α:Type} (f:Enc0 α) {ops:Array Oper} {o1 o2:Oper} {c:List Oper} {T e e':Ak} {y:Ag} {z:AI} {bytes id n t1 tx:Nat} {l r:List α} {k:IntKind} {i:Int} (g1:pH o1=true) (g2:pH o2=true)
 (ho1:o1.op = .slice T (.tmp tx) (some y) none none) (hd1:o1.dst=some t1) (ht:t1<N) (ho2:o2.op = .call { callee:=.builtin .clear,args:=#[.tmp t1],argTypes:=#[T] }) (hd2:o2.dst=none)
 (hu:P.underlying T=some (.slice e)) (hi:TI P e (some z) f.sz bytes) (hz:z.cells.size=f.sz) (hz1:z.cells.toList.all Value.oneCell'=true) (hx:S.get tx = .osl id f.sz n) (he:S.ent id = .blk e' (Al (l.map f.d))) (hn:l.length=n)
 (hy:∀ S1:St,(∀ s,tx≠s→S1.get s=S.get s)→SV S1 y (.int k i)) (hc:cut l 0 i=some r) (K:ILS P O N ops c (((S.setE id (.blk e' (Al (r.map f.d)))).set tx .dead).set t1 .dead) Q):ILS P O N ops (o1::o2::c) S Q:=by
 obtain ⟨⟨_,h0,h1⟩,hr'⟩:=aIA hc
 have hr2:l.take i.toNat=r:=by simpa using hr'
 have hfl:=f.flat_len l
 intro E β a hr
 rcases hr.opened hx he (by rw [hfl,hn]) with ⟨hn0,h3⟩ | ⟨cap,hc1,hc2,h3⟩
 · have hl0:l=[]:=Bh.1 (by omega)
   subst hl0
   obtain rfl:i=0:=by simp at h1; omega
   obtain rfl:r=[]:=by simpa using hr2.symm
   refine aE g1 (aCL ho1 hd1 ht hu hi (sv (d:=.nils) (by simp [St.op,CL,BM,aN])) (hy _ fun s hs=>by simp [CL,BM,aN,hs])) (aE g2 (aCM ho2 hd2 hu (sv (d:=.nils) (by simp [St.op,CL,BM,aN]))) ?_) E β a h3
   intro E' β' a' h4
   refine K E' β' a' (((h4.kill tx).kill t1).same (fun s=>?_) (fun j=>?_))
   · by_cases h6:t1=s <;> by_cases h7:tx=s <;> simp [CL,BM,BK,aN,h6,h7]
   · simp only [Cv,entL,BM,BK,aN]
     split
     · rename_i h5; subst h5; exact he.symm
     · rfl
 · have hyS:=hy ((S.setE id (.blk e' (Al (l.map f.d)++Ay ((cap-n)*f.sz) .dead))).set tx (.rsl id f.sz 0 n cap)) fun s hs=>by simp [CL,BM,BK,aN,hs]
   have hin:i.toNat≤n:=by omega
   have hmul:i.toNat*f.sz+(n-i.toNat)*f.sz=n*f.sz:=by rw [←Bp]; congr 1; omega
   refine aE g1 (dX (id:=id) (off:=0) (len:=n) (cap:=cap) (sz:=f.sz) (l:=i) (h:=n) (m:=cap) (d:=.rsl id f.sz (i.toNat*f.sz) (n-i.toNat) (cap-i.toNat)) ho1 hd1 ht hu hi (sv (d:=.rsl _ _ _ _ _) (by simp [St.op,CL,BM,aN])) ⟨_,hyS⟩ rfl rfl (by simp) h0 (by omega) (by omega) (by omega) (by simp))
    (aE g2 (aAM (e':=e') (ds:=Al (l.map f.d)++Ay ((cap-n)*f.sz) D.dead) ho2 hd2 hu hi hz hz1 (sv (d:=.rsl id f.sz (i.toNat*f.sz) (n-i.toNat) (cap-i.toNat)) (by simp [St.op,CL,BM,aN])) (by simp [Cv,entL,BM,BK,aN]) (by rw [Ae,hfl,hn,hmul]; exact Da _ _) rfl) ?_) E β a h3
   intro E' β' a' h4
   have h5:=h4.shrunk (id:=id) (e:=e') (ds':=Al (r.map f.d)) (j:=Ay ((n-i.toNat)*f.sz) .dead++(Al (l.map f.d)++Ay ((cap-n)*f.sz) D.dead).drop (n*f.sz)) aBT (by
    unfold eH
    rw [BG,hmul,AC (by rw [hfl,hn]; exact AS _ hin),f.flat_take,hr2,Ax])
   refine K E' β' a' (((h5.kill tx).kill t1).same (fun s=>?_) (fun j=>?_))
   · by_cases h6:t1=s <;> by_cases h7:tx=s <;> simp [CL,BM,BK,aN,h6,h7]
   · simp only [Cv,entL,BM,BK,aN]; repeat' split <;> rfl
theorem qT {b:Frame} {a:Act} {k:List Item} {cs:List Frame} {w:World} {c:Code}:step P (lone (b.atR a (.code (.scope c)::k)) cs w) = .next (lone (b.atR a (.code c :: .inScope c::k)) cs w) :=
 step_lone_go (by simp [stepG,stepG.exec,Frame.atR])
theorem aCy {b:Frame} {a:Act} {k:List Item} {cs:List Frame} {w:World} {c:Code}:step P (lone (b.atR a (.inScope c::k)) cs w) = .next (lone (b.atR a k) cs w) :=
 step_lone_go (by simp [stepG,stepG.exec,Frame.atR])
theorem aHZ {F:Fence} {n:Nat} {a:Act} {w:World} {R:Exit→Act→World→Prop} {c:Code} (h:c.wpIn F n P (Exit.noGoto R) a w):(Code.scope c).wpIn F n P R a w:=by
 intro b k cs hro hb hr
 have h0:(lone (b.atR a (.code (.scope c)::k)) cs w).fenced P F:=fenced_calm hb hr rfl
 obtain ⟨e,a₁,w₁,hq,harr⟩:=h b (.inScope c::k) cs hro hb hr
 cases e with
 | normal=>exact ⟨.normal,a₁,w₁,hq,.head h0 qT (StepsIn.trans harr (.one (fenced_calm hb hr rfl) aCy))⟩
 | exit id =>
   have hx:exitTo id (.inScope c::k)=exitTo id k:=by simp [exitTo]
   exact ⟨.exit id,a₁,w₁,hq,fun k' hk=>.head h0 qT (harr.1 k' (by rw [hx]; exact hk)),
    fun hr' hk=>let ⟨k₁,h1,h2⟩:=harr.2 hr' (by rw [hx]; exact hk); ⟨k₁,h1,.head h0 qT h2⟩⟩
 | goto l=>exact hq.elim
 | ret=>exact ⟨_,a₁,w₁,hq,.of_steps (.one h0 qT) harr⟩
 | panic ch=>exact ⟨_,a₁,w₁,hq,.of_steps (.one h0 qT) harr⟩
 | outgrown=>exact ⟨_,a₁,w₁,hq,.of_steps (.one h0 qT) harr⟩
def aMj (Q:Exit→St→Prop):Exit→St→Prop
 | .goto _,_=>False
 | e,S=>Q e S
theorem aJO {c:Code} (h:IWP P O N c S (aMj Q)):IWP P O N (.scope c) S Q:=by
 intro E β a hr
 refine aHZ (wpIn_mono (h E β a hr) ?_)
 rintro e a' w' ⟨S',E',β',rfl,h2,h3⟩
 cases e with
 | goto l=>exact h3.elim
 | _=>exact ⟨S',E',β',rfl,h2,h3⟩
theorem aNE {α:Type} {l r:List α} {a b:Int} (h:cut l a b=some r):r.length≤l.length:=by
 obtain ⟨_,hr⟩:=aIA h
 rw [←hr,AA,Aw]; omega
end
end Go.IL
open Bool renaming and_eq_true → Af,or_false → Cr
open Go.IL.D renaming renL → BV
open Go.IL.Ent renaming held → GC,held_ren → CV
open Go.IL.Env.le renaming refl → Cy
open Go.IL.RdL renaming ren → En,renp → FU
open List renaming map_map → Bz,mem_cons_of_mem → BB,mem_cons_self → Hh
open Nat renaming ble_eq → Dz,blt_eq → CQ,le_trans → Cb,lt_of_lt_of_le → CA
open Prod renaming fst → Dc
open Go.RowKit (Below)
namespace Go.IL
section
variable {P:An} {O:aR} {N:Nat} {S S':St} {o:Oper} {t:Nat} {Q:Exit→St→Prop}
structure HandM (S:St) (k:Nat) (A:List Nat) (H0:List (Nat×Ent)):Prop where
 nd:A.Nodup
 cov:A.all (fun i=>(H0.map fun x=>sig k A x.1).contains i)=true
 ents:∀ x∈H0,dT A x.1=true∧x.2.held=true∧S.ent (sig k A x.1)=x.2.ren (sig k A)∧x.2.refsIn (dT A)=true
def vM (m:Nat) (A:List Nat) (i:Nat):Bool:=Gq i m||dT A i
theorem aH2 {f:BP} {ds ds':List D} {r r':D} {H0 H1 H2:List (Nat×Ent)} (k m:Nat) (A:List Nat) (hd:o.dst=some t) (ht:t<N)
 (h:∀ E β a,Rel O N S E β a→∃ vs:List AI,(execOp a.eval o).run P E.w = .ok (.enter f vs.toArray) E.w∧RdL E β vs ds') (hds:BV (sig k A) ds=ds') (hp:AG (dT A) ds=true)
 (hkm:k+m≤1000) (hfr:∀ j,j<m→S.ent (k+j) = .fresh) (hh:HandM S k A H0) (hf:FnH P f ds H0 r H1) (hrr:r.ren (sig k A)=r') (hrp:r.refsIn (vM m A)=true) (hH1:∀ x∈H1,vM m A x.1=true∧x.2.refsIn (vM m A)=true)
 (hH2:aAa k A H0 H1 S.H=H2):IOp P O N o S (BM ⟨S.sl,H2⟩ t r'):=by
 intro E β a hr next Q hn
 obtain ⟨vs,hrun,hv⟩:=h E β a hr
 unfold Oper.wp
 rw [hrun]
 simp only [Oper.upon,hd]
 subst hds hrr hH2
 let βc:bD:=fun i=>if dT A i=true then β (sig k A i) else none
 have hβc:∀ id,dT A id=true→βc id=β (sig k A id):=fun id hid=>by simp [βc,hid]
 have hvc:RdL E βc vs ds:=En hβc ds hv hp
 have h0:∀ i,(entL H0 i).held=true→dT A i=true∧S.ent (sig k A i)=(entL H0 i).ren (sig k A)∧(entL H0 i).refsIn (dT A)=true:=fun i hi=>by
  have h1:=hh.ents _ (aAV hi)
  exact ⟨h1.1,h1.2.2.1,h1.2.2.2⟩
 have hcall:HOk ⟨E.w,E.X,uB βc H0,βc,none,fun _=>[],fun _=>0,fun _=>[],fun _=>(#[],.skip,.skip)⟩ E βc (entL H0):={
  tab:=hr.h.good.tab,os:=rfl,tape:=rfl,output:=rfl,size:=AJ _,block:=fun _ _ _=>rfl,xlt:=hr.h.xlt,xold:=fun _ _ _ _=>Gl,le:=Cy _
  gid:=fun i b hi=>by
   by_cases hg:dT A i=true
   · simp only [dT,Af,Dz] at hg; exact hg.1
   · simp [βc,hg] at hi
  given:=fun _ _ hi=>hi
  ent := fun i=>by
   cases hhe:(entL H0 i).held with
   | true =>
     obtain ⟨h1,h2,h3⟩:=h0 i hhe
     have he:=hr.h.ent (sig k A i)
     rw [h2] at he
     have hown:∀ b,βc i=some b→(⟨E.w,E.X,uB βc H0,βc,none,fun _=>[],fun _=>0,fun _=>[],fun _=>(#[],.skip,.skip)⟩:aR).own b:=fun b hb=>.inr ⟨i,hhe,hb⟩
     cases hE:entL H0 i with
     | none=>trivial
     | fresh=>rw [hE] at hhe; cases hhe
     | blk e es =>
       rw [hE] at he h3
       rcases he with ⟨g1,g2⟩ | ⟨b,ws,sp,g1,g2,g3,g4,g5⟩
       · exact .inl ⟨(hβc i h1).trans g1,zR g2⟩
       · exact .inr ⟨b,ws,sp,(hβc i h1).trans g1,hown b ((hβc i h1).trans g1),g3,g4,En hβc es g5 h3⟩
     | tail e sz n =>
       rw [hE] at he
       rcases he with ⟨g1,g2⟩ | ⟨b,c,g1,g2,g3,g4⟩
       · exact .inl ⟨(hβc i h1).trans g1,g2⟩
       · exact .inr ⟨b,c,(hβc i h1).trans g1,hown b ((hβc i h1).trans g1),g3,g4⟩
     | loop lk es st pe =>
       rw [hE] at h3; cases h3
     | kept n es=>rw [hE] at hhe; cases hhe
   | false =>
     cases hE:entL H0 i with
     | none=>trivial
     | fresh =>
       show βc i=none
       by_cases hm:i∈H0.map (·.1)
       · obtain ⟨e,h1,h2⟩:=jY (z:=defE i) hm
         have h3:=hh.ents _ h1
         have:entL H0 i=e:=h2
         rw [hE] at this; rw [←this] at h3; exact AP h3.2.1 (by simp [GC])
       · have:entL H0 i=defE i:=jD hm
         rw [hE] at this
         unfold defE at this
         split at this
         · cases this
         · rename_i hlt
           have:¬ dT A i=true:=by simp only [dT,Af,Dz]; omega
           simp [βc,this]
     | blk=>rw [hE] at hhe; cases hhe
     | tail=>rw [hE] at hhe; cases hhe
     | loop=>rw [hE] at hhe; cases hhe
     | kept n es =>
       exfalso
       by_cases hm:i∈H0.map (·.1)
       · obtain ⟨e,h1,h2⟩:=jY (z:=defE i) hm
         have h3:=hh.ents _ h1
         have:entL H0 i=e:=h2
         rw [hE] at this; rw [←this] at h3; exact AP h3.2.1 (by simp [GC])
       · have:entL H0 i=defE i:=jD hm
         rw [hE] at this
         unfold defE at this
         split at this <;> cases this
  inj:=fun i j b hi hj h1 h2=>by
   obtain ⟨a1,a2,_⟩:=h0 i hi
   obtain ⟨b1,b2,_⟩:=h0 j hj
   have h1:β (sig k A i)=some b:=(hβc i a1).symm.trans h1
   have h2:β (sig k A j)=some b:=(hβc j b1).symm.trans h2
   exact aC0 hh.nd a1 b1 (hr.h.inj _ _ b (by rw [a2,CV]; exact hi) (by rw [b2,CV]; exact hj) h1 h2) }
 refine (hf E βc vs hr.h.good hcall.gid hcall hvc).mono ?_
 rintro e w' ⟨v,rfl,E',β',rfl,hok,hrd⟩
 -- old blocks that were not handed over
 have hfoot:∀ b,uB βc H0 b→∃ i,dT A i=true∧(S.ent (sig k A i)).held=true∧β (sig k A i)=some b:=fun b ⟨i,hi,hb⟩=>by
  obtain ⟨h1,h2,_⟩:=h0 i hi
  exact ⟨i,h1,by rw [h2,CV]; exact hi,by rw [←hβc i h1]; exact hb⟩
 have hfown:∀ b,uB βc H0 b→O.own b:=fun b hb=>by
  obtain ⟨i,_,h2,h3⟩:=hfoot b hb
  have he:=hr.h.ent (sig k A i)
  exact hr.h.own h2 h3
 have hcown:∀ b,(⟨E.w,E.X,uB βc H0,βc,none,fun _=>[],fun _=>0,fun _=>[],fun _=>(#[],.skip,.skip)⟩:aR).own b→O.own b:=fun b hb=>by
  rcases hb with hb | hb
  · exact .inl (Cb hr.h.size hb)
  · exact hfown b hb
 have hfrE:∀ i,k≤i∧i<k+m→S.ent i = .fresh:=fun i h1=>by
  have:=hfr (i-k) (by omega)
  rwa [show k+(i-k)=i by omega] at this
 have hfresh:∀ i,k≤i→i<k+m→β i=none:=fun i h1 h2=>by
  have he:=hr.h.ent i
  rw [hfrE i ⟨h1,h2⟩] at he; exact he
 let βn:bD:=fun i=>if k≤i∧i<k+m then β' (i-k) else if i∈A then β' (1000+A.idxOf i) else β i
 have hAk:∀ i,i∈A→¬ (k≤i∧i<k+m):=fun i hi hki=>by
  have h1:=AV.1 hh.cov i hi
  obtain ⟨x,hx,hxe⟩:=AL.1 (by simpa using h1:i∈H0.map (fun x=>sig k A x.1))
  have h2:=hh.ents x hx
  rw [hxe,hfrE i hki] at h2
  have h3:(x.2.ren (sig k A)).held=true:=by rw [CV]; exact h2.2.1
  rw [←h2.2.2.1] at h3; cases h3
 have hnA:∀ i,i∈A→βn i=β' (1000+A.idxOf i):=fun i hi=>by simp [βn,hAk i hi,hi]
 have hnO:∀ i,i ∉ A→¬ (k≤i∧i<k+m)→βn i=β i:=fun i h1 h2=>by simp [βn,h1,h2]
 have hβ1:β.le βn:=fun i b hi=>by
  by_cases hki:k≤i∧i<k+m
  · rw [hfresh i hki.1 hki.2] at hi; cases hi
  · by_cases hA:i∈A
    · rw [hnA i hA]
      obtain ⟨h1,h2⟩:=aA8 (k:=k) hA
      exact hok.given _ _ (((hβc _ h1).trans (by rw [h2])).trans hi)
    · rw [hnO i hA hki]; exact hi
 have hβ2:∀ i,vM m A i=true→βn (sig k A i)=β' i:=fun i hi=>by
  by_cases hg:dT A i=true
  · rw [hnA _ (tF hg),aC1 hh.nd hg]
  · simp only [vM,hg,Cr,CQ] at hi
    have h2:¬ 1000≤i:=by omega
    have h1:sig k A i=k+i:=by simp [sig,h2]
    rw [h1]
    simp [βn,hi]
 have hle:E.le E':=hok.le
 -- the entries behind the call
 have hkey1:∀ i,vM m A i=true→∀ j,vM m A j=true→sig k A i=sig k A j→i=j:=fun i hi j hj hij=>by
  by_cases hgi:dT A i=true
  · by_cases hgj:dT A j=true
    · exact aC0 hh.nd hgi hgj hij
    · exfalso
      simp only [vM,hgj,Cr,CQ] at hj
      have h2:sig k A j=k+j:=by simp [sig,show ¬1000≤j by omega]
      exact hAk _ (tF (k:=k) hgi) (by rw [hij,h2]; omega)
  · by_cases hgj:dT A j=true
    · exfalso
      simp only [vM,hgi,Cr,CQ] at hi
      have h2:sig k A i=k+i:=by simp [sig,show ¬1000≤i by omega]
      exact hAk _ (tF (k:=k) hgj) (by rw [←hij,h2]; omega)
    · simp only [vM,hgi,hgj,Cr,CQ] at hi hj
      simp only [sig,show ¬1000≤i by omega,show ¬1000≤j by omega,if_false] at hij
      omega
 have hent:∀ i,(BM ⟨S.sl,aAa k A H0 H1 S.H⟩ t (r.ren (sig k A))).ent i =
  if i∈H1.map (fun x=>sig k A x.1) then (look (defE i) i (H1.map fun x=>(sig k A x.1,x.2.ren (sig k A)))) else if i∈H0.map (fun x=>sig k A x.1) then .none else S.ent i:=fun i=>by
  simp only [Cv,entL,BM,aAa,dI,Bz]
  have e1:(Dc ∘ fun x:Nat×Ent=>(sig k A x.1,x.2.ren (sig k A)))=fun x=>sig k A x.1:=rfl
  have e2:(Dc ∘ fun x:Nat×Ent=>(sig k A x.1,Ent.none))=fun x=>sig k A x.1:=rfl
  rw [e1,e2]
  split
  · rfl
  · split
    · rename_i h1 h2
      obtain ⟨e,h3,h4⟩:=jY (z:=defE i) (l:=H0.map fun x=>(sig k A x.1,Ent.none)) (by rw [Bz,e2]; exact h2)
      rw [h4]
      obtain ⟨x,_,hx⟩:=AL.1 h3
      cases hx; rfl
    · rfl
 have hlook1:∀ j,vM m A j=true→j∈H1.map (·.1)→look (defE (sig k A j)) (sig k A j) (H1.map fun x=>(sig k A x.1,x.2.ren (sig k A)))=(entL H1 j).ren (sig k A):=by
  intro j hj
  unfold entL
  have aux:∀ (z z':Ent) (l:List (Nat×Ent)),(∀ x∈l,vM m A x.1=true)→j∈l.map (·.1)→look z (sig k A j) (l.map fun x=>(sig k A x.1,x.2.ren (sig k A)))=(look z' j l).ren (sig k A):=by
   intro z z' l
   induction l with
   | nil=>intro _ h; simp at h
   | cons x l ih =>
     obtain ⟨i,e⟩:=x
     intro hl hm
     simp only [AB,aN]
     by_cases hij:i=j
     · subst hij; rw [Az rfl,Az rfl]
     · rw [Aq (fun h=>hij (hkey1 i (hl (i,e) Hh) j hj h)),Aq hij]
       refine ih (fun x hx=>hl x (BB _ hx)) ?_
       simp only [AB,AF] at hm
       rcases hm with h | h
       · exact AP h.symm hij
       · exact h
  exact aux _ _ H1 (fun x hx=>(hH1 x hx).1)
 have hH1r:∀ j,j∈H1.map (·.1)→vM m A j=true∧(entL H1 j).refsIn (vM m A)=true:=fun j hj=>by
  obtain ⟨e,h1,h2⟩:=jY (z:=defE j) hj
  have h3:=hH1 _ h1
  exact ⟨h3.1,by rw [show entL H1 j=e from h2]; exact h3.2⟩
 have cases1:∀ i,i∈H1.map (fun x=>sig k A x.1)→∃ j,j∈H1.map (·.1)∧vM m A j=true∧i=sig k A j:=fun i hi=>by
  obtain ⟨x,hx,rfl⟩:=AL.1 hi
  exact ⟨x.1,AL.2 ⟨x,hx,rfl⟩,(hH1 x hx).1,rfl⟩
 -- an entry that was not handed over
 have hold:∀ i,i ∉ H1.map (fun x=>sig k A x.1)→i ∉ H0.map (fun x=>sig k A x.1)→(S.ent i).held=true→∀ b,β i=some b→βn i=some b∧b<E.w.heap.size∧¬ uB βc H0 b:=fun i h1 h2 h3 b hb=>by
  refine ⟨hβ1 i b hb,?_,?_⟩
  · exact hr.h.lt h3 hb
  · rintro ⟨j,hj,hbj⟩
    obtain ⟨g1,g2,_⟩:=h0 j hj
    have:i=sig k A j:=hr.h.inj i (sig k A j) b h3 (by rw [g2,CV]; exact hj) hb (by rw [←hβc j g1]; exact hbj)
    exact h2 (AL.2 ⟨_,aAV hj,this.symm⟩)
 have hcov:∀ i,i∈A→i∈H0.map (fun x=>sig k A x.1):=fun i hi=>by
  have:=AV.1 hh.cov i hi
  simpa using this
 have hold':∀ i,i ∉ H0.map (fun x=>sig k A x.1)→S.ent i ≠ .fresh→βn i=β i:=fun i h0 hf=>by
  refine hnO i (fun hA=>h0 (hcov i hA)) (fun hki=>hf ?_)
  exact hfrE i hki
 refine hn E' βn _ ⟨by simp [Act.put,hr.n],hr.nd.mono (fun b hx=>(hok.block b (cU hx) (fun hf=>by obtain ⟨i,_,h2,h3⟩:=hfoot b hf; exact hr.h.nodef h2 h3 _ hx)).trans hx),?_,?_⟩
 · exact {
    tab:=hr.h.tab,os:=hok.os.trans hr.h.os,tape:=hok.tape.trans hr.h.tape,output:=hok.output.trans hr.h.output,size:=Cb hr.h.size hok.size
    block:=fun j hj hf=>by
     have hnf:¬ uB βc H0 j:=fun h=>by
      rcases hfown j h with h1 | h1
      · omega
      · exact hf h1
     exact (hok.block j (CA hj hr.h.size) hnf).trans (hr.h.block j hj hf)
    xlt:=hok.xlt
    xold:=fun b o hb hf=>by
     have hnf:¬ uB βc H0 b:=fun h=>by
      rcases hfown b h with h1 | h1
      · omega
      · exact hf h1
     exact (hok.xold b o (CA hb hr.h.size) hnf).trans (hr.h.xold b o hb hf)
    le:=hr.h.le.trans hle
    gid:=hr.h.gid
    given:=fun i b hi=>hβ1 i b (hr.h.given i b hi)
    ent := fun i=>by
     rw [hent i]
     by_cases hi1:i∈H1.map (fun x=>sig k A x.1)
     · rw [Az hi1]
       obtain ⟨j,hj,hbj,rfl⟩:=cases1 i hi1
       rw [hlook1 j hbj hj]
       have he:=hok.ent j
       have hrf:=(hH1r j hj).2
       have hb2:=hβ2 j hbj
       cases hE:entL H1 j with
       | none=>trivial
       | fresh=>rw [hE] at he; exact hb2.trans he
       | blk e es =>
         rw [hE] at he hrf
         rcases he with ⟨g1,g2⟩ | ⟨b,ws,sp,g1,g2,g3,g4,g5⟩
         · exact .inl ⟨hb2.trans g1,by rw [g2]; rfl⟩
         · exact .inr ⟨b,ws,sp,hb2.trans g1,hcown b g2,g3,g4,FU (fun id b hid hb=>(hβ2 id hid).trans hb) g5 hrf⟩
       | tail e sz n =>
         rw [hE] at he
         rcases he with ⟨g1,g2⟩ | ⟨b,c,g1,g2,g3,g4⟩
         · exact .inl ⟨hb2.trans g1,g2⟩
         · exact .inr ⟨b,c,hb2.trans g1,hcown b g2,g3,g4⟩
       | loop lk es st pe =>
         rw [hE] at hrf; cases hrf
       | kept n es=>rw [hE] at hrf; cases hrf
     · rw [Aq hi1]
       by_cases hi0:i∈H0.map (fun x=>sig k A x.1)
       · rw [Az hi0]; trivial
       · rw [Aq hi0]
         have he:=hr.h.ent i
         have hnb:∀ b,(S.ent i).held=true→β i=some b→βn i=some b∧E'.w.heap[b]? = E.w.heap[b]? ∧ ∀ o,(E'.X b o↔E.X b o):=fun b hhe hb=>by
          obtain ⟨g1,g2,g3⟩:=hold i hi1 hi0 hhe b hb
          exact ⟨g1,hok.block b g2 g3,fun o=>hok.xold b o g2 g3⟩
         cases hE:S.ent i with
         | none=>trivial
         | fresh =>
           rw [hE] at he
           show βn i=none
           by_cases hki:k≤i∧i<k+m
           · -- a fresh name of the callee's that is told by nothing
             have hbi:i-k ∉ H1.map (·.1):=fun hm=>by
              have hbb:=(hH1r _ hm).1
              refine hi1 ?_
              obtain ⟨x,hx,hxe⟩:=AL.1 hm
              refine AL.2 ⟨x,hx,?_⟩
              have hx':x.1=i-k:=hxe
              rw [hx']
              simp only [sig,show ¬1000≤i-k by omega,if_false]
              omega
             have h3:=hok.ent (i-k)
             have h4:entL H1 (i-k)=defE (i-k):=jD hbi
             rw [h4,defE,Aq (by omega)] at h3
             simp only [βn,hki,and_self,if_true]
             exact h3
           · rw [hnO i (fun hA=>hi0 (hcov i hA)) hki]; exact he
         | blk e es =>
           rw [hE] at he
           rcases he with ⟨g1,g2⟩ | ⟨b,ws,sp,g1,g2,g3,g4,g5⟩
           · exact .inl ⟨(hold' i hi0 (by rw [hE]; exact fun h=>by cases h)).trans g1,g2⟩
           · obtain ⟨f1,f2,f3⟩:=hnb b (by rw [hE]; rfl) g1
             exact .inr ⟨b,ws,sp,f1,g2,f2.trans g3,fun o=>(f3 o).2 (g4 o),Bu hle hβ1 g5⟩
         | tail e sz n =>
           rw [hE] at he
           rcases he with ⟨g1,g2⟩ | ⟨b,c,g1,g2,g3,g4⟩
           · exact .inl ⟨(hold' i hi0 (by rw [hE]; exact fun h=>by cases h)).trans g1,g2⟩
           · obtain ⟨f1,f2,f3⟩:=hnb b (by rw [hE]; rfl) g1
             exact .inr ⟨b,c,f1,g2,f2.trans g3,fun o ho=>(f3 o).2 (g4 o ho)⟩
         | loop lk es st pe =>
           rw [hE] at he
           obtain ⟨b,q,g1,g2,g3,g4,g5,g6,g7,g8,g9,g10⟩:=he
           obtain ⟨f1,f2,f3⟩:=hnb b (by rw [hE]; rfl) g1
           exact ⟨b,q,f1,g2,f2.trans g3,fun o=>(f3 o).2 (g4 o),g5,g6,g7,g8,g9,g10.1,Bu hle hβ1 g10.2⟩
         | kept n es =>
           rw [hE] at he
           exact ⟨Bu hle hβ1 he.1,fun c hc=>(hok.block c (cU (he.2 c hc)) (fun hf=>by obtain ⟨i,_,h2,h3⟩:=hfoot c hf; exact hr.h.nodef h2 h3 _ (he.2 c hc))).trans (he.2 c hc)⟩
    inj := fun i j b hi hj hbi hbj=>by
     rw [hent i] at hi
     rw [hent j] at hj
     have hone:∀ i,i∈H1.map (fun x=>sig k A x.1)→(look (defE i) i (H1.map fun x=>(sig k A x.1,x.2.ren (sig k A)))).held=true→βn i=some b→∃ a,(entL H1 a).held=true∧β' a=some b∧i=sig k A a∧vM m A a=true:=fun i hm hh hb=>by
      obtain ⟨a,ha,hba,rfl⟩:=cases1 i hm
      rw [hlook1 a hba ha,CV] at hh
      exact ⟨a,hh,(hβ2 a hba).symm.trans hb,rfl,hba⟩
     have hown1:∀ a,(entL H1 a).held=true→β' a=some b→E.w.heap.size≤b∨uB βc H0 b:=fun a hh hb=>by
      exact hok.own hh hb
     have hto:∀ i,i ∉ H0.map (fun x=>sig k A x.1)→(S.ent i).held=true→βn i=some b→β i=some b:=fun i h0 hh hb=>by
      rw [←hold' i h0 (fun h=>by rw [h] at hh; cases hh)]; exact hb
     have hmix:∀ i j,i∈H1.map (fun x=>sig k A x.1)→(look (defE i) i (H1.map fun x=>(sig k A x.1,x.2.ren (sig k A)))).held=true→βn i=some b→j ∉ H1.map (fun x=>sig k A x.1)→j ∉ H0.map (fun x=>sig k A x.1)→(S.ent j).held=true→βn j=some b→False:=fun i j h1 h2 h3 h4 h5 h6 h7=>by
      obtain ⟨a,ha,hb,_⟩:=hone i h1 h2 h3
      obtain ⟨_,f2,f3⟩:=hold j h4 h5 h6 b (hto j h5 h6 h7)
      rcases hown1 a ha hb with h | h
      · omega
      · exact f3 h
     by_cases hi1:i∈H1.map (fun x=>sig k A x.1)
     · rw [Az hi1] at hi
       by_cases hj1:j∈H1.map (fun x=>sig k A x.1)
       · rw [Az hj1] at hj
         obtain ⟨a,ha,hab,rfl,_⟩:=hone i hi1 hi hbi
         obtain ⟨c,hc,hcb,rfl,_⟩:=hone j hj1 hj hbj
         rw [hok.inj a c b ha hc hab hcb]
       · rw [Aq hj1] at hj
         by_cases hj0:j∈H0.map (fun x=>sig k A x.1)
         · rw [Az hj0] at hj; cases hj
         · rw [Aq hj0] at hj
           exact (hmix i j hi1 hi hbi hj1 hj0 hj hbj).elim
     · rw [Aq hi1] at hi
       by_cases hi0:i∈H0.map (fun x=>sig k A x.1)
       · rw [Az hi0] at hi; cases hi
       · rw [Aq hi0] at hi
         by_cases hj1:j∈H1.map (fun x=>sig k A x.1)
         · rw [Az hj1] at hj
           exact (hmix j i hj1 hj hbj hi1 hi0 hi hbi).elim
         · rw [Aq hj1] at hj
           by_cases hj0:j∈H0.map (fun x=>sig k A x.1)
           · rw [Az hj0] at hj; cases hj
           · rw [Aq hj0] at hj
             exact hr.h.inj i j b hi hj (hto i hi0 hi hbi) (hto j hj0 hj hbj) }
 · intro s
   have hts:t<a.tmps.size:=hr.n ▸ ht
   by_cases hst:t=s
   · subst hst
     have h1:=Rd.renp (p:=vM m A) (fun id b hid hb=>(hβ2 id hid).trans hb) hrd hrp
     simpa [Act.put,CL,BM,aN,hts] using h1
   · have:=Dm hle hβ1 (hr.sl s)
     simpa [Act.put,CL,BM,aN,hst,By] using this

end
end Go.IL
open Bool renaming false_eq_true → Cq,not_false → Ba,not_true → Ah
open Nat renaming add_sub_cancel → EJ
open Option renaming map_eq_some_iff → Gi
namespace Go.IL
section
variable {P:An} {O:aR} {N:Nat} {S S':St} {o:Oper} {t:Nat} {Q:Exit→St→Prop}

def aER (P:An) (T:Ak) (ds:List D) (off:Nat):Ad D :=
 match P.underlying T,P.info? T with
 | some _,some i=>if off+i.size≤ds.length∧0<i.size then some (Et (gP P T) i.size (ds.drop off)) else none
 | _,_=>none
theorem zQ {T:Ak} {cs:List D} {off:Nat} {d:D} {E:Env} {β:bD} {vs:List AI} (hp:aER P T cs off=some d) (h:RdL E β vs cs) (w:World):∃ v,(part T vs.toArray off).run P w = .ok v w∧Rd E β v d:=by
 unfold aER at hp
 split at hp
 · rename_i u i hu hi
   split at hp
   · rename_i hc
     cases hp
     exact aC3 hu (z:=i.zero) (size:=i.size) (bytes:=i.bytes) (by simp [TI,hi]) h hc.1 hc.2 w
   · cases hp
 · cases hp
def eqTF (P:An) (cmp:Ak→D→D→Ad Bool) (ds es:List D):List Field→Ad Bool
 | []=>some true
 | f :: fs =>
   if f.name = "_" then none else
   match aER P f.type ds f.offset,aER P f.type es f.offset with
   | some d,some e=>match cmp f.type d e with
     | some b=>(eqTF P cmp ds es fs).map (b && ·)
     | none=>none
   | _,_=>none
def eqTA (P:An) (cmp:D→D→Ad Bool) (el:Ak) (sz:Nat) (ds es:List D):Nat→Nat→Ad Bool
 | 0,_=>some true
 | m + 1,i =>
   match aER P el ds (i*sz),aER P el es (i*sz) with
   | some d,some e=>match cmp d e with
     | some b=>(eqTA P cmp el sz ds es m (i+1)).map (b && ·)
     | none=>none
   | _,_=>none
def eqT (P:An):Nat→Ak→D→D→Ad Bool
 | 0,_,_,_=>none
 | k + 1,t,d,e =>
   match P.underlying t,d,e with
   | some (.struct fs),.agg ds,.agg es=>if P.stoodInHeld t then none else eqTF P (eqT P k) ds es fs.toList
   | some (.array n el),.agg ds,.agg es=>match P.info? el with
     | some i=>eqTA P (eqT P k el) el i.size ds es n 0
     | none=>none
   | u,d,e=>aE1 u d e
theorem aGD {w:World} {E:Env} {β β':bD} {cmp:Ak→D→D→Ad Bool} {m:Nat} (hc:∀ {t d e b x y},cmp t d e=some b→Rd E β x d→Rd E β' y e→(Op.equalIn m t x y).run P w = .ok b w)
 {xs ys:List AI} {ds es:List D} (hx:RdL E β xs ds) (hy:RdL E β' ys es):∀ (fs:List Field) {b:Bool},eqTF P cmp ds es fs=some b→(Op.eqFields m xs.toArray ys.toArray fs).run P w = .ok b w
 | [],b,h=>by simp only [eqTF,Option.some.injEq] at h; subst h; simp [Op.eqFields]
 | f :: fs,b,h=>by
   unfold eqTF at h
   split at h
   · cases h
   · rename_i hn
     split at h
     · rename_i d e hd he
       split at h
       · rename_i b1 hb1
         simp only [Gi] at h
         obtain ⟨b2,h2,rfl⟩:=h
         obtain ⟨v1,p1,r1⟩:=zQ hd hx w
         obtain ⟨v2,p2,r2⟩:=zQ he hy w
         have g1:=hc hb1 r1 r2
         have ih:=aGD hc hx hy fs h2
         simp only [Op.eqFields,hn,ne_eq,not_false_eq_true,if_true,Sem.run_bind,p1,p2,g1,Result.andThen_ok]
         cases b1
         · simp
         · simpa using ih
       · cases h
     · cases h
def zG (m:Nat) (el:Ak) (sz:Nat) (xs ys:Array AI):List Nat→Sem Bool
 | []=>pure true
 | i :: is=>do
     let a ←part el xs (i*sz)
     let b ←part el ys (i*sz)
     let r ←Op.equalIn m el a b
     if (!r)=true then pure false else zG m el sz xs ys is
theorem aGE {w:World} {E:Env} {β β':bD} {cmp:D→D→Ad Bool} {m:Nat} {el:Ak} {sz:Nat} (hc:∀ {d e b x y},cmp d e=some b→Rd E β x d→Rd E β' y e→(Op.equalIn m el x y).run P w = .ok b w)
 {xs ys:List AI} {ds es:List D} (hx:RdL E β xs ds) (hy:RdL E β' ys es):∀ (n i:Nat) {b:Bool},eqTA P cmp el sz ds es n i=some b→(zG m el sz xs.toArray ys.toArray (Db i n)).run P w = .ok b w
 | 0,i,b,h=>by simp only [eqTA,Option.some.injEq] at h; subst h; simp [zG]
 | n + 1,i,b,h=>by
   unfold eqTA at h
   split at h
   · rename_i d e hd he
     split at h
     · rename_i b1 hb1
       simp only [Gi] at h
       obtain ⟨b2,h2,rfl⟩:=h
       obtain ⟨v1,p1,r1⟩:=zQ hd hx w
       obtain ⟨v2,p2,r2⟩:=zQ he hy w
       have g1:=hc hb1 r1 r2
       have ih:=aGE hc hx hy n (i+1) h2
       rw [CM]
       simp only [zG,Sem.run_bind,p1,p2,g1,Result.andThen_ok]
       cases b1
       · simp
       · simpa using ih
     · cases h
   · cases h
theorem aBd (w:World) (d:Nat) (t el:Ak) (n:Nat) (xs ys:Array AI) {i:TypeInfo} (ht:P.underlying t=some (.array n el)) (hi:P.info? el=some i) :
 (Op.equalIn (d+1) t (.agg xs) (.agg ys)).run P w=(zG d el i.size xs ys (Db 0 n)).run P w:=by
 have hsz:∀ w,(sizeOf el).run P w = .ok i.size w:=fun w=>TI.run_size (z:=i.zero) (bytes:=i.bytes) (by simp [TI,hi]) w
 simp only [Op.equalIn,Sem.run_bind,run_underlying ht,Result.andThen_ok,hsz,Std.Legacy.Range.forIn_eq_forIn_range',Std.Legacy.Range.size,DA,EJ,Nat.div_one]
 generalize Db 0 n=l
 clear ht
 induction l generalizing w with
 | nil=>simp [zG]
 | cons j l ih =>
   simp only [List.forIn_cons,zG,Sem.run_bind,Sem.run_ite]
   generalize (part el xs (j*i.size)).run P w=r1
   cases r1 with
   | ok a w1 =>
     simp only [Result.andThen_ok]
     generalize (part el ys (j*i.size)).run P w1=r2
     cases r2 with
     | ok b w2 =>
       simp only [Result.andThen_ok]
       generalize (Op.equalIn d el a b).run P w2=r3
       cases r3 with
       | ok r w3 =>
         cases r
         · simp only [Result.andThen_ok,Ba,if_true,Sem.run_pure]
         · simp only [Result.andThen_ok,Ah,Cq,if_false,Sem.run_pure]
           exact ih w3
       | halt x w3=>simp [Result.andThen]
     | halt x w2=>simp [Result.andThen]
   | halt x w1=>simp [Result.andThen]
theorem aC4 {w:World} {E:Env} {β β':bD} (n:Nat):∀ (k:Nat) {t:Ak} {d e:D} {b:Bool} {x y:AI},eqT P k t d e=some b→Rd E β x d→Rd E β' y e→(Op.equalIn (n+k) t x y).run P w = .ok b w
 | 0,t,d,e,b,x,y,h,_,_=>by cases h
 | k + 1,t,d,e,b,x,y,h,hx,hy=>by
   unfold eqT at h
   split at h
   · rename_i fs ds es hu
     split at h
     · cases h
     · rename_i hs
       cases hx with
       | agg _ vs1 _ r1=>cases hy with
         | agg _ vs2 _ r2 =>
           have hf:P.fieldsOf t=fs:=by simp [Program.fieldsOf,hu]
           have h3:=run_equalIn_struct (P:=P) w (n+k) t vs1.toArray vs2.toArray (by rw [hf]; exact hu) (by simpa using hs)
           rw [hf,aGD (fun h a b=>aC4 n k h a b) r1 r2 fs.toList h] at h3
           exact h3
   · rename_i m el ds es hu
     split at h
     · rename_i i hi
       cases hx with
       | agg _ vs1 _ r1=>cases hy with
         | agg _ vs2 _ r2 =>
           have h3:=aBd (P:=P) w (n+k) t el m vs1.toArray vs2.toArray hu hi
           rw [aGE (fun h a b=>aC4 n k h a b) r1 r2 m 0 h] at h3
           exact h3
     · cases h
   · exact (aHi (n+k) h hx hy).1
theorem iop_eqt {xt yt:Ak} {x y:Ag} {ds es:List D} {b:Bool} (ho:o.op = .binOp .eql xt x y yt) (hd:o.dst=some t) (ht:t<N)
 (hg:P.eqGuardType P.depth xt=false) (hx:SV S x (.agg ds)) (hy:SV S y (.agg es)) (hb:eqT P 9 xt (.agg ds) (.agg es)=some b):IOp P O N o S (S.set t (.bool b)) :=
 eO hd ht fun E β a hr=>by
  have h1:=hx.rd hr
  have h2:=hy.rd hr
  have h3:=aC4 (P:=P) (w:=E.w) 9991 9 hb h1 h2
  generalize hv1:a.eval x=v1 at h1 h3
  generalize hv2:a.eval y=v2 at h2 h3
  cases h1 with
  | agg _ vs1 _ r1=>cases h2 with
    | agg _ vs2 _ r2 =>
      have h4:(Op.equal xt (.agg vs1.toArray) (.agg vs2.toArray)).run P E.w = .ok b E.w:=h3
      exact ⟨.bool b,by simp [execOp,ho,hv1,hv2,eqGuard,hg,binOp,h4],.bool _ _⟩
theorem iop_net {xt yt:Ak} {x y:Ag} {ds es:List D} {b:Bool} (ho:o.op = .binOp .neq xt x y yt) (hd:o.dst=some t) (ht:t<N)
 (hg:P.eqGuardType P.depth xt=false) (hx:SV S x (.agg ds)) (hy:SV S y (.agg es)) (hb:eqT P 9 xt (.agg ds) (.agg es)=some b):IOp P O N o S (S.set t (.bool !b)) :=
 eO hd ht fun E β a hr=>by
  have h1:=hx.rd hr
  have h2:=hy.rd hr
  have h3:=aC4 (P:=P) (w:=E.w) 9991 9 hb h1 h2
  generalize hv1:a.eval x=v1 at h1 h3
  generalize hv2:a.eval y=v2 at h2 h3
  cases h1 with
  | agg _ vs1 _ r1=>cases h2 with
    | agg _ vs2 _ r2 =>
      have h4:(Op.equal xt (.agg vs1.toArray) (.agg vs2.toArray)).run P E.w = .ok b E.w:=h3
      exact ⟨.bool !b,by simp [execOp,ho,hv1,hv2,eqGuard,hg,binOp,h4],.bool _ _⟩
end
end Go.IL
open List renaming exists_mem_of_ne_nil → FH,flatMap_append → EC,flatMap_cons → Be,map_take → Hn,take_zero → DM
open Nat renaming min_eq_right → HZ
open Go.RowKit (Below)
namespace Go.IL
def cpy {α:Type} (xs ys:List α):List α:=ys.take xs.length++xs.drop ys.length
theorem cpy_len {α:Type} (xs ys:List α):(cpy xs ys).length=xs.length:=by simp [cpy]; omega
section
variable {P:An} {O:aR} {N:Nat} {S S':St} {o:Oper} {t:Nat} {Q:Exit→St→Prop}
theorem aLk {α:Type} (f:Enc0 α) (xs ys:List α):eH (Al (xs.map f.d)) 0 ((Al (ys.map f.d)).take (min ys.length xs.length*f.sz))=Al ((cpy xs ys).map f.d):=by
 have e1:(Al (ys.map f.d)).take (min ys.length xs.length*f.sz)=Al ((ys.take xs.length).map f.d):=by
  have h:=xY f ys (min ys.length xs.length)
  have hl:(Al ((ys.take (min ys.length xs.length)).map f.d)).length=min ys.length xs.length*f.sz:=by
   rw [f.flat_len,Aw]; congr 1; omega
  rw [h,←hl,AC (AJ _),AM]
  congr 2
  rcases Nat.le_total ys.length xs.length with h | h
  · rw [BT h,AM,BD h]
  · rw [HZ h]
 rw [e1]
 unfold eH cpy
 have e2:(Al ((ys.take xs.length).map f.d)).length=min ys.length xs.length*f.sz:=by rw [f.flat_len,Aw]; congr 1; omega
 have e3:(Al (xs.map f.d)).drop (min ys.length xs.length*f.sz)=Al ((xs.drop ys.length).map f.d):=by
  have h:=xY f xs (min ys.length xs.length)
  have hl:(Al ((xs.take (min ys.length xs.length)).map f.d)).length=min ys.length xs.length*f.sz:=by
   rw [f.flat_len,Aw]; congr 1; omega
  rw [h,←hl,Bi (AJ _),Cm,AE]
  congr 2
  rcases Nat.le_total ys.length xs.length with h | h
  · rw [BT h]
  · rw [HZ h,Cm,Cc h]
 rw [e2,Bl,e3,DM,AE,f.flat_append]
theorem aJW {α:Type} (f:Enc0 α) {T T2 e:Ak} {x y:Ag} {id n:Nat} {e':Ak} {xs ys zs:List α} {z:Ad AI} {bytes:Nat} (ho:o.op = .call { callee:=.builtin .copy,args:=#[x,y],argTypes:=#[T,T2] }) (hd:o.dst=some t) (ht:t<N)
 (hu:P.underlying T=some (.slice e)) (hi:TI P e z f.sz bytes) (hx:S.op x = .osl id f.sz n) (hl:xs.length=n) (he:S.ent id = .blk e' (Al (xs.map f.d)))
 (hy:∀ E β a,Rel O N S E β a→Src E β (a.eval y) ys.length (Al (ys.map f.d))) (hz:cpy xs ys=zs):IOp P O N o S ((S.setE id (.blk e' (Al (zs.map f.d)))).set t (.int .i64 ((min ys.length n:Nat):Int))):=by
 intro E β a hr next Q hn
 subst hz
 have h1:Rd E β (a.eval x) (.osl id f.sz n):=hx ▸ hr.op x
 have hone:((Al (ys.map f.d)).take (min ys.length n*f.sz)).all EH=true:=aAZ (f.one ys) _
 generalize hv:a.eval x=v at h1
 cases h1 with
 | nosl =>
   have hx0:xs=[]:=Bh.1 hl
   subst hx0
   have e0:cpy ([]:List α) ys=[]:=by simp [cpy]
   rw [e0] at hn
   have hsame:Rel O N (S.setE id (.blk e' (Al (([]:List α).map f.d)))) E β a:=hr.same (fun _=>rfl) (fun j=>by
    by_cases hj:j=id
    · subst hj; rw [aBT,he]
    · rw [zH hj])
   have hrun0:∀ r,(Builtin.copy_ #[T,T2] o.type #[a.eval x,a.eval y]).run P E.w=r→(execOp a.eval o).run P E.w=r.andThen fun v w'=>.ok (.value v) w':=fun r hr'=>by
    simp [execOp,ho,resolve,invoke,builtin,hr']
   have hra:(Builtin.copy_ #[T,T2] o.type #[a.eval x,a.eval y]).run P E.w = .ok (goInt 0) E.w:=by
    have hl0:∀ q:Addr,(loadCells q 0).run P E.w = .ok #[] E.w:=fun q=>by simpa using run_loadCells_list (P:=P) E.w q [] (by simp)
    have hmn:∀ k,Nat.min k 0=0:=fun k=>Nat.min_zero k
    rcases hy E β a hr with ⟨hyv | ⟨ad,sc,hyv⟩,_,_⟩ | ⟨yb,yoff,ycap,us,hyv,_,_⟩ <;>
    · rw [hv,hyv]
      simp [Builtin.copy_,run_underlying hu,Builtin.lenOf,Builtin.firstCells,hi.run_size,hmn,storeCells,hl0]
   unfold Oper.wp
   rw [hrun0 _ hra]
   simp only [Result.andThen_ok,Oper.upon,hd]
   exact hn E β _ (hsame.set ht (by rw [Nat.min_zero]; unfold goInt; exact .int _ _ _))
 | osl _ _ b _ cap _ hb hc hsz c e2 f2 hcap hcs hcm =>
   subst hl
   exact aE8 ho hd ht hu hi he hy (f.flat_len ys) hone (by rw [f.flat_len]; omega) rfl (aLk f xs ys) E β a hr (by
    rw [hv]; exact .rsl _ _ _ 0 _ cap b 0 hb hc hsz ⟨fun _=>rfl,AJ _⟩ c e2 f2 hcap (by omega) hcm) next Q hn
theorem aIr {E:Env} {β:bD} {v:AI} {l:List D} (h:Rd E β v (.slice true l)) :
 (v = .slice none 0 0∧l=[])∨(∃ b off sz vs,v = .slice (some ⟨b,off,none⟩) l.length l.length∧(∀ d∈l,d.cells.length=sz)∧0<sz∧E.row b off vs∧RdL E β0 vs (Al l))∨∃ ad,v = .slice (some ad) 0 0∧l=[]:=by
 cases h with
 | slice _ b off len cap sz _ vs _ hl hc hf hz hsz hr hv=>subst hl; rw [hf rfl]; exact .inr (.inl ⟨b,off,sz,vs,rfl,hz,hsz,hr,hv⟩)
 | nslice=>exact .inl ⟨rfl,rfl⟩
 | eslice _ ad cap _ hf=>rw [hf rfl]; exact .inr (.inr ⟨ad,rfl,rfl⟩)
theorem yW {E:Env} {β:bD} {a:Act} (hr:Rel O N S E β a) {len cap:Nat} {y m:Ag} {k1 k2:IntKind} {h:Int} (hy:SV S y (.int k1 h)) (hm:SV S m (.int k2 h)) (h0:0≤h) (h1:h≤cap) :
 (Instr.sliceBounds true len cap none (some (a.eval y)) (some (a.eval m))).run P E.w = .ok (0,h.toNat,h.toNat) E.w:=by
 have e1:(h.toNat:Int)=h:=by omega
 simp [Instr.sliceBounds,Instr.sliceBound,fH (hy.rd hr),fH (hm.rd hr),asIntOf,h0,h1,e1]
theorem aHz {T e:Ak} {x y m:Ag} {s r:List D} {f:Bool} {h:Int} {k1 k2:IntKind} {z:Ad AI} {size bytes:Nat} (ho:o.op = .slice T x none (some y) (some m)) (hd:o.dst=some t) (ht:t<N) (hu:P.underlying T=some (.slice e)) (hi':TI P e z size bytes)
 (hx:SV S x (.slice f s)) (hz:∀ d∈s,d.cells.length=size) (hy:SV S y (.int k1 h)) (hm:SV S m (.int k2 h)) (h0:0≤h) (h2:h≤s.length) (hr':s.take h.toNat=r):IOp P O N o S (S.set t (.slice true r)) :=
 eO hd ht fun E β a hr=>by
  subst hr'
  rcases sO (hx.rd hr) with ⟨hev,rfl⟩ | ⟨b,off,cap,sz,vs,hev,hc,_,hzz,hsp,hrow,hvs⟩ | ⟨ad,cap,hev,rfl⟩
  · have e1:h=0:=by simp at h2; omega
    subst e1
    have hb:=yW (P:=P) hr (len:=0) (cap:=0) hy hm (AU 0) (AU 0)
    refine ⟨.slice none 0 0,?_,by simpa using Rd.nslice β true⟩
    simp [execOp,ho,hev,Instr.sliceAt,Instr.slice,run_underlying hu,hb,hi'.run_size]
  · have hb:=yW (P:=P) hr (len:=s.length) (cap:=cap) hy hm h0 (by omega)
    have hlen:(s.take h.toNat).length=h.toNat:=by rw [Aw]; omega
    by_cases hs0:h.toNat=0
    · have hs:s.take h.toNat=[]:=by rw [hs0]; rfl
      refine ⟨.slice (some ⟨b,off,none⟩) 0 0,?_,by rw [hs]; exact .eslice _ _ 0 true (fun _=>rfl)⟩
      rw [hs0] at hb
      simp [execOp,ho,hev,Instr.sliceAt,Instr.slice,run_underlying hu,hb,hi'.run_size,iW]
    · have hflat:=hvs.take (h.toNat*size)
      have hsplit:Al s=Al (s.take h.toNat)++Al (s.drop h.toNat):=by
       have:Al (s.take h.toNat)++Al (s.drop h.toNat)=Al (s.take h.toNat++s.drop h.toNat):=by simp only [Al]; rw [←EC]
       rw [this,AO]
      have hfl:(Al (s.take h.toNat)).length=h.toNat*size:=by
       have:∀ l:List D,(∀ d∈l,d.cells.length=size)→(Al l).length=l.length*size:=by
        intro l
        induction l with
        | nil=>intro _; simp [Al]
        | cons d l ih=>intro hh; have h1:=ih (fun d' hd'=>hh d' (by simp [hd'])); have h2:=hh d (by simp); simp only [Al,Be,Ae,Ao] at *; rw [h1,h2,Bp]; omega
       rw [this _ (fun d hd=>hz d (CK hd)),hlen]
      rw [hsplit,←hfl,AC (AJ _),AM] at hflat
      refine ⟨.slice (some ⟨b,off,none⟩) h.toNat h.toNat,?_,.slice _ b off _ _ size true (vs.take (Al (s.take h.toNat)).length) _ hlen (AJ _) (fun _=>rfl) (fun d hd=>hz d (CK hd)) ?_ (fun k v hk=>?_) hflat⟩
      · simp [execOp,ho,hev,Instr.sliceAt,Instr.slice,run_underlying hu,hb,hi'.run_size,iW]
      · have:s≠[]:=by rintro rfl; simp at h2; omega
        obtain ⟨d,hd⟩:=FH s this
        have h1:=hz d hd
        have h3:=hzz d hd
        omega
      · rw [BW] at hk
        split at hk
        · exact hrow k v hk
        · cases hk
  · have e1:h=0:=by simp at h2; omega
    subst e1
    have hb:=yW (P:=P) hr (len:=0) (cap:=cap) hy hm (AU 0) (by omega)
    refine ⟨.slice (some ad) 0 0,?_,by simpa using Rd.eslice β ad 0 true (fun _=>rfl)⟩
    simp [execOp,ho,hev,Instr.sliceAt,Instr.slice,run_underlying hu,hb,hi'.run_size,Addr.add]
theorem aEo {T e:Ak} {x y:Ag} {z:AI} {size bytes m:Nat} {l es:List D} (id':Nat)
 (ho:o.op = .call { callee:=.builtin .append,args:=#[x,y],argTypes:=#[T,T] }) (hd:o.dst=some t) (ht:t<N)
 (hu:P.underlying T=some (.slice e)) (hi:TI P e (some z) size bytes) (hz:z.cells.size=size) (hsp:0<size) (hfr:S.ent id' = .fresh)
 (hx:SV S x (.slice true l)) (hl:(Al l).length=l.length*size) (hy:∀ E β a,Rel O N S E β a→Src E β (a.eval y) m es) (hes:es.length=m*size) (hne:0<m)
 (hm:l.length+m≤maxLen) (hb:(l.length+m)*bytes≤140737488355328) :
 IOp P O N o S ((S.setE id' (.blk e (Al l++es))).set t (.osl id' size (l.length+m))):=by
 have hs1:S.sl=S.sl:=rfl
 have hs2:∀ j,S.ent j=S.ent j∨S.ent j = .none:=fun _=>.inl rfl
 intro E β a hr next Q hn
 obtain ⟨i,hi1,hi2,hi3,hi4⟩:=hi.at
 have hfre:β id'=none:=by have:=hr.h.ent id'; rw [hfr] at this; exact this
 have hrun:∀ v,(Builtin.append_ #[T,T] o.type #[a.eval x,a.eval y]).run P E.w=v→(execOp a.eval o).run P E.w=v.andThen fun v w'=>.ok (.value v) w':=fun v hv=>by
  simp [execOp,ho,resolve,invoke,builtin,hv]
 have hts:t<a.tmps.size:=hr.n ▸ ht
 let S2:St:=(S.setE id' (.blk e (Al l++es))).set t (.osl id' size (l.length+m))
 have slots:∀ (E':Env) (β':bD) (v:AI),E.le E'→β.le β'→Rd E' β' v (.osl id' size (l.length+m))→∀ s,Rd E' β' ((a.put (some t) v).tmps.getD s undef) (S2.get s):=by
  intro E' β' v hle hβ hv s
  by_cases hst:t=s
  · subst hst
    simpa [S2,Act.put,CL,BM,aN,hts] using hv
  · have:=Dm hle hβ (hr.sl s)
    simpa [S2,Act.put,CL,BM,BK,aN,hst,By,hs1] using this
 let β':Nat→bD:=fun b j=>if j=id' then some b else β j
 have hβ:∀ b,β.le (β' b):=fun b j k hj=>by
  by_cases hji:j=id'
  · subst hji; rw [hfre] at hj; cases hj
  · simp [β',hji,hj]
 have hsame:∀ j,j≠id'→S2.ent j=S.ent j:=fun j hj=>by simp [S2,Cv,entL,BK,BM,aN,Ne.symm hj]
 have hother:∀ b j,j≠id'→(S2.ent j=S.ent j∧β' b j=β j)∨S2.ent j = .none:=by
  intro b j hj
  rw [hsame j hj]
  rcases hs2 j with h | h
  · exact .inl ⟨h,by simp [β',hj]⟩
  · exact .inr h
 have hheld:∀ j,j≠id'→(S2.ent j).held=true→(S.ent j).held=true:=fun j hj h=>by rw [←hsame j hj]; exact h
 have hheld0:∀ j,(S.ent j).held=true→(S.ent j).held=true:=fun j h=>by
  rcases hs2 j with h1 | h1
  · rw [←h1]; exact h
  · rw [h1] at h; cases h
 have hentid:S2.ent id' = .blk e (Al l++es):=by simp [S2,Cv,entL,BK,BM,aN]
 have fresh:∀ (vs us:List AI) (cap:Nat),RdL E β vs (Al l)→RdL E β us es→l.length+m≤cap→cap≤maxLen →
  (Builtin.append_ #[T,T] o.type #[a.eval x,a.eval y]).run P E.w = .ok (.slice (some ⟨E.w.heap.size,0,none⟩) (l.length+m) cap) (E.w.drew.alloc (.cells (vs.toArray++us.toArray++Builtin.zeroCells z.cells (cap-(l.length+m))) e)) →
  o.wp P a E.w next Q:=by
  intro vs us cap hvs hus hcap hcm hra
  unfold Oper.wp
  rw [hrun _ hra]
  simp only [Result.andThen_ok,Oper.upon,hd]
  let E':Env:=⟨E.w.drew.alloc (.cells (vs.toArray++us.toArray++Builtin.zeroCells z.cells (cap-(l.length+m))) e),fun b o=>b=E.w.heap.size∨E.X b o⟩
  have hs:Step O E E' E.w.heap.size :=
   ⟨rfl,rfl,rfl,by simp [E'],by simp [E'],.inl hr.h.size,fun k hk _=>heap_alloc_old E.w.drew _ hk,fun k o hk=>by simp [E',hk],fun _ h=>CT _ (cU h)⟩
  have hle:E.le E':=hs.le (fun o v h1 _=>by have:=World.block_lt_of_cell? _ _ h1; simp at this) (fun c e f h1=>by have:=cU h1; simp at this)
  have hnew:E'.w.heap[E.w.heap.size]? = some (.cells (vs.toArray++us.toArray++Builtin.zeroCells z.cells (cap-(l.length+m))) e (0,0)):=heap_alloc_new E.w.drew _
  have hvl:=hvs.length
  have hul:=hus.length
  have hvs':=(Bu hle (hβ E.w.heap.size) hvs).append (Bu hle (hβ E.w.heap.size) hus)
  refine hn E' (β' E.w.heap.size) _ ⟨by simp [Act.put,hr.n],hr.nd.step hs,?_,slots E' _ _ hle (hβ _) ?_⟩
  · refine EA hr.h hs hle (hβ _) (fun j hj=>hother _ j hj) ?_ (id:=id') (by simp [β']) ?_ (fun _ _=>trivial)
    · intro j hj hh hbj
      have:=hr.h.held_lt (hheld0 j (hheld j hj hh)) hbj
      omega
    · rw [hentid]
      exact ⟨vs++us,(Builtin.zeroCells z.cells (cap-(l.length+m))).toList,by rw [hnew]; simp,fun o=>.inl rfl,hvs'⟩
  · exact .osl _ _ E.w.heap.size _ cap size (by simp [β']) hcap hsp _ _ _ hnew
     (by simp only [ER,CF,size_zeroCells,hz,hvl,hul,hl,hes]; rw [←Bp,←Bp]; exact AS _ (by omega)) hcm
 rcases hy E β a hr with ⟨_,hm0,_⟩ | ⟨yb,yoff,ycap,us,hyv,hyr,hus⟩
 · omega
 · have hul:us.length=m*i.size:=by rw [hus.length,hes,hi3]
   have up:∀ {vs ds},RdL E β0 vs ds→RdL E β vs ds:=fun h=>Bu (Cy _) (fun _ _ h=>by cases h) h
   rcases aIr (hx.rd hr) with ⟨hxv,rfl⟩ | ⟨b,off,sz,vs,hxv,_,_,hrow,hvs⟩ | ⟨ad,hxv,rfl⟩
   · simp only [Bj,Bl] at hm hb fresh ⊢
     have hra:=run_append_nil (P:=P) E.w T o.type e i z hu hi1 hi2 ⟨yb,yoff,none⟩ m ycap us hul hyr hne (by simp [maxLen] at hm; omega) (by rw [hi4]; omega)
     refine fresh [] us (grownCap E.w m 0 e) (.nil _) hus (by simpa using grownCap_ge _ _ _ _) (grownCap_le_maxLen _ _ _ _ (by simpa using hm)) ?_
     rw [hxv,hyv]
     simpa using hra
   · have hvl:vs.length=l.length*i.size:=by rw [hvs.length,hl,hi3]
     have hra:=run_append_grow (P:=P) E.w T o.type e i z hu hi1 hi2 ⟨b,off,none⟩ l.length l.length vs hvl (fun j u hj=>by rw [iW]; exact (hrow j u hj).1) ⟨yb,yoff,none⟩ m ycap us hul hyr (by omega) (by simp [maxLen] at hm; omega) (growslice_fits (by omega) (by rw [hi4]; exact hb))
     refine fresh vs us (grownCap E.w (l.length+m) l.length e) (up hvs) hus (grownCap_ge _ _ _ _) (grownCap_le_maxLen _ _ _ _ hm) ?_
     rw [hxv,hyv]
     exact hra
   · have hra:=run_append_grow (P:=P) E.w T o.type e i z hu hi1 hi2 ad 0 0 [] (by simp) (fun j u hj=>by simp at hj) ⟨yb,yoff,none⟩ m ycap us hul hyr (by omega) (by simp [maxLen] at hm; omega) (growslice_fits (by omega) (by rw [hi4]; simpa using hb))
     refine fresh [] us (grownCap E.w (0+m) 0 e) (.nil _) hus (by simpa using grownCap_ge _ _ _ _) (grownCap_le_maxLen _ _ _ _ (by simpa using hm)) ?_
     rw [hxv,hyv]
     simpa using hra
theorem aEi {α:Type} (f:Enc α) {T e:Ak} {x y m:Ag} {b:Bool} {k1 k2:IntKind} {xs r:List α} {h:Int} {z:Ad AI} {bytes:Nat} (ho:o.op = .slice T x none (some y) (some m)) (hd:o.dst=some t) (ht:t<N) (hu:P.underlying T=some (.slice e)) (hi':TI P e z f.sz bytes)
 (hx:SV S x (.slice b (xs.map f.d))) (hy:SV S y (.int k1 h)) (hm:SV S m (.int k2 h)) (hc:cut xs 0 h=some r):IOp P O N o S (S.set t (.slice true (r.map f.d))):=by
 obtain ⟨⟨_,h0,h1⟩,hr⟩:=aIA hc
 exact aHz ho hd ht hu hi' hx (f.len xs) hy hm h0 (by simpa using h1) (by rw [←hr,←Hn]; simp)
theorem aGU {α:Type} (f:Enc0 α) {T e:Ak} {x y:Ag} {z:AI} {bytes:Nat} {xs ys zs:List α} (id':Nat)
 (ho:o.op = .call { callee:=.builtin .append,args:=#[x,y],argTypes:=#[T,T] }) (hd:o.dst=some t) (ht:t<N)
 (hu:P.underlying T=some (.slice e)) (hi:TI P e (some z) f.sz bytes) (hz:z.cells.size=f.sz)
 (hx:SV S x (.slice true (xs.map f.d))) (hfr:S.ent id' = .fresh)
 (hy:∀ E β a,Rel O N S E β a→Src E β (a.eval y) ys.length (Al (ys.map f.d))) (hne:0<ys.length) (ha:app bytes xs ys=some zs) :
 IOp P O N o S ((S.setE id' (.blk e (Al (zs.map f.d)))).set t (.osl id' f.sz zs.length)):=by
 obtain ⟨⟨h1,h2⟩,rfl⟩:=aKi ha
 have:=aEo id' ho hd ht hu hi hz f.pos hfr hx (by rw [f.flat_len,Bf]) hy (f.flat_len ys) hne (by rw [Bf]; exact h1) (by rw [Bf]; exact h2)
 rwa [Bf,f.flat_append,←Ae] at this
theorem aH5 {ops:Array Oper} {o:Oper} {l:List Oper} {j tj t:Nat} {want g:Bool} (hg:o.guard=some (j,want)) (hj:(ops[j]?).bind (·.dst)=some tj)
 (hb:Grd S tj want g) (hd:(o.dst,sH o.op)=(some t,true)) (ht:t<N) (h1:g=true→ILS P O N ops ({ o with guard:=none }::l) S Q) (h2:g=false→ILS P O N ops l (S.set t (.cnd g (.bool false))) Q):ILS P O N ops (o::l) S Q:=by
 obtain ⟨hd,hnd⟩:=Prod.mk.inj hd
 intro E β a hr
 have hwant:=hb.yields hr hj hg
 unfold wpListIn
 rw [hwant]
 cases g with
 | true =>
   simp only [if_true]
   have h3:=h1 rfl E β a hr
   have h4:Oper.wpIn (fen O.round) 0 P { o with guard:=none } a E.w (wpListIn (fen O.round) 0 P ops (fun e a' w'=>∃ S' E' β',E'.w=w'∧Rel O N S' E' β' a'∧Q e S') l) (fun e a' w'=>∃ S' E' β',E'.w=w'∧Rel O N S' E' β' a'∧Q e S'):=by
    unfold wpListIn at h3
    simp only [Region.wanted,if_true] at h3
    exact h3
   have h5:Oper.wpIn (fen O.round) 0 P o a E.w (wpListIn (fen O.round) 0 P ops (fun e a' w'=>∃ S' E' β',E'.w=w'∧Rel O N S' E' β' a'∧Q e S') l) (fun e a' w'=>∃ S' E' β',E'.w=w'∧Rel O N S' E' β' a'∧Q e S'):=h4
   exact h5
 | false =>
   simp only [Cq,if_false,hd]
   exact ⟨fun _ _=>trivial,(h2 rfl E β _ (hr.set ht (.cnd _ _ _ _ (fun h=>by cases h) fun _=>rfl)))⟩
theorem Rel.uncnd {E:Env} {β:bD} {a:Act} (h:Rel O N S E β a) {t:Nat} {g:Bool} {d:D} (hS:S.get t = .cnd g d) (hg:g=true):Rel O N (S.set t d) E β a:=by
 refine ⟨h.n,h.nd,h.h,fun s=>?_⟩
 by_cases hs:t=s
 · subst hs
   have:=h.sl t
   rw [hS] at this
   have e:(S.set t d).get t=d:=by simp [CL,BM,aN]
   rw [e]
   generalize a.tmps.getD t undef=v at this ⊢
   cases this with
   | cnd _ _ _ _ k _=>exact k hg
 · have e:(S.set t d).get s=S.get s:=by simp [CL,BM,aN,hs]
   rw [e]; exact h.sl s
theorem aEr {ops:Array Oper} {l:List Oper} (t:Nat) {g:Bool} {d:D} (hS:S.get t = .cnd g d) (hg:g=true) (k:ILS P O N ops l (S.set t d) Q):ILS P O N ops l S Q :=
 fun E β a hr=>k E β a (hr.uncnd hS hg)
end
end Go.IL
open List renaming all_cons → CR
open Nat renaming ble → AT,le_of_ble_eq_true → AR
namespace Go.IL
theorem M.{u} {α : Sort u} {a : α} : a = a := rfl
def dd_ : Nat → List D → List D
  | 0, l => l
  | n + 1, l => .dead :: dd_ n l
theorem sj_ {α : Type} {a b : α} (h : some a = some b) : a = b := Option.some.inj h
section
variable {P:An} {O:aR} {N:Nat} {S S':St} {o:Oper} {t:Nat} {Q:Exit→St→Prop}
theorem lb {a b:Nat} (h:AT (a+1) b=true):a<b:=AR h
theorem svI {x:Ag} {k:IntKind} {n:Int} (h:S.op x = .int k n):SV S x (.int k n):=sv h
theorem svB {x:Ag} {n:Bool} (h:S.op x = .bool n):SV S x (.bool n):=sv h
theorem svR {x:Ag} {i j:Nat} (h:S.op x = .ref i j):SV S x (.ref i j):=sv h
theorem svL {x:Ag} {f:Bool} {l:List D} (h:S.op x = .slice f l):SV S x (.slice f l):=sv h
theorem svA {x:Ag} (l:List D) (h:S.op x = .agg l):SV S x (.agg l):=sv h
theorem svcI {x:Ag} {b:Bool} {k:IntKind} {n:Int} (h:S.op x = .cnd b (.int k n)) (hb:b=true):SV S x (.int k n):=svc h hb
theorem svcB {x:Ag} {b n:Bool} (h:S.op x = .cnd b (.bool n)) (hb:b=true):SV S x (.bool n):=svc h hb
theorem svcR {x:Ag} {b:Bool} {i j:Nat} (h:S.op x = .cnd b (.ref i j)) (hb:b=true):SV S x (.ref i j):=svc h hb
theorem svcL {x:Ag} {b:Bool} {f:Bool} {l:List D} (h:S.op x = .cnd b (.slice f l)) (hb:b=true):SV S x (.slice f l):=svc h hb
theorem svcA {x:Ag} {b:Bool} (l:List D) (h:S.op x = .cnd b (.agg l)) (hb:b=true):SV S x (.agg l):=svc h hb
theorem mvI {x:Ag} {k:IntKind} {n:Int} (ho:o.op = .move x) (hd:o.dst=some t) (ht:AT (t+1) N=true) (hx:S.op x = .int k n):IOp P O N o S (S.set t (.int k n)):=eK ho hd (lb ht) (sv hx)
theorem mvB {x:Ag} {n:Bool} (ho:o.op = .move x) (hd:o.dst=some t) (ht:AT (t+1) N=true) (hx:S.op x = .bool n):IOp P O N o S (S.set t (.bool n)):=eK ho hd (lb ht) (sv hx)
theorem mvR {x:Ag} {i j:Nat} (ho:o.op = .move x) (hd:o.dst=some t) (ht:AT (t+1) N=true) (hx:S.op x = .ref i j):IOp P O N o S (S.set t (.ref i j)):=eK ho hd (lb ht) (sv hx)
theorem mvL {x:Ag} {f:Bool} {l:List D} (ho:o.op = .move x) (hd:o.dst=some t) (ht:AT (t+1) N=true) (hx:S.op x = .slice f l):IOp P O N o S (S.set t (.slice f l)):=eK ho hd (lb ht) (sv hx)
theorem asI {x:Ag} {k:IntKind} {n:Int} (ho:o.op = .assign x) (hd:o.dst=some t) (ht:AT (t+1) N=true) (hx:S.op x = .int k n):IOp P O N o S (S.set t (.int k n)):=dK ho hd (lb ht) (sv hx)
theorem asB {x:Ag} {n:Bool} (ho:o.op = .assign x) (hd:o.dst=some t) (ht:AT (t+1) N=true) (hx:S.op x = .bool n):IOp P O N o S (S.set t (.bool n)):=dK ho hd (lb ht) (sv hx)
def LA (P:An) (T:Ak) (u:TypeDesc) (z:Ad AI) (size bytes:Nat) (g:Bool):Prop:=P.underlying T=some u∧gP P T=g∧TI P T z size bytes∧0<size
theorem LA.mk {T:Ak} {u:TypeDesc} {z:Ad AI} {size bytes:Nat} {g:Bool} (h1:P.underlying T=some u) (h2:gP P T=g) (h3:TI P T z size bytes) (h4:0<size):LA P T u z size bytes g:=⟨h1,h2,h3,h4⟩
theorem lra {T:Ak} {x:Ag} {u:TypeDesc} {z:Ad AI} {size bytes:Nat} {id off:Nat} {e:Ak} {ds:List D} (cs:List D) (l:LA P T u z size bytes true) (ho:o.op = .load T x) (hd:o.dst=some t) (ht:AT (t+1) N=true)
 (hx:S.op x = .ref id off) (he:S.ent id = .blk e ds) (hn:off+size≤ds.length) (hdd:(ds.drop off).take size=cs):IOp P O N o S (S.set t (.agg cs)):=zC ho hd (lb ht) l.1 l.2.1 l.2.2.1 l.2.2.2 (sv hx) he hn hdd
theorem lrL {T:Ak} {x:Ag} {u:TypeDesc} {z:Ad AI} {size bytes:Nat} {id off:Nat} {e:Ak} {ds r:List D} {f:Bool} {m:List D} (l:LA P T u z size bytes false) (ho:o.op = .load T x) (hd:o.dst=some t) (ht:AT (t+1) N=true)
 (hx:S.op x = .ref id off) (he:S.ent id = .blk e ds) (hn:off+size≤ds.length) (hdd:ds.drop off = .slice f m::r):IOp P O N o S (S.set t (.slice f m)):=qY ho hd (lb ht) l.1 l.2.1 l.2.2.1 l.2.2.2 (sv hx) he hn hdd
theorem rva {x:Nat} {T:Ak} {id off:Nat} {e:Ak} {ds cs:List D} {u:TypeDesc} {z:Ad AI} {size bytes:Nat} (l:LA P T u z size bytes true) (hx:S.get x = .ref id off) (he:S.ent id = .blk e ds)
 (hn:off+size≤ds.length) (hd:(ds.drop off).take size=cs):ResV P S (.cell x T) (.agg cs):=resv_a hx he l.1 l.2.1 l.2.2.1 l.2.2.2 hn hd
theorem stA {T:Ak} {x y:Ag} {z:Ad AI} {size bytes:Nat} {id off:Nat} {e:Ak} {ds:List D} (c ds':List D) (hi:TI P T z size bytes) (ho:o.op = .store T x y) (hd:o.dst=none)
 (hx:S.op x = .ref id off) (he:S.ent id = .blk e ds) (hy:S.op y = .agg c) (hb:(D.agg c).boxable=true) (hsz:(D.agg c).cells.length=size) (h1:(D.agg c).cells.all EH=true)
 (hn:off+size≤ds.length) (hds:eH ds off (D.agg c).cells=ds'):IOp P O N o S (S.setE id (.blk e ds')):=cY ho hd hi (sv hx) he (sv hy) hb hsz h1 hn hds
theorem faR {T:Ak} {x:Ag} {i:Nat} {fs:Array Field} {F:Field} {z:Ad AI} {size bytes:Nat} {id off:Nat} (off':Nat) (ho:o.op = .fieldAddr T x i) (hd:o.dst=some t) (ht:AT (t+1) N=true)
 (hu:P.underlying T=some (.struct fs)) (hf:fs[i]? = some F) (hi:TI P F.type z size bytes) (hs:0<size) (hx:S.op x = .ref id off) (ho':off+F.offset=off'):IOp P O N o S (S.set t (.ref id off')) :=
 mA ho hd (lb ht) hu hf hi hs (sv hx) ho'
theorem svaI {n:Node} {S0:St} {s:Nat} {k:IntKind} {m:Int} (hA:yF n S S0) (hm:n.rs.elem s=true) (h:S0.get s = .int k m):SV S (.tmp s) (.int k m):=sv (agr hA hm h)
theorem svaB {n:Node} {S0:St} {s:Nat} {m:Bool} (hA:yF n S S0) (hm:n.rs.elem s=true) (h:S0.get s = .bool m):SV S (.tmp s) (.bool m):=sv (agr hA hm h)
theorem svaR {n:Node} {S0:St} {s i j:Nat} (hA:yF n S S0) (hm:n.rs.elem s=true) (h:S0.get s = .ref i j):SV S (.tmp s) (.ref i j):=sv (agr hA hm h)
theorem svaL {n:Node} {S0:St} {s:Nat} {f:Bool} {l:List D} (hA:yF n S S0) (hm:n.rs.elem s=true) (h:S0.get s = .slice f l):SV S (.tmp s) (.slice f l):=sv (agr hA hm h)
theorem svaA {n:Node} {S0:St} {s:Nat} (l:List D) (hA:yF n S S0) (hm:n.rs.elem s=true) (h:S0.get s = .agg l):SV S (.tmp s) (.agg l):=sv (agr hA hm h)
theorem AllW.s {ρ:Nat→Nat} {t:Nat} {d:D} {l:List (Nat×D)} (h:S.get t=d.ren ρ) (hr:d.refsIn S'.okn=true) (k:AllW (SlW S S' ρ) l):AllW (SlW S S' ρ) ((t,d)::l):=.cons (.same h hr) k
theorem AllW.sames {ρ:Nat→Nat}:∀ {l:List (Nat×D)},l.map (fun p=>S.get p.1)=l.map (fun p=>p.2.ren ρ)→(l.all fun p=>p.2.refsIn S'.okn)=true→AllW (SlW S S' ρ) l
 | [],_,_=>.nil
 | (t,d)::l,h,hr=>by
   simp only [AB,List.cons.injEq] at h
   simp only [CR,Af] at hr
   exact .cons (.same h.1 hr.1) (AllW.sames h.2 hr.2)
end
theorem SubL.k {d:D} {ds ds':List D} (t:SubL ds ds'):SubL (d::ds) (d::ds'):=.cons (.refl d) t
theorem SubL.k4 {a b c d:D} {ds ds':List D} (t:SubL ds ds'):SubL (a::b::c::d::ds) (a::b::c::d::ds'):=.k (.k (.k (.k t)))
theorem FDL.k {S:St} {d:D} {ds ds':List D} (t:FDL S ds ds'):FDL S (d::ds) (d::ds'):=.cons (.refl d) t
theorem FDL.k4 {S:St} {a b c d:D} {ds ds':List D} (t:FDL S ds ds'):FDL S (a::b::c::d::ds) (a::b::c::d::ds'):=.k (.k (.k (.k t)))
theorem SubL.all:∀ (l:List D),SubL l l
 | []=>.nil
 | d::l=>.cons (.refl d) (SubL.all l)
theorem FDL.all {S:St} (l:List D):FDL S l l:=aAT l
end Go.IL
open Prod renaming snd → DR
namespace Go.IL
section
variable {P:An} {O:aR} {N:Nat} {S S':St} {o:Oper} {t:Nat} {Q:Exit→St→Prop}
theorem gG {ops:Array Oper} {l:List Oper} {j tj:Nat} {want b:Bool} {d:D} (h:(o.guard,(ops[j]?).bind (·.dst),S.get tj,o.dst,sH o.op,AT (t+1) N)=(some (j,want),some tj,.bool b,some t,true,true))
 (x:(b == want)=true→IOp P O N o S (S.set t d)) (k:ILS P O N ops l (S.set t (.cnd (b == want) d)) Q):ILS P O N ops (o::l) S Q:=by
 simp only [Prod.mk.injEq] at h
 obtain ⟨h1,h2,h3,h4,h5,h6⟩:=h
 exact nP h1 h2 (.one h3) (by rw [h4,h5]) (lb h6) x k
theorem tFa {T:Ak} {x:Ag} {i:Nat} {fs:Array Field} {F:Field} {z:Ad AI} {size bytes:Nat} {id off:Nat} (off':Nat) (hu:P.underlying T=some (.struct fs)) (h:(o.op,o.dst,AT (t+1) N,fs[i]?)=(.fieldAddr T x i,some t,true,some F)) (hi:TI P F.type z size bytes)
 (h2:(AT (0+1) size,S.op x,off+F.offset)=(true,.ref id off,off')):IOp P O N o S (S.set t (.ref id off')):=by
 simp only [Prod.mk.injEq] at h h2
 exact faR off' h.1 h.2.1 h.2.2.1 hu h.2.2.2 hi (lb h2.1) h2.2.1 h2.2.2
theorem tLd {T:Ak} {x:Ag} {u:TypeDesc} {z:Ad AI} {size bytes:Nat} {id off:Nat} {e:Ak} {ds r:List D} {d:D} (hu:P.underlying T=some u) (hg:gP P T=false) (hi:TI P T z size bytes)
 (h:(o.op,o.dst,AT (t+1) N,AT (0+1) size,S.op x,S.ent id,AT (off+size) ds.length,ds.drop off)=(.load T x,some t,true,true,.ref id off,.blk e ds,true,d::r)):IOp P O N o S (S.set t d):=by
 simp only [Prod.mk.injEq] at h
 exact qY h.1 h.2.1 (lb h.2.2.1) hu hg hi (lb h.2.2.2.1) (svR h.2.2.2.2.1) h.2.2.2.2.2.1 (nle h.2.2.2.2.2.2.1) h.2.2.2.2.2.2.2
theorem tLc {T:Ak} {x:Ag} {u:TypeDesc} {z:Ad AI} {size bytes:Nat} {id off:Nat} {e:Ak} {ds r:List D} {d:D} {b:Bool} (hu:P.underlying T=some u) (hg:gP P T=false) (hi:TI P T z size bytes)
 (h:(o.op,o.dst,AT (t+1) N,AT (0+1) size,S.op x,S.ent id,AT (off+size) ds.length,ds.drop off)=(.load T x,some t,true,true,.cnd b (.ref id off),.blk e ds,true,d::r)) (hb:b=true):IOp P O N o S (S.set t d):=by
 simp only [Prod.mk.injEq] at h
 exact qY h.1 h.2.1 (lb h.2.2.1) hu hg hi (lb h.2.2.2.1) (svcR h.2.2.2.2.1 hb) h.2.2.2.2.2.1 (nle h.2.2.2.2.2.2.1) h.2.2.2.2.2.2.2
theorem tSt {T:Ak} {x y:Ag} {z:Ad AI} {size bytes:Nat} {id off:Nat} {e:Ak} {ds:List D} (c ds':List D) (hi:TI P T z size bytes)
 (h:(o.op,o.dst,S.op x,S.ent id,S.op y,(D.agg c).boxable,(D.agg c).cells.length,(D.agg c).cells.all EH,AT (off+size) ds.length,eH ds off (D.agg c).cells)=(.store T x y,none,.ref id off,.blk e ds,.agg c,true,size,true,true,ds')):IOp P O N o S (S.setE id (.blk e ds')):=by
 simp only [Prod.mk.injEq] at h
 exact stA c ds' hi h.1 h.2.1 h.2.2.1 h.2.2.2.1 h.2.2.2.2.1 h.2.2.2.2.2.1 h.2.2.2.2.2.2.1 h.2.2.2.2.2.2.2.1 (nle h.2.2.2.2.2.2.2.2.1) h.2.2.2.2.2.2.2.2.2
theorem tLr {T:Ak} {x:Ag} {u:TypeDesc} {z:Ad AI} {size bytes:Nat} {id off:Nat} {e:Ak} {ds:List D} (cs:List D) (l:LA P T u z size bytes true)
 (h:(o.op,o.dst,AT (t+1) N,S.op x,S.ent id,AT (off+size) ds.length,(ds.drop off).take size)=(.load T x,some t,true,.ref id off,.blk e ds,true,cs)):IOp P O N o S (S.set t (.agg cs)):=by
 simp only [Prod.mk.injEq] at h
 exact lra cs l h.1 h.2.1 h.2.2.1 h.2.2.2.1 h.2.2.2.2.1 (nle h.2.2.2.2.2.1) h.2.2.2.2.2.2
theorem tAs {x:Ag} (d:D) (h:(o.op,o.dst,AT (t+1) N,S.op x)=(.assign x,some t,true,d)):IOp P O N o S (S.set t d):=by
 simp only [Prod.mk.injEq] at h
 exact dK h.1 h.2.1 (lb h.2.2.1) (sv h.2.2.2)
theorem tBx {e:Ak} {x:Ag} {cs:List D} (c:List D) (id:Nat) (h:(o.op,o.dst,AT (t+1) N,S.ent id,S.op x,(D.agg c).boxable,(D.agg c).cells)=(.box e x,some t,true,.fresh,.agg c,true,cs)):IOp P O N o S ((S.setE id (.blk e cs)).set t (.ref id 0)):=by
 simp only [Prod.mk.injEq] at h
 exact aBP id h.1 h.2.1 (lb h.2.2.1) h.2.2.2.1 (svA c h.2.2.2.2.1) h.2.2.2.2.2.1 h.2.2.2.2.2.2
theorem tI {x:Ag} {k:IntKind} {n:Int} (h:(o.op,o.dst,AT (t+1) N,S.op x)=(.move x,some t,true,.int k n)):IOp P O N o S (S.set t (.int k n)):=by
 simp only [Prod.mk.injEq] at h
 exact mvI h.1 h.2.1 h.2.2.1 h.2.2.2
theorem tB {x:Ag} {n:Bool} (h:(o.op,o.dst,AT (t+1) N,S.op x)=(.move x,some t,true,.bool n)):IOp P O N o S (S.set t (.bool n)):=by
 simp only [Prod.mk.injEq] at h
 exact mvB h.1 h.2.1 h.2.2.1 h.2.2.2
theorem tAI {x:Ag} {k:IntKind} {n:Int} (h:(o.op,o.dst,AT (t+1) N,S.op x)=(.assign x,some t,true,.int k n)):IOp P O N o S (S.set t (.int k n)):=by
 simp only [Prod.mk.injEq] at h
 exact asI h.1 h.2.1 h.2.2.1 h.2.2.2
theorem tAB {x:Ag} {n:Bool} (h:(o.op,o.dst,AT (t+1) N,S.op x)=(.assign x,some t,true,.bool n)):IOp P O N o S (S.set t (.bool n)):=by
 simp only [Prod.mk.injEq] at h
 exact asB h.1 h.2.1 h.2.2.1 h.2.2.2
theorem tMv {x:Ag} (d:D) (h:(o.op,o.dst,AT (t+1) N,S.op x)=(.move x,some t,true,d)):IOp P O N o S (S.set t d):=by
 simp only [Prod.mk.injEq] at h
 exact eK h.1 h.2.1 (lb h.2.2.1) (sv h.2.2.2)
theorem tEx {x:Ag} {i:Nat} {cs:List D} {d:D} (h:(o.op,o.dst,AT (t+1) N,S.op x,cs[i]?)=(.extract x i,some t,true,.tuple cs,some d)):IOp P O N o S (S.set t d):=by
 simp only [Prod.mk.injEq] at h
 exact rA h.1 h.2.1 (lb h.2.2.1) (sv h.2.2.2.1) h.2.2.2.2
theorem tCm {op:BinOp} {xt yt:Ak} {x y:Ag} {k:IntKind} {a b:Int} {c c':Bool} (h:(o.op,o.dst,AT (t+1) N,S.op x,S.op y,int2 op k a b)=(.binOp op xt x y yt,some t,true,.int k a,.int k b,some (.bool c))) (hc:c=c'):IOp P O N o S (S.set t (.bool c')):=by
 simp only [Prod.mk.injEq] at h
 exact aBO h.1 h.2.1 (lb h.2.2.1) (svI h.2.2.2.1) (svI h.2.2.2.2.1) h.2.2.2.2.2 hc
theorem tCg {op:BinOp} {xt yt:Ak} {x y:Ag} {k:IntKind} {a b:Int} {c c' g:Bool} (h:(o.op,o.dst,AT (t+1) N,S.op x,S.op y,int2 op k a b)=(.binOp op xt x y yt,some t,true,.cnd g (.int k a),.int k b,some (.bool c))) (hb:g=true) (hc:c=c'):IOp P O N o S (S.set t (.bool c')):=by
 simp only [Prod.mk.injEq] at h
 exact aBO h.1 h.2.1 (lb h.2.2.1) (svcI h.2.2.2.1 hb) (svI h.2.2.2.2.1) h.2.2.2.2.2 hc
theorem tCh {op:BinOp} {xt yt:Ak} {x y:Ag} {k:IntKind} {a b:Int} {c c' g:Bool} (h:(o.op,o.dst,AT (t+1) N,S.op x,S.op y,int2 op k a b)=(.binOp op xt x y yt,some t,true,.cnd g (.int k a),.cnd g (.int k b),some (.bool c))) (hb:g=true) (hc:c=c'):IOp P O N o S (S.set t (.bool c')):=by
 simp only [Prod.mk.injEq] at h
 exact aBO h.1 h.2.1 (lb h.2.2.1) (svcI h.2.2.2.1 hb) (svcI h.2.2.2.2.1 hb) h.2.2.2.2.2 hc
theorem tOr {c x y:Ag} {b z r:Bool} (h:(o.op,o.dst,AT (t+1) N,S.op c,S.op x,S.op y)=(.pick c x y,some t,true,.bool b,.bool true,.cnd (b == false) (.bool z))) (hr:(b||z)=r):IOp P O N o S (S.set t (.bool r)):=by
 simp only [Prod.mk.injEq] at h
 exact iop_orx h.1 h.2.1 (lb h.2.2.1) (svB h.2.2.2.1) h.2.2.2.2.1 h.2.2.2.2.2 hr
theorem tAn {c x y:Ag} {b z r:Bool} (h:(o.op,o.dst,AT (t+1) N,S.op c,S.op x,S.op y)=(.pick c x y,some t,true,.bool b,.cnd (b == true) (.bool z),.bool false)) (hr:(b&&z)=r):IOp P O N o S (S.set t (.bool r)):=by
 simp only [Prod.mk.injEq] at h
 exact aLX h.1 h.2.1 (lb h.2.2.1) (svB h.2.2.2.1) h.2.2.2.2.1 h.2.2.2.2.2 hr
theorem dMv {ops:Array Oper} {i:Nat} {S0:St} {rs ri:List Nat} {s:Nat} {d:D} (h:(ops[i]?,pH o,o.op,o.dst,AT (t+1) N,rs.elem s,S0.get s)=(some o,true,.move (.tmp s),some t,true,true,d)):LOp P O N ops i S0 ⟨rs,ri,[(t,d)],[]⟩:=by
 simp only [Prod.mk.injEq] at h
 exact lop h.1 h.2.1 fun S hA=>eK h.2.2.1 h.2.2.2.1 (lb h.2.2.2.2.1) (sv (agr hA h.2.2.2.2.2.1 h.2.2.2.2.2.2))
theorem dFa {ops:Array Oper} {i:Nat} {S0:St} {rs ri:List Nat} {T:Ak} {s:Nat} {k:Nat} {fs:Array Field} {F:Field} {z:Ad AI} {size bytes:Nat} {id off:Nat} (off':Nat) (hu:P.underlying T=some (.struct fs)) (h:(ops[i]?,pH o,o.op,o.dst,AT (t+1) N,fs[k]?)=(some o,true,.fieldAddr T (.tmp s) k,some t,true,some F)) (hi:TI P F.type z size bytes)
 (h2:(AT (0+1) size,rs.elem s,S0.get s,off+F.offset)=(true,true,.ref id off,off')):LOp P O N ops i S0 ⟨rs,ri,[(t,.ref id off')],[]⟩:=by
 simp only [Prod.mk.injEq] at h h2
 exact lop h.1 h.2.1 fun S hA=>mA h.2.2.1 h.2.2.2.1 (lb h.2.2.2.2.1) hu h.2.2.2.2.2 hi (lb h2.1) (sv (agr hA h2.2.1 h2.2.2.1)) h2.2.2.2
theorem dLd {ops:Array Oper} {i:Nat} {S0:St} {rs ri:List Nat} {T:Ak} {s:Nat} {u:TypeDesc} {z:Ad AI} {size bytes:Nat} {id off:Nat} {e:Ak} {ds r:List D} {d:D} (hu:P.underlying T=some u) (hg:gP P T=false) (hi:TI P T z size bytes)
 (h:(ops[i]?,pH o,o.op,o.dst,AT (t+1) N,AT (0+1) size,rs.elem s,S0.get s,ri.elem id,S0.ent id,AT (off+size) ds.length,ds.drop off)=(some o,true,.load T (.tmp s),some t,true,true,true,.ref id off,true,.blk e ds,true,d::r)):LOp P O N ops i S0 ⟨rs,ri,[(t,d)],[]⟩:=by
 simp only [Prod.mk.injEq] at h
 obtain ⟨h1,h2,h3,h4,h5,h6,h7,h8,h9,h10,h11,h12⟩:=h
 exact lop h1 h2 fun S hA=>qY h3 h4 (lb h5) hu hg hi (lb h6) (sv (agr hA h7 h8)) (agi hA h9 h10) (nle h11) h12
theorem dLa {ops:Array Oper} {i:Nat} {S0:St} {rs ri:List Nat} {T:Ak} {s:Nat} {u:TypeDesc} {z:Ad AI} {size bytes:Nat} {id off:Nat} {e:Ak} {ds cs:List D} (hu:P.underlying T=some u) (hg:gP P T=true) (hi:TI P T z size bytes)
 (h:(ops[i]?,pH o,o.op,o.dst,AT (t+1) N,AT (0+1) size,rs.elem s,S0.get s,ri.elem id,S0.ent id,AT (off+size) ds.length,(ds.drop off).take size)=(some o,true,.load T (.tmp s),some t,true,true,true,.ref id off,true,.blk e ds,true,cs)):LOp P O N ops i S0 ⟨rs,ri,[(t,.agg cs)],[]⟩:=by
 simp only [Prod.mk.injEq] at h
 obtain ⟨h1,h2,h3,h4,h5,h6,h7,h8,h9,h10,h11,h12⟩:=h
 exact lop h1 h2 fun S hA=>zC h3 h4 (lb h5) hu hg hi (lb h6) (sv (agr hA h7 h8)) (agi hA h9 h10) (nle h11) h12
theorem dSt {ops:Array Oper} {i:Nat} {S0:St} {rs ri:List Nat} {T:Ak} {s v:Nat} {z:Ad AI} {size bytes:Nat} {id off:Nat} {e:Ak} {ds ds':List D} (c:List D) (hi:TI P T z size bytes)
 (h:(ops[i]?,pH o,o.op,o.dst,rs.elem s,S0.get s,ri.elem id,S0.ent id,rs.elem v,S0.get v,(D.agg c).boxable,(D.agg c).cells.length,(D.agg c).cells.all EH,AT (off+size) ds.length,eH ds off (D.agg c).cells)=(some o,true,.store T (.tmp s) (.tmp v),none,true,.ref id off,true,.blk e ds,true,.agg c,true,size,true,true,ds')):LOp P O N ops i S0 ⟨rs,ri,[],[(id,.blk e ds')]⟩:=by
 simp only [Prod.mk.injEq] at h
 obtain ⟨h1,h2,h3,h4,h5,h6,h7,h8,h9,h10,h11,h12,h13,h14,h15⟩:=h
 exact lop h1 h2 fun S hA=>cY h3 h4 hi (sv (agr hA h5 h6)) (agi hA h7 h8) (sv (agr hA h9 h10)) h11 h12 h13 (nle h14) h15
theorem bE {α:Type} {c:Ag} {x y:Code} {b:Bool} {A B r:α} (h:(bif b then A else B)=r) (hc:S.op c = .bool b) (h1:A=r→IWP P O N x S Q) (h2:B=r→IWP P O N y S Q):IWP P O N (.cond c x y) S Q :=
 oG hc (fun k=>h1 (aMK h k)) (fun k=>h2 (aML h k))
theorem eoo {α β ρ:Type} {e:Ad α} {f:α→Ad β} {q:α→β→Ad ρ} {r:ρ} (h:bno (e) (fun x=>bno (f x) (q x))=some r):∃ x,e=some x∧∃ y,f x=some y∧q x y=some r:=by
 obtain ⟨x,h0,h⟩:=eC h
 obtain ⟨y,h1,h⟩:=eC h
 exact ⟨x,h0,y,h1,h⟩
theorem eod {α β ρ:Type} {e:Ad α} {f:α→β} {q:α→β→Ad ρ} {r:ρ} (h:bno (e) (fun x=>bnd (f x) (q x))=some r):∃ x,e=some x∧∃ y,f x=y∧q x y=some r:=by
 obtain ⟨x,h0,h⟩:=eC h
 obtain ⟨y,h1,h⟩:=dM h
 exact ⟨x,h0,y,h1,h⟩
theorem edo {α β ρ:Type} {e:α} {f:α→Ad β} {q:α→β→Ad ρ} {r:ρ} (h:bnd (e) (fun x=>bno (f x) (q x))=some r):∃ x,e=x∧∃ y,f x=some y∧q x y=some r:=by
 obtain ⟨x,h0,h⟩:=dM h
 obtain ⟨y,h1,h⟩:=eC h
 exact ⟨x,h0,y,h1,h⟩
theorem edd {α β ρ:Type} {e:α} {f:α→β} {q:α→β→Ad ρ} {r:ρ} (h:bnd (e) (fun x=>bnd (f x) (q x))=some r):∃ x,e=x∧∃ y,f x=y∧q x y=some r:=by
 obtain ⟨x,h0,h⟩:=dM h
 obtain ⟨y,h1,h⟩:=dM h
 exact ⟨x,h0,y,h1,h⟩
theorem eooo {α β γ ρ:Type} {e:Ad α} {f:α→Ad β} {g:α→β→Ad γ} {q:α→β→γ→Ad ρ} {r:ρ} (h:bno (e) (fun x=>bno (f x) (fun y=>bno (g x y) (q x y)))=some r):∃ x,e=some x∧∃ y,f x=some y∧∃ z,g x y=some z∧q x y z=some r:=by
 obtain ⟨x,h0,h⟩:=eC h
 obtain ⟨y,h1,h⟩:=eC h
 obtain ⟨z,h2,h⟩:=eC h
 exact ⟨x,h0,y,h1,z,h2,h⟩
theorem eood {α β γ ρ:Type} {e:Ad α} {f:α→Ad β} {g:α→β→γ} {q:α→β→γ→Ad ρ} {r:ρ} (h:bno (e) (fun x=>bno (f x) (fun y=>bnd (g x y) (q x y)))=some r):∃ x,e=some x∧∃ y,f x=some y∧∃ z,g x y=z∧q x y z=some r:=by
 obtain ⟨x,h0,h⟩:=eC h
 obtain ⟨y,h1,h⟩:=eC h
 obtain ⟨z,h2,h⟩:=dM h
 exact ⟨x,h0,y,h1,z,h2,h⟩
theorem eodo {α β γ ρ:Type} {e:Ad α} {f:α→β} {g:α→β→Ad γ} {q:α→β→γ→Ad ρ} {r:ρ} (h:bno (e) (fun x=>bnd (f x) (fun y=>bno (g x y) (q x y)))=some r):∃ x,e=some x∧∃ y,f x=y∧∃ z,g x y=some z∧q x y z=some r:=by
 obtain ⟨x,h0,h⟩:=eC h
 obtain ⟨y,h1,h⟩:=dM h
 obtain ⟨z,h2,h⟩:=eC h
 exact ⟨x,h0,y,h1,z,h2,h⟩
theorem eodd {α β γ ρ:Type} {e:Ad α} {f:α→β} {g:α→β→γ} {q:α→β→γ→Ad ρ} {r:ρ} (h:bno (e) (fun x=>bnd (f x) (fun y=>bnd (g x y) (q x y)))=some r):∃ x,e=some x∧∃ y,f x=y∧∃ z,g x y=z∧q x y z=some r:=by
 obtain ⟨x,h0,h⟩:=eC h
 obtain ⟨y,h1,h⟩:=dM h
 obtain ⟨z,h2,h⟩:=dM h
 exact ⟨x,h0,y,h1,z,h2,h⟩
theorem edoo {α β γ ρ:Type} {e:α} {f:α→Ad β} {g:α→β→Ad γ} {q:α→β→γ→Ad ρ} {r:ρ} (h:bnd (e) (fun x=>bno (f x) (fun y=>bno (g x y) (q x y)))=some r):∃ x,e=x∧∃ y,f x=some y∧∃ z,g x y=some z∧q x y z=some r:=by
 obtain ⟨x,h0,h⟩:=dM h
 obtain ⟨y,h1,h⟩:=eC h
 obtain ⟨z,h2,h⟩:=eC h
 exact ⟨x,h0,y,h1,z,h2,h⟩
theorem edod {α β γ ρ:Type} {e:α} {f:α→Ad β} {g:α→β→γ} {q:α→β→γ→Ad ρ} {r:ρ} (h:bnd (e) (fun x=>bno (f x) (fun y=>bnd (g x y) (q x y)))=some r):∃ x,e=x∧∃ y,f x=some y∧∃ z,g x y=z∧q x y z=some r:=by
 obtain ⟨x,h0,h⟩:=dM h
 obtain ⟨y,h1,h⟩:=eC h
 obtain ⟨z,h2,h⟩:=dM h
 exact ⟨x,h0,y,h1,z,h2,h⟩
theorem eddo {α β γ ρ:Type} {e:α} {f:α→β} {g:α→β→Ad γ} {q:α→β→γ→Ad ρ} {r:ρ} (h:bnd (e) (fun x=>bnd (f x) (fun y=>bno (g x y) (q x y)))=some r):∃ x,e=x∧∃ y,f x=y∧∃ z,g x y=some z∧q x y z=some r:=by
 obtain ⟨x,h0,h⟩:=dM h
 obtain ⟨y,h1,h⟩:=dM h
 obtain ⟨z,h2,h⟩:=eC h
 exact ⟨x,h0,y,h1,z,h2,h⟩
theorem eddd {α β γ ρ:Type} {e:α} {f:α→β} {g:α→β→γ} {q:α→β→γ→Ad ρ} {r:ρ} (h:bnd (e) (fun x=>bnd (f x) (fun y=>bnd (g x y) (q x y)))=some r):∃ x,e=x∧∃ y,f x=y∧∃ z,g x y=z∧q x y z=some r:=by
 obtain ⟨x,h0,h⟩:=dM h
 obtain ⟨y,h1,h⟩:=dM h
 obtain ⟨z,h2,h⟩:=dM h
 exact ⟨x,h0,y,h1,z,h2,h⟩
abbrev nd1 (rs:List Nat) (t:Nat) (d:D):Node:=⟨rs,[],[(t,d)],[]⟩
abbrev nd2 (rs ri:List Nat) (t:Nat) (d:D):Node:=⟨rs,ri,[(t,d)],[]⟩
theorem cFa {ops:Array Oper} {ll:List Oper} {T:Ak} {x:Ag} {i:Nat} {fs:Array Field} {F:Field} {z:Ad AI} {size bytes:Nat} {id off:Nat} (off':Nat) (hu:P.underlying T=some (.struct fs)) (h:(pH o,o.op,o.dst,AT (t+1) N,fs[i]?)=(true,.fieldAddr T x i,some t,true,some F)) (hi:TI P F.type z size bytes) (h2:(AT (0+1) size,S.op x,off+F.offset)=(true,.ref id off,off')) (q:ILS P O N ops ll (S.set t (.ref id off')) Q):ILS P O N ops (o::ll) S Q :=
 aE (Bv Dc h) (tFa off' hu (Bv DR h) hi h2) q
theorem cLd {ops:Array Oper} {ll:List Oper} {T:Ak} {x:Ag} {u:TypeDesc} {z:Ad AI} {size bytes:Nat} {id off:Nat} {e:Ak} {ds r:List D} {d:D} (hu:P.underlying T=some u) (hg:gP P T=false) (hi:TI P T z size bytes) (h:(pH o,o.op,o.dst,AT (t+1) N,AT (0+1) size,S.op x,S.ent id,AT (off+size) ds.length,ds.drop off)=(true,.load T x,some t,true,true,.ref id off,.blk e ds,true,d::r)) (q:ILS P O N ops ll (S.set t d) Q):ILS P O N ops (o::ll) S Q :=
 aE (Bv Dc h) (tLd hu hg hi (Bv DR h)) q
theorem cSt {ops:Array Oper} {ll:List Oper} {T:Ak} {x y:Ag} {z:Ad AI} {size bytes:Nat} {id off:Nat} {e:Ak} {ds:List D} (c ds':List D) (hi:TI P T z size bytes) (h:(pH o,o.op,o.dst,S.op x,S.ent id,S.op y,(D.agg c).boxable,(D.agg c).cells.length,(D.agg c).cells.all EH,AT (off+size) ds.length,eH ds off (D.agg c).cells)=(true,.store T x y,none,.ref id off,.blk e ds,.agg c,true,size,true,true,ds')) (q:ILS P O N ops ll (S.setE id (.blk e ds')) Q):ILS P O N ops (o::ll) S Q :=
 aE (Bv Dc h) (tSt c ds' hi (Bv DR h)) q
theorem cLr {ops:Array Oper} {ll:List Oper} {T:Ak} {x:Ag} {u:TypeDesc} {z:Ad AI} {size bytes:Nat} {id off:Nat} {e:Ak} {ds:List D} (cs:List D) (l:LA P T u z size bytes true) (h:(pH o,o.op,o.dst,AT (t+1) N,S.op x,S.ent id,AT (off+size) ds.length,(ds.drop off).take size)=(true,.load T x,some t,true,.ref id off,.blk e ds,true,cs)) (q:ILS P O N ops ll (S.set t (.agg cs)) Q):ILS P O N ops (o::ll) S Q :=
 aE (Bv Dc h) (tLr cs l (Bv DR h)) q
theorem cAs {ops:Array Oper} {ll:List Oper} {x:Ag} (d:D) (h:(pH o,o.op,o.dst,AT (t+1) N,S.op x)=(true,.assign x,some t,true,d)) (q:ILS P O N ops ll (S.set t d) Q):ILS P O N ops (o::ll) S Q :=
 aE (Bv Dc h) (tAs d (Bv DR h)) q
theorem cBx {ops:Array Oper} {ll:List Oper} {e:Ak} {x:Ag} {cs:List D} (c:List D) (id:Nat) (h:(pH o,o.op,o.dst,AT (t+1) N,S.ent id,S.op x,(D.agg c).boxable,(D.agg c).cells)=(true,.box e x,some t,true,.fresh,.agg c,true,cs)) (q:ILS P O N ops ll ((S.setE id (.blk e cs)).set t (.ref id 0)) Q):ILS P O N ops (o::ll) S Q :=
 aE (Bv Dc h) (tBx c id (Bv DR h)) q
theorem cI {ops:Array Oper} {ll:List Oper} {x:Ag} {k:IntKind} {n:Int} (h:(pH o,o.op,o.dst,AT (t+1) N,S.op x)=(true,.move x,some t,true,.int k n)) (q:ILS P O N ops ll (S.set t (.int k n)) Q):ILS P O N ops (o::ll) S Q :=
 aE (Bv Dc h) (tI (Bv DR h)) q
theorem cB {ops:Array Oper} {ll:List Oper} {x:Ag} {n:Bool} (h:(pH o,o.op,o.dst,AT (t+1) N,S.op x)=(true,.move x,some t,true,.bool n)) (q:ILS P O N ops ll (S.set t (.bool n)) Q):ILS P O N ops (o::ll) S Q :=
 aE (Bv Dc h) (tB (Bv DR h)) q
theorem cAI {ops:Array Oper} {ll:List Oper} {x:Ag} {k:IntKind} {n:Int} (h:(pH o,o.op,o.dst,AT (t+1) N,S.op x)=(true,.assign x,some t,true,.int k n)) (q:ILS P O N ops ll (S.set t (.int k n)) Q):ILS P O N ops (o::ll) S Q :=
 aE (Bv Dc h) (tAI (Bv DR h)) q
theorem cAB {ops:Array Oper} {ll:List Oper} {x:Ag} {n:Bool} (h:(pH o,o.op,o.dst,AT (t+1) N,S.op x)=(true,.assign x,some t,true,.bool n)) (q:ILS P O N ops ll (S.set t (.bool n)) Q):ILS P O N ops (o::ll) S Q :=
 aE (Bv Dc h) (tAB (Bv DR h)) q
theorem cMv {ops:Array Oper} {ll:List Oper} {x:Ag} (d:D) (h:(pH o,o.op,o.dst,AT (t+1) N,S.op x)=(true,.move x,some t,true,d)) (q:ILS P O N ops ll (S.set t d) Q):ILS P O N ops (o::ll) S Q :=
 aE (Bv Dc h) (tMv d (Bv DR h)) q
theorem cEx {ops:Array Oper} {ll:List Oper} {x:Ag} {i:Nat} {cs:List D} {d:D} (h:(pH o,o.op,o.dst,AT (t+1) N,S.op x,cs[i]?)=(true,.extract x i,some t,true,.tuple cs,some d)) (q:ILS P O N ops ll (S.set t d) Q):ILS P O N ops (o::ll) S Q :=
 aE (Bv Dc h) (tEx (Bv DR h)) q
theorem cCm {ops:Array Oper} {ll:List Oper} {op:BinOp} {xt yt:Ak} {x y:Ag} {k:IntKind} {a b:Int} {c c':Bool} (h:(pH o,o.op,o.dst,AT (t+1) N,S.op x,S.op y,int2 op k a b)=(true,.binOp op xt x y yt,some t,true,.int k a,.int k b,some (.bool c))) (hc:c=c') (q:ILS P O N ops ll (S.set t (.bool c')) Q):ILS P O N ops (o::ll) S Q :=
 aE (Bv Dc h) (tCm (Bv DR h) hc) q
theorem cOr {ops:Array Oper} {ll:List Oper} {c x y:Ag} {b z r:Bool} (h:(pH o,o.op,o.dst,AT (t+1) N,S.op c,S.op x,S.op y)=(true,.pick c x y,some t,true,.bool b,.bool true,.cnd (b == false) (.bool z))) (hr:(b||z)=r) (q:ILS P O N ops ll (S.set t (.bool r)) Q):ILS P O N ops (o::ll) S Q :=
 aE (Bv Dc h) (tOr (Bv DR h) hr) q
theorem cAn {ops:Array Oper} {ll:List Oper} {c x y:Ag} {b z r:Bool} (h:(pH o,o.op,o.dst,AT (t+1) N,S.op c,S.op x,S.op y)=(true,.pick c x y,some t,true,.bool b,.cnd (b == true) (.bool z),.bool false)) (hr:(b&&z)=r) (q:ILS P O N ops ll (S.set t (.bool r)) Q):ILS P O N ops (o::ll) S Q :=
 aE (Bv Dc h) (tAn (Bv DR h) hr) q
end
end Go.IL
namespace Go.IL
section
variable {P:An} {O:aR} {N:Nat} {S S':St} {o:Oper} {t:Nat}
end
end Go.IL
namespace Go.IL
section
variable {P:An} {O:aR} {N:Nat} {S S':St} {o:Oper} {t:Nat}
theorem aCV {T e:Ak} (h:P.underlying T=some (.pointer e)):P.underlying T=some (.pointer (P.pointee T)):=by
 unfold Program.pointee; rw [h]
theorem aFa {E:Env} {β:bD} {a:Act} {y:Ag} (hr:Rel O N S E β a) (hy:SV S y .nilp):a.eval y = .pointer none:=by
 have:=hy.rd hr
 generalize a.eval y=v at this
 cases this; rfl
theorem aId {T e:Ak} {p:Ad Addr} (hu:P.underlying T=some (.pointer e)) (w:World) (neq:Bool):(binOp (if neq then .neq else .eql) T (.pointer p) (.pointer none)).run P w = .ok (.bool (if neq then !p.isNone else p.isNone)) w:=by
 cases neq
 · exact run_eql_pointer_nil w T p (aCV hu)
 · exact run_neq_pointer_nil w T p (aCV hu)
theorem oI {T T2 e:Ak} {x y:Ag} {neq r:Bool} (ho:o.op = .binOp (if neq then .neq else .eql) T x y T2) (hd:o.dst=some t) (ht:t<N) (hu:P.underlying T=some (.pointer e))
 (hx:∀ E β a,Rel O N S E β a→∃ p,a.eval x = .pointer p∧(if neq then !p.isNone else p.isNone)=r) (hy:SV S y .nilp):IOp P O N o S (S.set t (.bool r)) :=
 eO hd ht fun E β a hr=>by
  obtain ⟨p,hp,hq⟩:=hx E β a hr
  have hyv:=aFa hr hy
  have h1:=aId (p:=p) hu E.w neq
  rw [hq] at h1
  exact ⟨_,by simp [execOp,ho,hp,hyv,eqGuard,h1],.bool _ _⟩
theorem iop_eqn {T T2 e:Ak} {x y:Ag} {id off:Nat} (ho:o.op = .binOp .eql T x y T2) (hd:o.dst=some t) (ht:t<N) (hu:P.underlying T=some (.pointer e)) (hx:SV S x (.ref id off)) (hy:SV S y .nilp):IOp P O N o S (S.set t (.bool false)) :=
 oI (neq:=false) ho hd ht hu (fun E β a hr=>by obtain ⟨b,_,h⟩:=aEM (hx.rd hr); exact ⟨_,h,rfl⟩) hy
theorem iop_nen {T T2 e:Ak} {x y:Ag} {id off:Nat} (ho:o.op = .binOp .neq T x y T2) (hd:o.dst=some t) (ht:t<N) (hu:P.underlying T=some (.pointer e)) (hx:SV S x (.ref id off)) (hy:SV S y .nilp):IOp P O N o S (S.set t (.bool true)) :=
 oI (neq:=true) ho hd ht hu (fun E β a hr=>by obtain ⟨b,_,h⟩:=aEM (hx.rd hr); exact ⟨_,h,rfl⟩) hy
theorem aLW {T T2 e:Ak} {x y:Ag} {cs:List D} (ho:o.op = .binOp .eql T x y T2) (hd:o.dst=some t) (ht:t<N) (hu:P.underlying T=some (.pointer e)) (hx:SV S x (.fptr cs)) (hy:SV S y .nilp):IOp P O N o S (S.set t (.bool false)) :=
 oI (neq:=false) ho hd ht hu (fun E β a hr=>by obtain ⟨b,off,vs,h,_⟩:=aDA (hx.rd hr); exact ⟨_,h,rfl⟩) hy
theorem aLS {T T2 e:Ak} {x y:Ag} {cs:List D} (ho:o.op = .binOp .neq T x y T2) (hd:o.dst=some t) (ht:t<N) (hu:P.underlying T=some (.pointer e)) (hx:SV S x (.fptr cs)) (hy:SV S y .nilp):IOp P O N o S (S.set t (.bool true)) :=
 oI (neq:=true) ho hd ht hu (fun E β a hr=>by obtain ⟨b,off,vs,h,_⟩:=aDA (hx.rd hr); exact ⟨_,h,rfl⟩) hy
theorem aLV {T T2 e:Ak} {x y:Ag} (ho:o.op = .binOp .eql T x y T2) (hd:o.dst=some t) (ht:t<N) (hu:P.underlying T=some (.pointer e)) (hx:SV S x .nilp) (hy:SV S y .nilp):IOp P O N o S (S.set t (.bool true)) :=
 oI (neq:=false) ho hd ht hu (fun E β a hr=>⟨_,aFa hr hx,rfl⟩) hy
theorem aLR {T T2 e:Ak} {x y:Ag} (ho:o.op = .binOp .neq T x y T2) (hd:o.dst=some t) (ht:t<N) (hu:P.underlying T=some (.pointer e)) (hx:SV S x .nilp) (hy:SV S y .nilp):IOp P O N o S (S.set t (.bool false)) :=
 oI (neq:=true) ho hd ht hu (fun E β a hr=>⟨_,aFa hr hx,rfl⟩) hy
end
end Go.IL
open Nat renaming beq → Aj
namespace Go.IL
universe u

abbrev bt {α:Sort u} (c:Bool) (x y:α):α:=match c with
 | true=>x
 | false=>y
theorem aAz {α:Sort u} (x y:α):bt true x y=x:=rfl
theorem uK {α:Sort u} (x y:α):bt false x y=y:=rfl
structure El where
 α:Type
 E:Enc α
 z:α

abbrev TL (τ:Nat→El):=(e:Nat)×List (τ e).α

inductive V (τ:Nat→El):Type where
 | dead
 | bool (b:Bool)
 | lit (b:Bool)
 | int (k:IntKind) (n:Int)
 | u8 (c:Ai)
 | flt (k:FloatKind) (n:Nat)
 | str (l:List Ai)
 | sl (f:Bool) (e:Nat) (l:List (τ e).α)
 | nils
 | agg (cs:List (V τ))
 | tup (cs:List (V τ))
 | fptr (cs:List (V τ))
 | nilp | nilf | nili
 | fn (f:BP) (cs:List (V τ))
 | ref (id off:Nat)
 | rfe (id i e k:Nat)
 | gsl (id e:Nat)
 | osl (id e c:Nat)
 deriving Inhabited

section
variable {τ:Nat→El}

abbrev Th (τ:Nat→El):=List (Nat×TL τ)
abbrev Th.at (Θ:Th τ) (id e:Nat):List (τ e).α :=
 match look (α:=Ad (TL τ)) none id (Θ.map fun x=>(x.1,some x.2)) with
 | some ⟨e',l⟩=>if h:e'=e then h ▸ l else []
 | none=>[]
abbrev Th.len (Θ:Th τ) (id e:Nat):Nat:=(Θ.at id e).length

mutual
abbrev V.d (Θ:Th τ):V τ→D
 | .dead=>.dead
 | .bool b=>.bool b
 | .lit b=>.bool b
 | .int k n=>.int k n
 | .u8 c=>.int .u8 (c.toNat:Int)
 | .flt k n=>.float k n
 | .str l=>.str l
 | .sl f e l=>.slice f (l.map (τ e).E.d)
 | .nils=>.nils
 | .agg cs=>.agg (V.dL Θ cs)
 | .tup cs=>.tuple (V.dL Θ cs)
 | .fptr cs=>.fptr (V.dL Θ cs)
 | .nilp=>.nilp
 | .nilf=>.nilf
 | .nili=>.nili
 | .fn f cs=>.fn f (V.dL Θ cs)
 | .ref id off=>.ref id off
 | .rfe id i e k=>.ref id (i*(τ e).E.sz+k)
 | .gsl id e=>.gsl id (τ e).E.sz ((Θ.at id e).map (τ e).E.d)
 | .osl id e c=>.osl id (τ e).E.sz (Θ.len c e)
abbrev V.dL (Θ:Th τ):List (V τ)→List D
 | []=>[]
 | v::vs=>V.d Θ v::V.dL Θ vs
end

mutual
abbrev V.occ (n:Nat):V τ→Bool
 | .agg cs=>V.occL n cs
 | .tup cs=>V.occL n cs
 | .fptr cs=>V.occL n cs
 | .fn _ cs=>V.occL n cs
 | .gsl id _=>Aj id n
 | .osl _ _ c=>Aj c n
 | _=>false
abbrev V.occL (n:Nat):List (V τ)→Bool
 | []=>false
 | v::vs=>V.occ n v||V.occL n vs
end

inductive VE (τ:Nat→El) where
 | none | fresh
 | blk (t:Ak) (cs:List (V τ))
 | lb (t:Ak) (e c:Nat) (l:List (τ e).α)
 | tail (t:Ak) (e c:Nat)
 deriving Inhabited
abbrev VE.d (Θ:Th τ):VE τ→Ent
 | .none=>.none
 | .fresh=>.fresh
 | .blk t cs=>.blk t (V.dL Θ cs)
 | .lb t e c l=>.blk t (Al (l.map (τ e).E.d))
 | .tail t e c=>.tail t (τ e).E.sz (Θ.len c e)
abbrev VE.occ (n:Nat):VE τ→Bool
 | .blk _ cs=>V.occL n cs
 | .lb _ _ c _=>Aj c n
 | .tail _ _ c=>Aj c n
 | _=>false

abbrev Gd:=List (Nat×Bool)
abbrev Gd.eq:Gd→Gd→Bool
 | [],[]=>true
 | (i,a)::g,(j,b)::h=>Aj i j&&(match a,b with | true,true=>true | false,false=>true | _,_=>false)&&Gd.eq g h
 | _,_=>false
abbrev Ga:=List (Nat×Bool)
abbrev Ga.at (Γ:Ga) (i:Nat):Bool:=look false i Γ
abbrev Gd.vl (Γ:Ga) (b:Bool):Gd→Bool
 | []=>b
 | (i,w)::r=>Gd.vl Γ (b&&(Γ.at i == w)) r
abbrev Gd.val (Γ:Ga):Gd→Bool
 | []=>true
 | (i,w)::r=>Gd.vl Γ (Γ.at i == w) r

inductive Sv (τ:Nat→El) where
 | v (x:V τ)
 | gb (i:Nat)
 | cnd (g:Gd) (x:V τ)
 | cgb (g:Gd) (i:Nat)
 deriving Inhabited
abbrev Sv.d (Θ:Th τ) (Γ:Ga):Sv τ→D
 | .v x=>x.d Θ
 | .gb i=>.bool (Γ.at i)
 | .cnd g x=>.cnd (g.val Γ) (x.d Θ)
 | .cgb g i=>.cnd (g.val Γ) (.bool (Γ.at i))
abbrev Sv.occ (n:Nat):Sv τ→Bool
 | .v x=>x.occ n
 | .gb i=>Aj i n
 | .cnd g x=>g.any (fun p=>Aj p.1 n)||x.occ n
 | .cgb g i=>g.any (fun p=>Aj p.1 n)||Aj i n

structure VS (τ:Nat→El) where
 sl:List (Nat×Sv τ)
 H:List (Nat×VE τ)
 Γ:Ga
 Θ:Th τ
 nid:Nat
 shut:Bool
 Φ:List (Nat×Bool)
abbrev VS.get (S:VS τ) (t:Nat):Sv τ:=look (.v .dead) t S.sl
abbrev defV (id:Nat):VE τ:=bt (AT 1000 id) (.none) (.fresh)
abbrev VS.ent (S:VS τ) (id:Nat):VE τ:=look (bt (S.shut) (.none) (defV id)) id S.H
abbrev VS.occ (S:VS τ) (n:Nat):Bool:=S.sl.any (fun p=>p.2.occ n)||S.H.any (fun p=>p.2.occ n)||S.Φ.any (fun p=>Aj p.1 n)

abbrev V.ofScalar:Value→V τ
 | .bool b=>.lit b
 | .int k n=>.int k n
 | .float k n=>.flt k (fcan k n)
 | .string s=>.str s.data.toList
 | .slice none 0 0=>.nils
 | .pointer none=>.nilp
 | .nilFunc=>.nilf
 | .nilIface=>.nili
 | _=>.dead
abbrev V.ofVal:Value→V τ
 | .agg cs=>.agg (cs.toList.map V.ofScalar)
 | v=>V.ofScalar v

abbrev V.unl:V τ→V τ
 | .lit b=>.bool b
 | v=>v
abbrev fv {β:Type} (v:V τ) (k:V τ→β):β:=match v with
 | .dead=>k .dead
 | .bool b=>k (.bool b)
 | .lit b=>k (.lit b)
 | .int i n=>k (.int i n)
 | .u8 c=>k (.u8 c)
 | .flt i n=>k (.flt i n)
 | .str l=>k (.str l)
 | .sl f e l=>k (.sl f e l)
 | .nils=>k .nils
 | .agg cs=>k (.agg cs)
 | .tup cs=>k (.tup cs)
 | .fptr cs=>k (.fptr cs)
 | .nilp=>k .nilp
 | .nilf=>k .nilf
 | .nili=>k .nili
 | .fn f cs=>k (.fn f cs)
 | .ref i o=>k (.ref i o)
 | .rfe i j e o=>k (.rfe i j e o)
 | .gsl i e=>k (.gsl i e)
 | .osl i e c=>k (.osl i e c)
theorem aLj {β:Type} (v:V τ) (k:V τ→β):fv v k=k v:=by cases v <;> rfl
abbrev VS.rdg (S:VS τ) (gs:List Gd):Ag→V τ
 | .tmp t=>match S.get t with
   | .v x=>x.unl
   | .gb i=>.bool (S.Γ.at i)
   | .cnd g x=>bt (gs.any (Gd.eq g)) (x) (.dead)
   | .cgb g i=>bt (gs.any (Gd.eq g)) (.bool (S.Γ.at i)) (.dead)
 | .const v=>(V.ofVal v).unl
 | .func f=>.fn f []
 | .global _=>.dead
abbrev VS.rd (S:VS τ) (G:Gd) (x:Ag):V τ:=S.rdg [G] x

abbrev VS.raw (S:VS τ):Ag→V τ
 | .tmp t=>match S.get t with
   | .v x=>x
   | _=>.dead
 | .const v=>V.ofVal v
 | _=>.dead
abbrev VS.rd0 (S:VS τ):Ag→V τ
 | .tmp t=>match S.get t with
   | .v x=>x
   | _=>.dead
 | .const v=>V.ofVal v
 | _=>.dead

abbrev V.cells:V τ→List (V τ)
 | .agg cs=>cs
 | v=>[v]
abbrev V.boxable:V τ→Bool
 | .dead | .tup _=>false
 | _=>true
abbrev V.one:V τ→Bool
 | .agg _=>false
 | v=>v.boxable
abbrev V.asI:V τ→Ad (IntKind×Int)
 | .int k n=>some (k,n)
 | .u8 c=>some (.u8,(c.toNat:Int))
 | _=>none

abbrev vF {α β:Type} (l:List α) (k:List α→β):β:=match l with
 | []=>k []
 | a::r=>vF r fun r'=>k (a::r')
theorem mL {α β:Type} (l:List α) (k:List α→β):vF l k=k l:=by
 induction l generalizing k with
 | nil=>rfl
 | cons a r ih=>simp only [vF,ih]

abbrev pt {α β:Type} (Γ:Ga) (G:Gd) (e:Ad α) (d:α) (k:α→Ad β):Ad β:=match G with
 | []=>bno e k
 | g::r=>bno (gd (Gd.val Γ (g::r)) e d) k

inductive Sh where
 | int (k:IntKind) | u8 | bool | flt (k:FloatKind) | str | sl (e:Nat)
 deriving Inhabited
abbrev Sh.ty (τ:Nat→El):Sh→Type
 | .int _=>Int
 | .u8=>Ai
 | .bool=>Bool
 | .flt _=>Nat
 | .str=>List Ai
 | .sl e=>List (τ e).α
abbrev Sh.put:(s:Sh)→s.ty τ→V τ
 | .int k,n=>.int k n
 | .u8,c=>.u8 c
 | .bool,b=>.bool b
 | .flt k,n=>.flt k n
 | .str,l=>.str l
 | .sl e,l=>.sl false e l
abbrev ikeq (a b:IntKind):Bool:=match a,b with
 | .i8,.i8=>true | .i16,.i16=>true | .i32,.i32=>true | .i64,.i64=>true
 | .u8,.u8=>true | .u16,.u16=>true | .u32,.u32=>true | .u64,.u64=>true
 | _,_=>false
theorem qN {a b:IntKind} (h:ikeq a b=true):a=b:=by cases a <;> cases b <;> first | rfl | cases h
abbrev fkeq (a b:FloatKind):Bool:=match a,b with
 | .f32,.f32=>true | .f64,.f64=>true | _,_=>false
theorem aJx {a b:FloatKind} (h:fkeq a b=true):a=b:=by cases a <;> cases b <;> first | rfl | cases h
abbrev aAx {e e':Nat} (h:e'=e) (l:List (τ e').α):List (τ e).α:=h ▸ l
abbrev Sh.get (Θ:Th τ) (own:Nat→VE τ):(s:Sh)→V τ→Ad (s.ty τ)
 | .int k,.int k' n=>bt (ikeq k' k) (some n) (none)
 | .int k,.u8 c=>bt (ikeq .u8 k) (some (c.toNat:Int)) (none)
 | .u8,.u8 c=>some c
 | .u8,.int k n=>bt (ikeq .u8 k) (toU8 n) (none)
 | .bool,.bool b=>some b
 | .bool,.lit b=>some b
 | .flt k,.flt k' n=>bt (fkeq k' k) (some n) (none)
 | .str,.str l=>some l
 | .sl e,.sl false e' l=>if h:e'=e then some (aAx h l) else none
 | .sl e,.nils=>some []
 | .sl e,.gsl id e'=>if h:e'=e then some (aAx h (Θ.at id e')) else none
 | .sl e,.osl id e' c=>match own id with
   | .lb _ e'' c' l=>if h:e''=e then (bt (Aj e' e) (bt (Aj c' c) (some (aAx h l)) (none)) (none)) else none
   | _=>none
 | _,_=>none
abbrev ShL.ty (τ:Nat→El):List Sh→Type
 | []=>Unit
 | s::r=>s.ty τ×ShL.ty τ r
abbrev ShL.put:(ss:List Sh)→ShL.ty τ ss→List (V τ)
 | [],_=>[]
 | s::r,z=>s.put z.1::ShL.put r z.2
abbrev ShL.get (Θ:Th τ) (own:Nat→VE τ):(ss:List Sh)→List (V τ)→Ad (ShL.ty τ ss)
 | [],[]=>some ()
 | s :: r,v::vs=>match s.get Θ own v with
   | some a=>match ShL.get Θ own r vs with
     | some z=>some (a,z)
     | none=>none
   | none=>none
 | _,_=>none

structure Cod (τ:Nat→El) (e:Nat) where
 ss:List Sh
 ma:ShL.ty τ ss→(τ e).α
 un:(τ e).α→ShL.ty τ ss
 h1:∀ Θ a,V.dL Θ (ShL.put ss (un a))=((τ e).E.d a).cells
 h2:∀ z,un (ma z)=z
abbrev Cod.put {e:Nat} (c:Cod τ e) (a:(τ e).α):List (V τ):=ShL.put c.ss (c.un a)
abbrev Cod.get {e:Nat} (c:Cod τ e) (Θ:Th τ) (own:Nat→VE τ) (vs:List (V τ)):Ad (τ e).α:=match ShL.get Θ own c.ss vs with
 | some z=>some (c.ma z)
 | none=>none

abbrev Sh.firm:Sh→V τ→Bool
 | .int _,.int _ _=>true
 | .u8,.u8 _=>true
 | .bool,.bool _=>true
 | .bool,.lit _=>true
 | .flt _,.flt _ _=>true
 | .str,.str _=>true
 | .sl _,.sl false _ _=>true
 | _,_=>false
abbrev Sh.firm8 (s:Sh) (v:V τ):Bool:=match s with
 | .u8=>match v with
   | .int _ _=>true
   | v=>Sh.firm .u8 v
 | s=>s.firm v
abbrev ShL.firm8:List Sh→List (V τ)→Bool
 | s::r,v::vs=>s.firm8 v&&ShL.firm8 r vs
 | _,_=>true
abbrev ShL.firm:List Sh→List (V τ)→Bool
 | s::r,v::vs=>s.firm v&&ShL.firm r vs
 | _,_=>true
abbrev Sh.dft (τ:Nat→El):(s:Sh)→s.ty τ
 | .int _=>(0:Int)
 | .u8=>(0:Ai)
 | .bool=>false
 | .flt _=>(0:Nat)
 | .str=>([]:List Ai)
 | .sl e=>([]:List (τ e).α)
inductive AK where
 | one (s:Sh)
 | agg (e:Nat)
 | ptr (e:Nat)
 | nilp
 | fn0 (f:BP)
 | fn1 (f:BP) (a:AK)
 | fn2 (f:BP) (a b:AK)
 | fn3 (f:BP) (a b c:AK)
 deriving Inhabited
abbrev AK.ty (τ:Nat→El):AK→Type
 | .one s=>s.ty τ
 | .agg e=>(τ e).α
 | .ptr e=>(τ e).α
 | .nilp=>Unit
 | .fn0 _=>Unit
 | .fn1 _ a=>a.ty τ
 | .fn2 _ a b=>a.ty τ×b.ty τ
 | .fn3 _ a b c=>a.ty τ×b.ty τ×c.ty τ
abbrev AK.put (κ:∀ e,Cod τ e):(a:AK)→a.ty τ→V τ
 | .one s,z=>s.put z
 | .agg e,z=>.agg ((κ e).put z)
 | .ptr e,z=>.fptr ((κ e).put z)
 | .nilp,_=>.nilp
 | .fn0 f,_=>.fn f []
 | .fn1 f a,z=>.fn f [a.put κ z]
 | .fn2 f a b,z=>.fn f [a.put κ z.1,b.put κ z.2]
 | .fn3 f a b c,z=>.fn f [a.put κ z.1,b.put κ z.2.1,c.put κ z.2.2]
abbrev AK.get (κ:∀ e,Cod τ e) (Θ:Th τ) (own:Nat→VE τ):(a:AK)→V τ→Ad (a.ty τ)
 | .one s,v=>s.get Θ own v
 | .agg e,.agg cs=>(κ e).get Θ own cs
 | .ptr e,.fptr cs=>bt (ShL.firm (κ e).ss cs) ((κ e).get Θ own cs) (none)
 | .ptr e,.ref id off=>match own id with
   | .blk _ cs=>match off with
     | 0=>(κ e).get Θ own cs
     | _=>none
   | _=>none
 | .nilp,.nilp=>some ()
 | .fn0 f,.fn g cs=>match cs with
   | []=>bt (Aj g f) (some ()) (none)
   | _=>none
 | .fn1 f a,.fn g cs=>match cs with
   | [v]=>bt (Aj g f) (a.get κ Θ own v) (none)
   | _=>none
 | .fn2 f a b,.fn g cs=>match cs with
   | [v,w]=>bt (Aj g f) ( (match a.get κ Θ own v with
     | some x=>match b.get κ Θ own w with
       | some y=>some (x,y)
       | none=>none
     | none=>none)) (none)
   | _=>none
 | .fn3 f a b c,.fn g cs=>match cs with
   | [v, w,u]=>bt (Aj g f) ( (match a.get κ Θ own v with
     | some x=>match b.get κ Θ own w with
       | some y=>match c.get κ Θ own u with
         | some z=>some (x,y,z)
         | none=>none
       | none=>none
     | none=>none)) (none)
   | _=>none
 | _,_=>none
abbrev AK.dft (τ:Nat→El):(a:AK)→a.ty τ
 | .one s=>s.dft τ
 | .agg e=>(τ e).z
 | .ptr e=>(τ e).z
 | .nilp=>()
 | .fn0 _=>()
 | .fn1 _ a=>a.dft τ
 | .fn2 _ a b=>(a.dft τ,b.dft τ)
 | .fn3 _ a b c=>(a.dft τ,b.dft τ,c.dft τ)
abbrev AKL.ty (τ:Nat→El):List AK→Type
 | []=>Unit
 | s::r=>s.ty τ×AKL.ty τ r
abbrev AKL.put (κ:∀ e,Cod τ e):(ss:List AK)→AKL.ty τ ss→List (V τ)
 | [],_=>[]
 | s::r,z=>s.put κ z.1::AKL.put κ r z.2
abbrev AKL.get (κ:∀ e,Cod τ e) (Θ:Th τ) (own:Nat→VE τ):(ss:List AK)→List (V τ)→Ad (AKL.ty τ ss)
 | [],[]=>some ()
 | s :: r,v::vs=>match s.get κ Θ own v with
   | some a=>match AKL.get κ Θ own r vs with
     | some z=>some (a,z)
     | none=>none
   | none=>none
 | _,_=>none
abbrev Sh.mf:Sh→Bool
 | .sl _=>false
 | _=>true
abbrev AK.mf (κ:∀ e,Cod τ e):AK→Bool
 | .one s=>s.mf
 | .agg e=>(κ e).ss.all Sh.mf
 | .nilp=>true
 | _=>false
abbrev RK.ty (τ:Nat→El):List AK→Type
 | []=>Unit
 | [s]=>s.ty τ
 | s::r=>s.ty τ×RK.ty τ r
abbrev RK.put (κ:∀ e,Cod τ e):(ss:List AK)→RK.ty τ ss→List (V τ)
 | [],_=>[]
 | [s],z=>[s.put κ z]
 | s::t::r,z=>s.put κ z.1::RK.put κ (t::r) z.2
abbrev RK.get (κ:∀ e,Cod τ e) (Θ:Th τ) (own:Nat→VE τ):(ss:List AK)→List (V τ)→Ad (RK.ty τ ss)
 | [],[]=>some ()
 | [s],[v]=>s.get κ Θ own v
 | s :: t::r,v::vs=>match s.get κ Θ own v with
   | some a=>match RK.get κ Θ own (t::r) vs with
     | some z=>some (a,z)
     | none=>none
   | none=>none
 | _,_=>none
abbrev RK.dft (τ:Nat→El):(ss:List AK)→RK.ty τ ss
 | []=>()
 | [s]=>s.dft τ
 | s::t::r=>(s.dft τ,RK.dft τ (t::r))
abbrev RK.ret:List (V τ)→V τ
 | [v]=>v
 | vs=>.tup vs

structure CS (τ:Nat→El) where
 acx:List AK
 rs:List AK
 F:AKL.ty τ acx→Ad (RK.ty τ rs)
abbrev bEl:El:=⟨UInt8,rC,0⟩

end
end Go.IL
namespace Go.IL
inductive Ce where
 | pl (k:AK)
 | os (c:Nat) (elt:Ak) (e:Nat)
 | rf (id off:Nat)
 | re (id e k:Nat)
 | nl
 deriving Inhabited
abbrev ren (ρ:List (Nat×Nat)) (i:Nat):Nat:=look i i ρ
abbrev idn (n:Nat):Nat:=n
section
variable {τ:Nat→El}
abbrev Ce.ty (τ:Nat→El):Ce→Type
 | .pl k=>k.ty τ
 | .os _ _ e=>List (τ e).α
 | .rf _ _=>Unit
 | .re _ _ _=>Nat
 | .nl=>Unit
variable (κ:∀ e,Cod τ e)
abbrev Ce.put (σ cn:Nat→Nat):(x:Ce)→x.ty τ→V τ
 | .pl k,a=>k.put κ a
 | .os c _ e,_=>.osl (σ c) e (cn c)
 | .rf id off,_=>.ref (σ id) off
 | .re id e k,i=>.rfe (σ id) i e k
 | .nl,_=>.nils
abbrev Ce.ents (σ cn:Nat→Nat):(x:Ce)→x.ty τ→List (Nat×VE τ)
 | .os c elt e,l=>[(σ c,.lb elt e (cn c) l)]
 | _,_=>[]
abbrev Ce.ths (cn:Nat→Nat):(x:Ce)→x.ty τ→Th τ
 | .os c _ e,l=>[(cn c,⟨e,l⟩)]
 | _,_=>[]
abbrev Ce.get (S:VS τ) (ρ:List (Nat×Nat)):(x:Ce)→V τ→Ad (x.ty τ)
 | .pl k,v=>k.get κ S.Θ (fun _=>.none) v
 | .os c elt e,v=>match v with
   | .osl id e' c'=>match S.ent id with
     | .lb elt' e'' c'' l=>if h:e''=e then bt (Aj e' e&&(Aj elt' elt&&(Aj c'' c'&&Aj (ren ρ c) id))) (some (aAx h l)) none else none
     | _=>none
   | .nils=>match S.ent (ren ρ c) with
     | .fresh=>some []
     | _=>none
   | _=>none
 | .rf id off,v=>match v with
   | .ref id' off'=>bt (Aj id' (ren ρ id)&&Aj off' off) (some ()) none
   | _=>none
 | .re id e k,v=>match v with
   | .rfe id' i e' k'=>bt (Aj id' (ren ρ id)&&(Aj e' e&&Aj k' k)) (some i) none
   | _=>none
 | .nl,v=>match v with
   | .nils=>some ()
   | _=>none
abbrev Ce.rn (q:Nat→Nat) (x:Ce) (v:V τ):List (Nat×Nat):=match x with
 | .os c _ _=>match v with
   | .osl id _ _=>[(c,id)]
   | .nils=>[(c,q c)]
   | _=>[]
 | .rf id _=>match v with
   | .ref id' _=>[(id,id')]
   | _=>[]
 | .re id _ _=>match v with
   | .rfe id' _ _ _=>[(id,id')]
   | _=>[]
 | _=>[]
abbrev Ce.own:Ce→List Nat
 | .os c _ _=>[c]
 | _=>[]
abbrev Ce.refs:Ce→List Nat
 | .rf id _=>[id]
 | .re id _ _=>[id]
 | _=>[]
abbrev CeL.ty (τ:Nat→El):List Ce→Type
 | []=>Unit
 | x::r=>x.ty τ×CeL.ty τ r
abbrev CeL.put (σ cn:Nat→Nat):(l:List Ce)→CeL.ty τ l→List (V τ)
 | [],_=>[]
 | x::r,z=>x.put κ σ cn z.1::CeL.put σ cn r z.2
abbrev CeL.ents (σ cn:Nat→Nat):(l:List Ce)→CeL.ty τ l→List (Nat×VE τ)
 | [],_=>[]
 | x::r,z=>x.ents σ cn z.1++CeL.ents σ cn r z.2
abbrev CeL.ths (cn:Nat→Nat):(l:List Ce)→CeL.ty τ l→Th τ
 | [],_=>[]
 | x::r,z=>x.ths cn z.1++CeL.ths cn r z.2
abbrev CeL.get (S:VS τ) (ρ:List (Nat×Nat)):(l:List Ce)→List (V τ)→Ad (CeL.ty τ l)
 | [],[]=>some ()
 | x :: r,v::vs=>match x.get κ S ρ v with
   | some a=>match CeL.get S ρ r vs with
     | some z=>some (a,z)
     | none=>none
   | none=>none
 | _,_=>none
abbrev CeL.rn (q:Nat→Nat):List Ce→List (V τ)→List (Nat×Nat)
 | x::r,v::vs=>x.rn q v++CeL.rn q r vs
 | _,_=>[]
inductive Wr where
 | one | agg
 | fn (f:BP)
abbrev Wr.put:Wr→List (V τ)→V τ
 | .one,l=>match l with
   | v::_=>v
   | []=>.dead
 | .agg,l=>.agg l
 | .fn f,l=>.fn f l
abbrev Wr.parts:Wr→V τ→Ad (List (V τ))
 | .one,v=>some [v]
 | .agg,v=>match v with
   | .agg l=>some l
   | _=>none
 | .fn f,v=>match v with
   | .fn g l=>bt (Aj g f) (some l) none
   | _=>none
inductive IT where
 | sl (t:Nat) (k:AK)
 | vf (t:Nat) (w:Wr) (cs:List Ce)
 | gs (t c:Nat) (elt:Ak) (e:Nat)
 | bk (id:Nat) (t:Ak) (cs:List Ce)
 | bc (id:Nat) (t:Ak) (e:Nat)
 | bl (id:Nat) (elt:Ak) (e:Nat)
abbrev IT.ty (τ:Nat→El):IT→Type
 | .sl _ k=>k.ty τ
 | .vf _ _ cs=>CeL.ty τ cs
 | .gs _ _ _ e=>List (τ e).α
 | .bk _ _ cs=>CeL.ty τ cs
 | .bc _ _ e=>(τ e).α
 | .bl _ _ e=>List (τ e).α
abbrev ITL.ty (τ:Nat→El):List IT→Type
 | []=>Unit
 | i::r=>i.ty τ×ITL.ty τ r
abbrev IT.rn (S:VS τ) (q:Nat→Nat) (ρ:List (Nat×Nat)):IT→List (Nat×Nat)
 | .vf t w cs=>match S.get t with
   | .v v=>match w.parts v with
     | some l=>CeL.rn q cs l
     | none=>[]
   | _=>[]
 | .gs t c _ _=>match S.get t with
   | .v (.gsl id _)=>[(c,id)]
   | .v .nils=>[(c,q c)]
   | _=>[]
 | .bk id t cs=>match S.ent (ren ρ id) with
   | .blk _ vs=>CeL.rn q cs vs
   | _=>[]
 | _=>[]
abbrev ITL.rn (S:VS τ) (q:Nat→Nat):List IT→List (Nat×Nat)→List (Nat×Nat)
 | [],ρ=>ρ
 | i::r,ρ=>ITL.rn S q r (i.rn S q ρ++ρ)
abbrev IT.get (S:VS τ) (ρ:List (Nat×Nat)):(i:IT)→Ad (i.ty τ)
 | .sl t k=>match S.get t with
   | .v v=>k.get κ S.Θ (fun _=>.none) v
   | .gb n=>k.get κ S.Θ (fun _=>.none) (.bool (S.Γ.at n))
   | _=>none
 | .vf t w cs=>match S.get t with
   | .v v=>match w.parts v with
     | some l=>CeL.get κ S ρ cs l
     | none=>none
   | _=>none
 | .gs t c elt e=>match S.get t with
   | .v (.gsl id e')=>match S.ent id with
     | .tail elt' e'' c'=>bt (Aj e' e&&(Aj e'' e&&(Aj elt' elt&&(Aj c' id&&Aj (ren ρ c) id)))) (some (S.Θ.at id e)) (none)
     | _=>none
   | .v .nils=>match S.ent (ren ρ c) with
     | .fresh=>some []
     | _=>none
   | _=>none
 | .bk id t cs=>match S.ent (ren ρ id) with
   | .blk t' vs=>bt (Aj t' t) (CeL.get κ S ρ cs vs) (none)
   | _=>none
 | .bc id t e=>match S.ent (ren ρ id) with
   | .blk t' cs=>bt (Aj t' t) ((κ e).get S.Θ (fun _=>.none) cs) (none)
   | _=>none
 | .bl id elt e=>match S.ent (ren ρ id) with
   | .lb elt' e' _ l=>if h:e'=e then bt (Aj elt' elt) (some (aAx h l)) none else none
   | _=>none
abbrev ITL.get (S:VS τ) (ρ:List (Nat×Nat)):(l:List IT)→Ad (ITL.ty τ l)
 | []=>some ()
 | i :: r=>match i.get κ S ρ with
   | some a=>match ITL.get S ρ r with
     | some z=>some (a,z)
     | none=>none
   | none=>none
abbrev IT.sls (σ cn:Nat→Nat):(i:IT)→i.ty τ→List (Nat×Sv τ)
 | .sl t k,a=>[(t,.v (k.put κ a))]
 | .vf t w cs,a=>[(t,.v (w.put (CeL.put κ σ cn cs a)))]
 | .gs t c elt e,_=>[(t,.v (.gsl c e))]
 | _,_=>[]
abbrev IT.ents (σ cn:Nat→Nat):(i:IT)→i.ty τ→List (Nat×VE τ)
 | .vf t w cs,a=>CeL.ents σ cn cs a
 | .gs t c elt e,_=>[(c,.tail elt e c)]
 | .bk id t cs,a=>(σ id,.blk t (CeL.put κ σ cn cs a))::CeL.ents σ cn cs a
 | .bc id t e,a=>[(σ id,.blk t ((κ e).put a))]
 | .bl id elt e,a=>[(σ id,.lb elt e (cn id) a)]
 | _,_=>[]
abbrev IT.ths (cn:Nat→Nat):(i:IT)→i.ty τ→Th τ
 | .vf t w cs,a=>CeL.ths cn cs a
 | .gs t c elt e,l=>[(c,⟨e,l⟩)]
 | .bk id t cs,a=>CeL.ths cn cs a
 | .bl id elt e,l=>[(cn id,⟨e,l⟩)]
 | _,_=>[]
abbrev ITL.sls (σ cn:Nat→Nat):(l:List IT)→ITL.ty τ l→List (Nat×Sv τ)
 | [],_=>[]
 | i::r,z=>i.sls κ σ cn z.1++ITL.sls σ cn r z.2
abbrev ITL.ents (σ cn:Nat→Nat):(l:List IT)→ITL.ty τ l→List (Nat×VE τ)
 | [],_=>[]
 | i::r,z=>i.ents κ σ cn z.1++ITL.ents σ cn r z.2
abbrev ITL.ths (cn:Nat→Nat):(l:List IT)→ITL.ty τ l→Th τ
 | [],_=>[]
 | i::r,z=>i.ths cn z.1++ITL.ths cn r z.2
abbrev IT.own:IT→List Nat
 | .vf _ _ cs=>cs.flatMap Ce.own
 | .gs _ c _ _=>[c]
 | .bk id _ cs=>id::cs.flatMap Ce.own
 | .bc id _ _=>[id]
 | .bl id _ _=>[id]
 | _=>[]
abbrev IT.gsn:IT→List Nat
 | .vf _ _ cs=>cs.flatMap Ce.own
 | .gs _ c _ _=>[c]
 | .bk id _ cs=>cs.flatMap Ce.own
 | .bl id _ _=>[id]
 | _=>[]
abbrev IT.refs:IT→List Nat
 | .vf _ _ cs=>cs.flatMap Ce.refs
 | .bk _ _ cs=>cs.flatMap Ce.refs
 | _=>[]
abbrev IT.slots:IT→List Nat
 | .sl t _=>[t]
 | .vf t _ _=>[t]
 | .gs t _ _ _=>[t]
 | _=>[]
abbrev IT.nog:IT→Bool
 | .gs _ _ _ _=>false
 | _=>true
abbrev wZ:List Nat→Bool
 | []=>true
 | a::r=>!r.contains a&&wZ r
abbrev aFv (l:List IT):Bool :=
 wZ (l.flatMap IT.own)&&((l.flatMap IT.refs).all (fun i=>(l.flatMap IT.own).contains i)&&l.all (fun i=>match i with | .gs _ c _ _=>!AT 1000 c | _=>true))
abbrev ITL.st (l:List IT) (nid:Nat) (z:ITL.ty τ l):VS τ:=⟨ITL.sls κ idn idn l z,ITL.ents κ idn idn l z,[],ITL.ths idn l z,nid,false,[]⟩
abbrev ITL.arr (l:List IT) (S:VS τ):Ad (ITL.ty τ l) :=
 vF (ITL.rn S (fun c=>S.nid+c) l []) fun ρ=>match ITL.get κ S ρ l with
 | some z=>bt (aFv l&&(wZ ((l.flatMap IT.own).map (ren ρ))&&ρ.all (fun p=>bt (AT 1000 p.1) (Aj p.2 p.1) true))) (some z) (none)
 | none=>none
end
structure HS (τ:Nat→El) where
 l:List IT
 acx:Nat
 nb:Nat
 o:List IT
 rs:Nat
 nn:Nat
 R:Type
 mak:ITL.ty τ o→R
 un:ITL.ty τ l→R→ITL.ty τ o
 F:ITL.ty τ l→Ad R
abbrev HS.wf {τ:Nat→El} (h:HS τ):Bool :=
 (aFv h.l&&aFv h.o)&&((h.l.all IT.nog&&h.o.all IT.nog)&&((decide (h.l.flatMap IT.slots=Bx h.acx)&&decide (h.o.flatMap IT.slots=Bx h.rs)) &&
 (((h.l.flatMap IT.own).all (fun i=>AT 1000 i&&Gq i (1000+h.nb))&&(Bx h.nb).all (fun j=>(h.l.flatMap IT.own).contains (1000+j))) &&
 (h.o.flatMap IT.own).all (fun i=>Gq i h.nn||(AT 1000 i&&Gq i (1000+h.nb))))))
structure Cx where
 P:An
 τ:Nat→El
 b0:τ 0=bEl
 κ:∀ e,Cod τ e
 ec:Nat→Nat
 ow:Nat→Bool
 fs:List (BP×CS τ)
 hs:List (BP×HS τ)
end Go.IL
open Go.IL.AKL renaming get → EE
open Go.IL.IT renaming own → CY
open Go.IL.ITL renaming ents → CZ,get → GS,sls → Dd,ths → BS,ty → BN
open Go.IL.RK renaming put → DS,ret → Hs
open Go.IL.Sh renaming get → Hp
open Go.IL.ShL renaming firm8 → Gu,ty → FN
open Go.IL.V renaming ofVal → Ft
namespace Go.IL
section
variable {R:Type}
abbrev KK (τ:Nat→El) (R:Type):=V τ→List (Nat×VE τ)→Th τ→Ad R

abbrev binI {τ:Nat→El} (op:BinOp) (k:IntKind) (a b:Int):Ad (V τ):=match op with
 | .add=>some (.int k (k.wrap (a+b)))
 | .sub=>some (.int k (k.wrap (a-b)))
 | .mul=>some (.int k (k.wrap (a*b)))
 | .and=>some (.int k (andI k a b))
 | .or=>some (.int k (orI k a b))
 | .xor=>some (.int k (xorI k a b))
 | .andNot=>some (.int k (anotI k a b))
 | .eql=>some (.bool (decide (a=b)))
 | .neq=>some (.bool (!decide (a=b)))
 | .lss=>some (.bool (decide (a<b)))
 | .leq=>some (.bool (decide (a≤b)))
 | .gtr=>some (.bool (decide (b<a)))
 | .geq=>some (.bool (decide (b≤a)))
 | _=>none
abbrev parI (op:BinOp) (k:IntKind) (a b:Int):Ad (Ad Int):=match op with
 | .quo=>some (quoI k a b)
 | .rem=>some (remI a b)
 | .shl=>some (shlI k a b)
 | .shr=>some (shrI k a b)
 | _=>none
abbrev aFe:BinOp→Bool
 | .shl | .shr=>true
 | _=>false
abbrev isNil {τ:Nat→El}:V τ→Ad Bool
 | .nilp=>some true
 | .ref _ _ | .rfe _ _ _ _ | .fptr _=>some false
 | _=>none

abbrev ldV {τ:Nat→El} {β:Type} (agg:Bool) (n:Nat) (cs:List (V τ)) (k:V τ→Ad β):Ad β :=
 match agg with
 | true=>vF (cs.take n) fun l=>k (.agg l)
 | false=>match cs with
   | v::_=>fv v k
   | []=>none

abbrev aHt {τ:Nat→El} (P:An) (T:Ak) (cs:List (V τ)) (off:Nat):Ad (V τ):=match P.underlying T,P.info? T with
 | some _,some i=>bt (AT (off+i.size) cs.length&&AT 1 i.size) (ldV (gP P T) i.size (cs.drop off) some) none
 | _,_=>none
abbrev V.asB {τ:Nat→El}:V τ→Ad Bool
 | .bool b=>some b
 | .lit b=>some b
 | _=>none
abbrev eqCV {τ:Nat→El} (u:Ad TypeDesc) (x y:V τ):Ad Bool:=match u with
 | some (.int _)=>match x.asI,y.asI with
   | some (k,a),some (k',b)=>bt (ikeq k k') (some (decide (a=b))) none
   | _,_=>none
 | some .bool=>match x.asB,y.asB with
   | some a,some b=>some (a == b)
   | _,_=>none
 | some .string=>match x,y with
   | .str a,.str b=>some (decide (a=b))
   | _,_=>none
 | _=>none
abbrev eqFV {τ:Nat→El} (P:An) (cmp:Ak→V τ→V τ→Ad Bool) (ds es:List (V τ)):List Field→Ad Bool
 | []=>some true
 | f :: fs => bt (f.name == "_") none (match aHt P f.type ds f.offset, aHt P f.type es f.offset with
   | some d,some e=>match cmp f.type d e with
     | some b=>match eqFV P cmp ds es fs with
       | some b'=>some (b&&b')
       | none=>none
     | none=>none
   | _,_=>none)
abbrev eqAV {τ:Nat→El} (P:An) (cmp:V τ→V τ→Ad Bool) (el:Ak) (sz:Nat) (ds es:List (V τ)):Nat→Nat→Ad Bool
 | .zero,_=>some true
 | .succ m,i=>match aHt P el ds (i*sz),aHt P el es (i*sz) with
   | some d,some e=>match cmp d e with
     | some b=>match eqAV P cmp el sz ds es m (i+1) with
       | some b'=>some (b&&b')
       | none=>none
     | none=>none
   | _,_=>none
abbrev eqTV {τ:Nat→El} (P:An):Nat→Ak→V τ→V τ→Ad Bool
 | .zero,_,_,_=>none
 | .succ k,t,d,e=>match P.underlying t with
   | some (.struct fs)=>match d,e with
     | .agg ds,.agg es=>bt (P.stoodInHeld t) none (eqFV P (eqTV P k) ds es fs.toList)
     | _,_=>none
   | some (.array n el)=>match d,e with
     | .agg ds,.agg es=>match P.info? el with
       | some i=>eqAV P (eqTV P k el) el i.size ds es n 0
       | none=>none
     | _,_=>none
   | u=>eqCV u d e

abbrev binE {τ:Nat→El} (Γ:Ga) (G:Gd) (op:BinOp) (xt:Ak) (x y:V τ) (P:An) (k:KK τ R):Ad R :=
 match x,y with
 | .str a,.str b=>match op with
   | .add=>pt Γ G (cat a b) [] fun c=>k (.str c) [] []
   | .eql=>k (.bool (decide (a=b))) [] []
   | .neq=>k (.bool (!decide (a=b))) [] []
   | _=>none
 | .bool a,.bool b=>match P.underlying xt,op with
   | some .bool,.eql=>k (.bool (a == b)) [] []
   | some .bool,.neq=>k (.bool (!(a == b))) [] []
   | _,_=>none
 | .agg a,.agg b=>bt (P.eqGuardType P.depth xt) none (match eqTV P 9 xt (.agg a) (.agg b) with
   | some z=>match op with
     | .eql=>k (.bool z) [] []
     | .neq=>k (.bool (!z)) [] []
     | _=>none
   | none=>none)
 | x,y=>match x.asI,y.asI with
   | some (ka,a),some (kb,b)=>match parI op ka a b with
     | some e=>bt (aFe op||ikeq ka kb) (pt Γ G e 0 fun c=>k (.int ka c) [] []) (none)
     | none=>bt (ikeq ka kb) ((match binI op ka a b with | some v=>k v [] [] | none=>none)) (none)
   | _,_=>match P.underlying xt,isNil x,y with
     | some (.pointer _),some b,.nilp=>match op with
       | .eql=>k (.lit b) [] []
       | .neq=>k (.lit (!b)) [] []
       | _=>none
     | _,_,_=>none

abbrev loadE (C:Cx) (Γ:Ga) (G:Gd) (S:VS C.τ) (T:Ak) (p:V C.τ) (k:KK C.τ R):Ad R :=
 match C.P.info? T,C.P.underlying T with
 | some i,some _=>match p with
   | .ref id off=>match S.ent id with
     | .blk _ cs=>bt (AT 1 i.size&&AT (off+i.size) cs.length) (ldV (gP C.P T) i.size (cs.drop off) fun v=>k v [] []) (none)
     | _=>none
   | .fptr cs=>bt (AT 1 i.size&&AT i.size cs.length) (ldV (gP C.P T) i.size cs fun v=>k v [] []) (none)
   | .rfe id j e o=>match S.ent id with
     | .lb _ e' _ l=>bt (Aj e' e&&(AT 1 i.size&&AT (o+i.size) (C.τ e').E.sz)) (
      pt Γ G l[j]? (C.τ e').z fun a=>ldV (gP C.P T) i.size (((C.κ e').put a).drop o) fun v=>k v [] []) (none)
     | _=>none
   | _=>none
 | _,_=>none

abbrev spl {α β:Type} (cs:List α) (off:Nat) (new:List α) (k:List α→β):β:=vF (cs.take off++new++cs.drop (off+new.length)) k

abbrev optK {α β:Type} (o:Ad α) (k:α→Ad β):Ad β:=match o with
 | some a=>k a
 | none=>none
abbrev Sh.getK {τ:Nat→El} (Γ:Ga) (G:Gd) (Θ:Th τ) (s:Sh) (v:V τ) (k:s.ty τ→Ad R):Ad R:=match s with
 | .u8=>match v with
   | .int i n=>bt (ikeq .u8 i) (pt Γ G (toU8 n) 0 k) none
   | v=>optK (Hp Θ (fun _=>.none) .u8 v) k
 | s=>optK (Hp Θ (fun _=>.none) s v) k
abbrev ShL.getK {τ:Nat→El} (Γ:Ga) (G:Gd) (Θ:Th τ):(ss:List Sh)→List (V τ)→(FN τ ss→Ad R)→Ad R
 | [],[],k=>k ()
 | s::r,v::vs,k=>s.getK Γ G Θ v fun a=>ShL.getK Γ G Θ r vs fun z=>k (a,z)
 | _,_,_=>none
abbrev Cod.getK {τ:Nat→El} {e:Nat} (c:Cod τ e) (Γ:Ga) (G:Gd) (Θ:Th τ) (vs:List (V τ)) (k:(τ e).α→Ad R):Ad R:=ShL.getK Γ G Θ c.ss vs fun z=>k (c.ma z)
abbrev aIT (C:Cx) (S:VS C.τ) (T:Ak) (p v:V C.τ) (k:KK C.τ R):Ad R :=
 match C.P.info? T with
 | some i=>bt (v.boxable&&(Aj v.cells.length i.size&&v.cells.all V.one)) ( (match p with
   | .ref id off=>match S.ent id with
     | .blk t cs=>bt (AT (off+i.size) cs.length) (spl cs off v.cells fun cs'=>k .dead [(id,.blk t cs')] []) (none)
     | _=>none
   | .rfe id j e o=>match S.ent id with
     | .lb t e' c l=>bt (Aj e' e&&AT (o+i.size) (C.τ e').E.sz) (
      bno l[j]? fun a=>spl ((C.κ e').put a) o v.cells fun cs'=>bt (Gu (C.κ e').ss cs') ((C.κ e').getK [] [] S.Θ cs' fun a'=>k .dead [(id,.lb t e' c (l.set j a'))] []) none) (none)
     | _=>none
   | _=>none)) (none)
 | none=>none

abbrev fieldAt (P:An) (T:Ak) (i:Nat):Ad (Nat×Ak×Nat) :=
 match P.underlying T with
 | some (.struct fs)=>match fs[i]? with
   | some F=>match P.info? F.type with
     | some fi=>bt (AT 1 fi.size) (some (F.offset,F.type,fi.size)) (none)
     | none=>none
   | none=>none
 | _=>none
abbrev faE {τ:Nat→El} (P:An) (T:Ak) (p:V τ) (i:Nat) (k:KK τ R):Ad R :=
 match fieldAt P T i with
 | some (off,_,size)=>match p with
   | .ref id o=>k (.ref id (o+off)) [] []
   | .rfe id j e o=>k (.rfe id j e (o+off)) [] []
   | .fptr cs=>vF ((cs.drop off).take size) fun l=>k (.fptr l) [] []
   | _=>none
 | none=>none
abbrev fldE {τ:Nat→El} (P:An) (T:Ak) (p:V τ) (i:Nat) (k:KK τ R):Ad R :=
 match fieldAt P T i with
 | some (off,T',size)=>match P.underlying T',p with
   | some _,.agg cs=>bt (AT (off+size) cs.length) (ldV (gP P T') size (cs.drop off) fun v=>k v [] []) (none)
   | _,_=>none
 | none=>none

abbrev asL (C:Cx) (Θ:Th C.τ) (elt:Ak):V C.τ→Ad (TL C.τ)
 | .sl _ e l=>some ⟨e,l⟩
 | .gsl id e=>some ⟨e,Θ.at id e⟩
 | .nils=>some ⟨C.ec elt,[]⟩
 | _=>none
abbrev zM (P:An) (T:Ak) (n:Nat):Bool:=match P.info? T with
 | some i=>Aj i.size n
 | none=>false
abbrev aKu (P:An) (T:Ak) (n:Nat):Bool:=match P.info? T with
 | some i=>Aj i.size n&&i.zero.isSome
 | none=>false

abbrev idxE (C:Cx) (Γ:Ga) (G:Gd) (S:VS C.τ) (pe:Nat→VE C.τ) (T:Ak) (x y:V C.τ) (k:KK C.τ R):Ad R :=
 match C.P.underlying T,y.asI with
 | some (.slice elt),some (_,n)=>match x with
   | .osl id e c=>match pe id with
     | .lb _ e' c' l=>bt (Aj e' e&&(Aj c' c&&zM C.P elt (C.τ e').E.sz)) (pt Γ G (gix l n) (C.τ e').z fun _=>k (.rfe id n.toNat e' 0) [] []) (none)
     | _=>none
   | x=>match asL C S.Θ elt x with
     | some ⟨e,l⟩=>bt (zM C.P elt (C.τ e).E.sz) (pt Γ G (gix l n) (C.τ e).z fun a=>vF ((C.κ e).put a) fun cs=>k (.fptr cs) [] []) (none)
     | none=>none
 | _,_=>none
abbrev ixE (C:Cx) (Γ:Ga) (G:Gd) (S:VS C.τ) (T:Ak) (x y:V C.τ) (k:KK C.τ R):Ad R :=
 match C.P.underlying T,x,y.asI with
 | some .string,.str l,some (_,n)=>pt Γ G (gix l n) 0 fun c=>k (.u8 c) [] []
 | _,_,_=>none

abbrev bdE {τ:Nat→El} (z:Int) (f:Ag→V τ):Ad Ag→Ad Int
 | none=>some z
 | some x=>match (f x).asI with
   | some (_,n)=>some n
   | none=>none
abbrev slcE (C:Cx) (Γ:Ga) (G:Gd) (S:VS C.τ) (T:Ak) (x:Ag) (lo hi:Ad Ag) (k:KK C.τ R):Ad R :=
 match S.rd G x with
 | .str l=>match C.P.underlying T,bdE 0 (S.rd G) lo,bdE (l.length:Int) (S.rd G) hi with
   | some .string,some a,some b=>pt Γ G (cut l a b) [] fun r=>k (.str r) [] []
   | _,_,_=>none
 | v => match C.P.underlying T with
   | some (.slice elt)=>match asL C S.Θ elt v with
     | some ⟨e,l⟩=>match bdE 0 (S.rd G) lo,bdE (l.length:Int) (S.rd G) hi with
       | some a,some b=>bt (zM C.P elt (C.τ e).E.sz) (pt Γ G (cut l a b) [] fun r=>k (.sl false e r) [] []) (none)
       | _,_=>none
     | none=>none
   | _=>none

abbrev aJ0 {τ:Nat→El} (place:Nat→Ad (Nat×Nat)) (f:Ag→V τ) (cells:List (V τ)):List (Nat×Ag)→Ad (List (V τ))
 | []=>some cells
 | (i,x)::rest=>match place i with
   | none=>none
   | some (off,size) =>
     let v:=f x
     bt (v.boxable&&(Aj v.cells.length size&&AT (off+size) cells.length)) (spl cells off v.cells fun cs=>aJ0 place f cs rest) (none)
abbrev places (P:An):List Field→Ad (List (Nat×Nat))
 | []=>some []
 | f :: r=>match P.info? f.type with
   | some i=>match places P r with
     | some l=>some ((f.offset,i.size)::l)
     | none=>none
   | none=>none
abbrev aKn {τ:Nat→El} (P:An) (T:Ak):Ad (List (V τ)):=match P.info? T with
 | some i=>match i.zero with
   | some z=>match (Ft z:V τ) with
     | .dead=>none
     | .tup _=>none
     | v=>some v.cells
   | none=>none
 | none=>none
abbrev aKX (C:Cx) (G:Gd) (S:VS C.τ) (T:Ak) (ps:List (Nat×Ag)) (k:KK C.τ R):Ad R :=
 match C.P.underlying T with
 | some (.struct fs)=>match places C.P fs.toList,aKn C.P T with
   | some l,some z=>match aJ0 (fun i=>l[i]?) (S.rd G) z ps with
     | some cs=>k (.agg cs) [] []
     | none=>none
   | _,_=>none
 | _=>none

abbrev aE2 (C:Cx) (Γ:Ga) (G:Gd) (Θ:Th C.τ) (e:Nat) (f:Ag→V C.τ):List (Nat×Ag)→Nat→(List (C.τ e).α→Ad R)→Ad R
 | [],_,k=>k []
 | (i,x)::r,n,k=>bt (Aj i n&&(f x).boxable) ((C.κ e).getK Γ G Θ (f x).cells fun a=>aE2 C Γ G Θ e f r (n+1) fun l=>k (a::l)) (none)
abbrev xC {τ:Nat→El} (S:VS τ):Bool:=match S.ent S.nid with
 | .fresh=>true
 | _=>false

abbrev lenE (C:Cx) (S:VS C.τ) (T:Ak) (x:V C.τ) (k:KK C.τ R):Ad R :=
 match C.P.underlying T with
 | some .string=>match x with
   | .str l=>k (.int .i64 (l.length:Int)) [] []
   | _=>none
 | some (.array n _)=>k (.int .i64 (n:Int)) [] []
 | some (.slice elt)=>match x with
   | .osl _ e c=>k (.int .i64 (S.Θ.len c e:Int)) [] []
   | x=>match asL C S.Θ elt x with
     | some ⟨_,l⟩=>k (.int .i64 (l.length:Int)) [] []
     | none=>none
 | _=>none

abbrev opEq (x y:Ag):Bool:=match x with
 | .tmp a=>match y with
   | .tmp b=>Aj a b
   | _=>false
 | .const v=>match v with
   | .int k n=>match y with
     | .const w=>match w with
       | .int k' n'=>ikeq k k'&&decide (n=n')
       | _=>false
     | _=>false
   | _=>false
 | _=>false
abbrev srcE (C:Cx) (S:VS C.τ) (elt:Ak) (y0 y:V C.τ):Ad (TL C.τ):=match y0 with
 | .osl id e c=>match S.ent id with
   | .lb _ e2 c2 l=>if h:e2=e then bt (Aj c2 c) (some ⟨e,aAx h l⟩) none else none
   | _=>none
 | _=>asL C S.Θ elt y
abbrev isPl {τ:Nat→El} (y:V τ):Bool:=match y with
 | .osl _ _ _=>false
 | _=>true
abbrev makE (C:Cx) (Γ:Ga) (G:Gd) (S:VS C.τ) (T:Ak) (n:V C.τ) (k:KK C.τ R):Ad R :=
 match C.P.underlying T with
 | some (.slice elt)=>match C.P.info? elt with
   | some i=>match i.zero with
     | some z=>match n.asI with
       | some (_,n)=>vF ((Ft z:V C.τ).cells) fun zs=>bt (xC S&&(Aj i.size (C.τ (C.ec elt)).E.sz&&(Aj z.cells.size i.size&&(Ft z:V C.τ).boxable))) (
        match (C.κ (C.ec elt)).get S.Θ (fun _=>.none) zs with
        | some a=>pt Γ G (made i.bytes n a) [] fun xs=>k (.osl S.nid (C.ec elt) S.nid) [(S.nid,.lb elt (C.ec elt) S.nid xs)] [(S.nid,⟨C.ec elt,xs⟩)]
        | none=>none) none
       | none=>none
     | none=>none
   | none=>none
 | _=>none
abbrev copE (C:Cx) (S:VS C.τ) (T:Ak) (x y0 y:V C.τ) (k:KK C.τ R):Ad R :=
 match C.P.underlying T with
 | some (.slice elt)=>match x with
   | .osl id e c=>match S.ent id with
     | .lb t2 e2 c2 l=>if h:e2=e then bt (Aj c2 c&&zM C.P elt (C.τ e).E.sz) (match srcE C S elt y0 y with
       | some ⟨e3,ys⟩=>if h3:e3=e then k (.int .i64 ((min (aAx h3 ys).length (aAx h l).length:Nat):Int)) [(id,.lb t2 e c (cpy (aAx h l) (aAx h3 ys)))] [] else none
       | none=>none) none else none
     | _=>none
   | _=>none
 | _=>none
abbrev appE (C:Cx) (Γ:Ga) (G:Gd) (S:VS C.τ) (T:Ak) (x y0 y:V C.τ) (k:KK C.τ R):Ad R :=
 match C.P.underlying T with
 | some (.slice elt)=>match C.P.info? elt,srcE C S elt y0 y with
   | some i,some ⟨e,ys⟩=>bt (xC S&&(Aj i.size (C.τ e).E.sz&&(match i.zero with | some z=>Aj z.cells.size i.size | none=>false))) (
    match x with
    | .nils=>bt (C.ow elt) (pt Γ G (app i.bytes [] ys) [] fun zs=>k (.osl S.nid e S.nid) [(S.nid,.lb elt e S.nid zs)] [(S.nid,⟨e,zs⟩)])<|bt (isPl y0) (pt Γ G (app i.bytes [] ys) [] fun zs=>k (.gsl S.nid e) [(S.nid,.tail elt e S.nid)] [(S.nid,⟨e,zs⟩)]) none
    | .gsl id e'=>bt (Aj e' e&&isPl y0) ( match S.ent id with
     | .tail t2 e2 c2=>bt (Aj t2 elt&&(Aj e2 e&&Aj c2 id)) (
      pt Γ G (app i.bytes (S.Θ.at id e) ys) [] fun zs=>k (.gsl S.nid e) [(S.nid,.tail elt e S.nid),(id,.none)] [(S.nid,⟨e,zs⟩)]) (none)
     | _=>none) (none)
    | .osl id e' c=>match S.ent id with
      | .lb t2 e2 c2 l=>if h:e2=e then bt (Aj e' e&&(Aj t2 elt&&Aj c2 c)) (
       pt Γ G (app i.bytes (aAx h l) ys) [] fun zs=>k (.osl S.nid e S.nid) [(S.nid,.lb elt e S.nid zs),(id,.none)] [(S.nid,⟨e,zs⟩)]) none else none
      | _=>none
    | .sl f e' l=>match f with
      | true=>if h:e'=e then match ys with
        | []=>none
        | y0::yr=>pt Γ G (app i.bytes (aAx h l) (y0::yr)) [] fun zs=>k (.osl S.nid e S.nid) [(S.nid,.lb elt e S.nid zs)] [(S.nid,⟨e,zs⟩)]
        else none
      | false=>none
    | _=>none) (none)
   | _,_=>none
 | _=>none

abbrev zipF {τ:Nat→El}:Nat→List (V τ)→List (Nat×Sv τ)
 | _,[]=>[]
 | n,v::r=>(n,.v v)::zipF (n+1) r
abbrev sigE (A:List Nat) (k:Nat) (i:Nat):Nat:=bt (AT 1000 i) (A.getD (i-1000) 0) (k+i)
abbrev cnE (k nn:Nat) (i:Nat):Nat:=bt (AT 1000 i) (k+nn+(i-1000)) (k+i)
abbrev aFm {τ:Nat→El} (S:VS τ) (i:Nat):Bool:=match S.ent i with
 | .fresh=>true
 | _=>false
abbrev Sv.val {τ:Nat→El}:Sv τ→V τ
 | .v x=>x
 | _=>.dead
abbrev VS.arg {τ:Nat→El} (S:VS τ) (vs:List (V τ)):VS τ:=⟨zipF 0 vs,S.H,S.Γ,S.Θ,S.nid,S.shut,S.Φ⟩
abbrev aNI (C:Cx) (S:VS C.τ) (h:HS C.τ) (A:List Nat) (z:BN C.τ h.l) (k:KK C.τ R):Ad R :=
 bno (h.F z) fun y=>vF ((Dd C.κ (sigE A S.nid) (cnE S.nid h.nn) h.o (h.un z y)).map fun x=>x.2.val) fun vs =>
  vF (CZ C.κ (sigE A S.nid) (cnE S.nid h.nn) h.o (h.un z y)++(h.l.flatMap CY).map (fun i=>(sigE A S.nid i,VE.none))) fun ui =>
   vF (BS (cnE S.nid h.nn) h.o (h.un z y)) fun θ=>k (Hs vs) ui θ
abbrev aDs (C:Cx) (S:VS C.τ) (f:BP) (vs:List (V C.τ)) (k:KK C.τ R):List (BP×HS C.τ)→Ad R
 | []=>none
 | (g, h)::r=>bt (Aj g f&&Aj vs.length h.acx) (vF (ITL.rn (S.arg vs) (fun c=>S.nid+32+(c-1000)) h.l []) fun ρ =>
     match GS C.κ (S.arg vs) ρ h.l with
     | some z=>vF ((Bx h.nb).map fun j=>ren ρ (1000+j)) fun A =>
      bt (wZ A&&(wZ ((h.l.flatMap CY).map (ren ρ))&&((Bx h.nn).all (fun j=>aFm S (S.nid+j) && !A.contains (S.nid+j))&&(AT (S.nid+h.nn) 1000&&wZ ((h.o.flatMap IT.gsn).map (cnE S.nid h.nn))))))
       (aNI C S h A z k) none
     | none=>aDs C S f vs k r) (aDs C S f vs k r)
abbrev aFA (C:Cx) (Γ:Ga) (G:Gd) (S:VS C.τ) (f:BP) (vs:List (V C.τ)) (k:KK C.τ R):List (BP×CS C.τ)→Ad R
 | []=>match G with
   | []=>aDs C S f vs k C.hs
   | _=>none
 | (g,c)::r=>bt (Aj g f) ( (match EE C.κ S.Θ (fun _=>.none) c.acx vs with
   | some z=>pt Γ G (c.F z) (RK.dft C.τ c.rs) fun y=>vF (DS C.κ c.rs y) fun l=>k (Hs l) [] []
   | none=>match EE C.κ S.Θ S.ent c.acx vs with
     | some z=>bt (c.rs.all (AK.mf C.κ)) (pt Γ G (c.F z) (RK.dft C.τ c.rs) fun y=>vF (DS C.κ c.rs y) fun l=>k (Hs l) [] []) (aFA C Γ G S f vs k r)
     | none=>aFA C Γ G S f vs k r)) (aFA C Γ G S f vs k r)
abbrev aLu (C:Cx) (Γ:Ga) (G:Gd) (S:VS C.τ) (f:BP) (vs:List (V C.τ)) (k:KK C.τ R):Ad R:=aFA C Γ G S f vs k C.fs

abbrev aHr {τ:Nat→El} (S:VS τ) (x y:Ag) (k:KK τ R) (b:Bool) (gx gy:List Gd):Ad R:=match S.rdg gx x,S.rdg gy y with
 | .bool u,.bool v=>k (.bool (bif b then u else v)) [] []
 | _,_=>none
abbrev pickE {τ:Nat→El} (S:VS τ) (G:Gd) (c x y:Ag) (k:KK τ R):Ad R :=
 match c with
 | .tmp t=>match S.get t with
   | .v (.bool b)=>aHr S x y k b [G] [G]
   | .gb i=>aHr S x y k (S.Γ.at i) [G,G++[(i,true)]] [G,G++[(i,false)]]
   | .cgb g i=>bt (Gd.eq g G) (aHr S x y k (S.Γ.at i) [G,G++[(i,true)]] [G,G++[(i,false)]]) (none)
   | .cnd g (.bool b)=>bt (Gd.eq g G) (aHr S x y k b [G] [G]) (none)
   | _=>none
 | _=>none

abbrev castB (C:Cx) (l:List (C.τ 0).α):List Ai:=cast (Bv (fun t:El=>List t.α) C.b0) l
abbrev aNG (C:Cx) (l:List Ai):List (C.τ 0).α:=cast (Bv (fun t:El=>List t.α) C.b0.symm) l
abbrev convE (C:Cx) (S:VS C.τ) (s d:Ak) (x:V C.τ) (k:KK C.τ R):Ad R :=
 match C.P.underlying s,C.P.underlying d with
 | some us,some (.int k')=>match x.asI with
   | some (_,n)=>k (.int k' (k'.wrap n)) [] []
   | _=>none
 | some (.slice e),some .string=>match C.P.underlying e with
   | some (.int .u8)=>match asL C S.Θ e x with
     | some ⟨0,l⟩=>k (.str (castB C l)) [] []
     | _=>none
   | _=>none
 | some .string,some (.slice e)=>match C.P.underlying e,x with
   | some (.int .u8),.str l=>k (.sl false 0 (aNG C l)) [] []
   | _,_=>none
 | _,_=>none

abbrev opE (C:Cx) (G:Gd) (S:VS C.τ) (pe:Nat→VE C.τ) (o:Op) (k:KK C.τ R):Ad R :=
 match o with
 | .move x=>fv (S.rd G x) fun v=>k v [] []
 | .assign x=>fv (S.rd G x) fun v=>k v [] []
 | .binOp op xt x y _=>binE S.Γ G op xt (S.rd G x) (S.rd G y) C.P k
 | .unOp u _ x=>match u,S.rd G x with
   | .not,.bool b=>match S.raw x with
     | .lit _=>k (.lit (!b)) [] []
     | _=>k (.bool (!b)) [] []
   | .neg,.int k' n=>k (.int k' (k'.wrap (0-n))) [] []
   | _,_=>none
 | .pick c x y=>pickE S G c x y k
 | .convert s d x=>convE C S s d (S.rd G x) k
 | .load T x=>loadE C S.Γ G S T (S.rd G x) k
 | .store T x y=>aIT C S T (S.rd G x) (S.rd G y) k
 | .box t x=>let v:=S.rd G x; bt (v.boxable&&xC S) (k (.ref S.nid 0) [(S.nid,.blk t v.cells)] []) (none)
 | .alloc t=>bt (xC S) ( match aKn C.P t with
  | some cs=>vF cs fun cs=>k (.ref S.nid 0) [(S.nid,.blk t cs)] []
  | none=>none) (none)
 | .nilCheck x=>match S.rd G x with
   | .ref id o=>k (.ref id o) [] []
   | .rfe id j e o=>k (.rfe id j e o) [] []
   | .fptr cs=>k (.fptr cs) [] []
   | _=>none
 | .fieldAddr T x i=>faE C.P T (S.rd G x) i k
 | .field T x i=>fldE C.P T (S.rd G x) i k
 | .indexAddr T x y=>idxE C S.Γ G S pe T (S.rd G x) (S.rd G y) k
 | .index T x y=>ixE C S.Γ G S T (S.rd G x) (S.rd G y) k
 | .extract x i=>match S.rd G x with
   | .tup cs=>match cs[i]? with
     | some v=>fv v fun v=>k v [] []
     | none=>none
   | _=>none
 | .slice T x lo hi mx=>match mx with
   | none=>slcE C S.Γ G S T x lo hi k
   | some m=>match lo,hi with
     | none,some y=>bt (opEq y m) (match C.P.underlying T,(S.rd G y).asI with
       | some (.slice elt),some (_,h)=>match asL C S.Θ elt (S.rd G x) with
         | some ⟨e,l⟩=>bt (zM C.P elt (C.τ e).E.sz) (pt S.Γ G (cut l 0 h) [] fun r=>k (.sl true e r) [] []) none
         | none=>none
       | _,_=>none) none
     | _,_=>none
 | .makeSlice T x y=>bt (opEq x y) (makE C S.Γ G S T (S.rd G x) k) none
 | .build T ps=>aKX C G S T ps.toList k
 | .buildSlice T n ps=>match C.P.underlying T with
   | some (.slice elt)=>bt (xC S&&(aKu C.P elt (C.τ (C.ec elt)).E.sz&&(Aj ps.toList.length n&&AT (n*(C.τ (C.ec elt)).E.sz) 16777216))) (
    aE2 C S.Γ G S.Θ (C.ec elt) (S.rd G) ps.toList 0 fun l=>match G with
     | []=>k (.gsl S.nid (C.ec elt)) [(S.nid,.tail elt (C.ec elt) S.nid)] [(S.nid,⟨C.ec elt,l⟩)]
     | _=>k (.sl false (C.ec elt) l) [] []) (none)
   | _=>none
 | .makeFunc fn first caps=>match fn with
   | .func f=>match first.toList with
     | []=>vF (caps.toList.map (S.rd G)) fun cs=>k (.fn f cs) [] []
     | _=>none
   | _=>none
 | .call c=>match c.callee with
   | .builtin .len=>match c.args.toList,c.argTypes.toList with
     | [x],[T]=>lenE C S T (S.rd G x) k
     | _,_=>none
   | .builtin .append=>match c.args.toList,c.argTypes.toList with
     | [x,y],[T,T']=>bt (Aj T T') (appE C S.Γ G S T (S.rd0 x) (S.rd0 y) (S.rd G y) k) (none)
     | _,_=>none
   | .builtin .copy=>match c.args.toList,c.argTypes.toList with
     | [x,y],[T,T']=>match G with
       | []=>copE C S T (S.rd0 x) (S.rd0 y) (S.rd G y) k
       | _=>none
     | _,_=>none
   | .builtin .max=>match c.args.toList.map (fun x=>(S.rd G x).asI) with
     | [some (ka,a),some (kb,b)]=>bt (ikeq ka kb) (k (.int ka (max a b)) [] []) (none)
     | [some (ka,a),some (kb,b),some (kc,c)]=>bt (ikeq ka kb&&ikeq ka kc) (k (.int ka (max (max a b) c)) [] []) (none)
     | _=>none
   | .builtin .min=>match c.args.toList.map (fun x=>(S.rd G x).asI) with
     | [some (ka,a),some (kb,b)]=>bt (ikeq ka kb) (k (.int ka (min a b)) [] []) (none)
     | [some (ka,a),some (kb,b),some (kc,c)]=>bt (ikeq ka kb&&ikeq ka kc) (k (.int ka (min (min a b) c)) [] []) (none)
     | _=>none
   | .value (.func f)=>aLu C S.Γ G S f (c.args.toList.map (S.rd G)) k
   | .value (.tmp t)=>match S.rd G (.tmp t) with
     | .fn f caps=>aLu C S.Γ G S f (c.args.toList.map (S.rd G)++caps) k
     | _=>none
   | _=>none
 | _=>none
end
end Go.IL
namespace Go.IL
section
variable {R:Type}
abbrev VS.put {τ:Nat→El} (S:VS τ) (us:List (Nat×Sv τ)) (ui:List (Nat×VE τ)) (θ:Th τ):VS τ :=
 ⟨us++S.sl,ui++S.H,S.Γ,θ++S.Θ,S.nid+ui.length,S.shut,S.Φ⟩
abbrev dA:Op→Bool
 | .store _ _ _=>true
 | _=>false
abbrev appK {α β:Type} (us sl:List α) (k:List α→β):β:=match us with
 | []=>k sl
 | x::r=>appK r sl fun s=>k (x::s)
theorem appK_eq {α β:Type} (us sl:List α) (k:List α→β):appK us sl k=k (us++sl):=by
 induction us generalizing k with
 | nil=>rfl
 | cons a r ih=>simp only [appK,ih]; rfl
abbrev fnat {β:Type} (n:Nat) (k:Nat→β):β:=match n with
 | .zero=>k .zero
 | .succ m=>k (.succ m)
theorem aFp {β:Type} (n:Nat) (k:Nat→β):fnat n k=k n:=by cases n <;> rfl
abbrev putK {τ:Nat→El} {β:Type} (S:VS τ) (us:List (Nat×Sv τ)) (ui:List (Nat×VE τ)) (θ:Th τ) (k:VS τ→β):β:=match S with
 | ⟨sl,H,Γ,Θ,nid,shut,Φ⟩=>appK us sl fun sl=>appK ui H fun H=>appK θ Θ fun Θ=>fnat (nid+ui.length) fun nid=>k ⟨sl,H,Γ,Θ,nid,shut,Φ⟩
theorem aBk {τ:Nat→El} {β:Type} (S:VS τ) (us:List (Nat×Sv τ)) (ui:List (Nat×VE τ)) (θ:Th τ) (k:VS τ→β):putK S us ui θ k=k (S.put us ui θ):=by
 cases S; simp only [putK,appK_eq,aFp]
abbrev fst' {τ:Nat→El} {β:Type} (S:VS τ) (k:VS τ→β):β:=match S with
 | ⟨sl,H,Γ,Θ,nid,shut,Φ⟩=>fnat nid fun nid=>k ⟨sl,H,Γ,Θ,nid,shut,Φ⟩
theorem aJu {τ:Nat→El} {β:Type} (S:VS τ) (k:VS τ→β):fst' S k=k S:=by
 cases S; simp only [fst',aFp]
abbrev VS.num {τ:Nat→El} (S:VS τ) (t:Nat) (b:Bool):VS τ:=⟨(t,.gb S.nid)::S.sl,S.H,(S.nid,b)::S.Γ,S.Θ,S.nid+1,S.shut,S.Φ⟩
abbrev numK {τ:Nat→El} {β:Type} (S:VS τ) (t:Nat) (b:Bool) (k:VS τ→β):β:=match S with
 | ⟨sl,H,Γ,Θ,nid,shut,Φ⟩=>fnat (nid+1) fun n=>k ⟨(t,.gb nid)::sl,H,(nid,b)::Γ,Θ,n,shut,Φ⟩
theorem aDR {τ:Nat→El} {β:Type} (S:VS τ) (t:Nat) (b:Bool) (k:VS τ→β):numK S t b k=k (S.num t b):=by
 cases S; simp only [numK,aFp]
abbrev aGZ {τ:Nat→El} (S:VS τ) (tj:Nat) (want:Bool) (k:VS τ→Gd→Ad R):Ad R :=
 match S.get tj with
 | .gb i=>k S [(i,want)]
 | .v (.bool b)=>bt (S.occ S.nid) none (numK S tj b fun S'=>k S' [(S.nid,want)])
 | .v (.lit b)=>bt (S.occ S.nid) none (numK S tj b fun S'=>k S' [(S.nid,want)])
 | .cgb g i=>match g with
   | [p]=>k S [p,(i,want)]
   | [p,q]=>k S [p,q,(i,want)]
   | _=>none
 | .cnd g (.bool b)=>match g with
   | [p]=>bt (S.occ S.nid) none (fst' ⟨(tj,.cgb g S.nid)::S.sl,S.H,(S.nid,b)::S.Γ,S.Θ,S.nid+1,S.shut,S.Φ⟩ fun S'=>k S' [p,(S.nid,want)])
   | [p,q]=>bt (S.occ S.nid) none (fst' ⟨(tj,.cgb g S.nid)::S.sl,S.H,(S.nid,b)::S.Γ,S.Θ,S.nid+1,S.shut,S.Φ⟩ fun S'=>k S' [p,q,(S.nid,want)])
   | _=>none
 | _=>none
abbrev preE {τ:Nat→El} (S:VS τ) (o:Op) (k:VS τ→Ad R):Ad R:=match o with
 | .move (.tmp s)=>match S.get s with
   | .v (.bool b)=>bt (S.occ S.nid) none (numK S s b k)
   | _=>k S
 | .assign (.tmp s)=>match S.get s with
   | .v (.bool b)=>bt (S.occ S.nid) none (numK S s b k)
   | _=>k S
 | _=>k S
abbrev svG {τ:Nat→El} (G:Gd) (v:V τ):Sv τ:=match G with
 | []=>.v v
 | _=>.cnd G v
abbrev rawX {τ:Nat→El} (S:VS τ) (x:Ag):Ad (Sv τ):=match x with
 | .tmp s=>match S.get s with
   | .gb i=>some (.gb i)
   | .v (.lit b)=>some (.v (.lit b))
   | _=>none
 | .const (.bool b)=>some (.v (.lit b))
 | _=>none
abbrev rawE {τ:Nat→El} (S:VS τ) (G:Gd) (o:Op):Ad (Sv τ):=match G with
 | []=>match o with
   | .move x=>rawX S x
   | .assign x=>rawX S x
   | _=>none
 | _=>none
abbrev aHc (C:Cx) (N:Nat) (o:Oper) (G:Gd) (S S':VS C.τ) (k:VS C.τ→List Nat→List Nat→Ad R):Ad R :=
 match rawE S' G o.op with
 | some sv=>match o.dst with
   | some t=>bt (AT (t+1) N) (putK S [(t,sv)] [] [] fun S=>k S [t] []) none
   | none=>none
 | none=>bt (sH o.op) (opE C G S' S.ent o.op fun v ui θ =>
   match ui,θ with
   | [],[]=>match o.dst with
     | some t=>bt (AT (t+1) N && !dA o.op) (putK S [(t,svG G v)] [] [] fun S=>k S [t] []) none
     | none=>none
   | ui,θ=>match G with
     | []=>match o.dst with
       | some t=>bt ((AT (t+1) N && !dA o.op)&&θ.all (fun p=>!S.occ p.1)) (putK S [(t,.v v)] ui θ fun S=>k S [t] (ui.map (·.1))) none
       | none=>bt (dA o.op&&θ.isEmpty) (putK S [] ui [] fun S=>k S [] (ui.map (·.1))) none
     | _=>none) none
abbrev dstOf (ops:Array Oper) (j:Nat):Ad Nat:=(ops[j]?).bind (·.dst)
abbrev regP (C:Cx) (N:Nat) (ops:Array Oper):List Oper→VS C.τ→(VS C.τ→Ad R)→Ad R
 | [],S,k=>k S
 | o :: r,S,k=>match o.guard with
   | none=>preE S o.op fun S=>aHc C N o [] S S fun S _ _=>regP C N ops r S k
   | some (j,want)=>match dstOf ops j with
     | some tj=>aGZ S tj want fun S G=>aHc C N o G S S fun S _ _=>regP C N ops r S k
     | none=>none

abbrev Operand.slot:Operand→List Nat
 | .tmp t=>[t]
 | _=>[]
mutual
abbrev V.ids {τ:Nat→El}:V τ→List Nat
 | .ref id _=>[id]
 | .rfe id _ _ _=>[id]
 | .gsl id _=>[id]
 | .osl id _ _=>[id]
 | .agg cs=>V.idsL cs
 | .tup cs=>V.idsL cs
 | .fn _ cs=>V.idsL cs
 | _=>[]
abbrev V.idsL {τ:Nat→El}:List (V τ)→List Nat
 | []=>[]
 | v::r=>V.ids v++V.idsL r
end
abbrev VE.ids {τ:Nat→El}:VE τ→List Nat
 | .blk _ cs=>V.idsL cs
 | _=>[]
abbrev Sv.ids {τ:Nat→El}:Sv τ→List Nat
 | .v x=>x.ids
 | .cnd _ x=>x.ids
 | _=>[]
abbrev makes:Op→Bool
 | .alloc _ | .box _ _ | .buildSlice _ _ _ | .makeSlice _ _ _=>true
 | .call c=>match c.callee with
   | .builtin .append=>true
   | _=>false
 | _=>false
abbrev yI (o:Oper):List Nat:=o.op.operands.toList.flatMap Operand.slot
abbrev nnOf {τ:Nat→El} (f:BP):List (BP×HS τ)→Nat
 | []=>0
 | (g,h)::r=>bt (Aj g f) h.nn (nnOf f r)
abbrev idsE (C:Cx) (S:VS C.τ) (o:Oper):List Nat :=
 let l:=(yI o).flatMap fun t=>(S.get t).ids
 let l := match o.op with
  | .call c =>
    let n:=match c.callee with
     | .value x=>(match S.rd0 x with
       | .fn f _=>nnOf f C.hs
       | _=>match x with
         | .func f=>nnOf f C.hs
         | _=>0)
     | _=>0
    let l2:=l++l.flatMap fun i=>(S.ent i).ids
    let l3:=l2++l2.flatMap fun i=>(S.ent i).ids
    match c.callee with
    | .builtin .len=>[]
    | _=>(Bx n).map (fun j=>S.nid+j)++l3
  | .load _ _=>l
  | .store _ _ _=>l
  | .convert _ _ _=>l
  | _=>[]
 bt (makes o.op) (S.nid::l) ((l))
abbrev VS.only {τ:Nat→El} (S:VS τ) (rs ri:List Nat):VS τ:=⟨rs.map fun t=>(t,S.get t),ri.map fun i=>(i,S.ent i),S.Γ,S.Θ,S.nid,true,S.Φ⟩
structure Nk where
 rs:List Nat
 ri:List Nat
 us:List Nat
 ui:List Nat
abbrev Nk.apart (m n:Nk):Bool :=
 m.us.all (fun t=>!n.rs.contains t && !n.us.contains t)&&n.us.all (fun t=>!m.rs.contains t) &&
 m.ui.all (fun t=>!n.ri.contains t && !n.ui.contains t)&&n.ui.all (fun t=>!m.ri.contains t)
abbrev lexK (ops:Array Oper) (nds:List Nk):Nat→Nat→Array Bool→Bool
 | 0,_,listed=>(Region.ready .any ops listed).isEmpty
 | n + 1,k,listed=>(Region.ready .any ops listed).contains k &&
     (Bx ops.size).all (fun j=>j == k||listed.getD j true||match ops[j]? with
       | some oj=>oj.after.any (fun e=>Region.binds .any e&&e.on == k)||(nds.getD k ⟨[],[],[],[]⟩).apart (nds.getD j ⟨[],[],[],[]⟩)
       | none=>true)&&lexK ops nds n (k+1) (listed.setIfInBounds k true)
abbrev regD (C:Cx) (N:Nat) (ops:Array Oper):List Oper→VS C.τ→List Nk→(VS C.τ→List Nk→Ad R)→Ad R
 | [],S,acc,k=>k S acc.reverse
 | o :: r,S,acc,k=>match o.guard with
   | none=>preE S o.op fun S=>let rs:=yI o; let ri:=idsE C S o
     aHc C N o [] S (S.only rs ri) fun S us ui=>regD C N ops r S (⟨rs,ri,us,ui⟩::acc) k
   | some (j,want)=>match dstOf ops j with
     | some tj=>aGZ S tj want fun S G=>let rs:=tj::yI o; let ri:=idsE C S o
       aHc C N o G S (S.only rs ri) fun S us ui=>regD C N ops r S (⟨rs,ri,us,ui⟩::acc) k
     | none=>none
abbrev regE (C:Cx) (N:Nat) (ops:Array Oper) (draw:Bool) (S:VS C.τ) (k:VS C.τ→Ad R):Ad R:=match draw with
 | false=>regP C N ops ops.toList S k
 | true=>regD C N ops ops.toList S [] fun S nds=>bt (C.P.follows .mixedOrders&&lexK ops nds ops.size 0 (BX ops.size false)) (k S) (none)

abbrev kid:Code→Nat→Code
 | .seq x _,0=>x
 | .seq _ y,_=>y
 | .cond _ x _,0=>x
 | .cond _ _ y,_=>y
 | .block _ c,_=>c
 | .loop c,_=>c
 | .scope c,_=>c
 | _,_=>.skip
abbrev sub (r:Code):List Nat→Code
 | []=>r
 | i::p=>kid (sub r p) i
abbrev aEQ:List Nat→List Nat→Bool
 | [],[]=>true
 | a::p,b::q=>Aj a b&&aEQ p q
 | _,_=>false
abbrev Hd (τ:Nat→El) (R:Type):=List (List Nat×(VS τ→Ad R))
abbrev Hd.at {τ:Nat→El} (h:Hd τ R) (p:List Nat):Ad (VS τ→Ad R):=match h with
 | []=>none
 | (q,f)::r=>bt (aEQ q p) (some f) (Hd.at r p)

abbrev resV (C:Cx) (S:VS C.τ):ResultVar→Ad (V C.τ)
 | .tmp t=>match S.get t with
   | .v v=>some v.unl
   | .gb i=>some (.bool (S.Γ.at i))
   | _=>none
 | .cell a T=>match S.get a with
   | .v (.ref id off)=>match C.P.info? T,C.P.underlying T,S.ent id with
     | some i,some _,.blk _ cs=>bt (AT 1 i.size&&AT (off+i.size) cs.length) (ldV (gP C.P T) i.size (cs.drop off) some) (none)
     | _,_,_=>none
   | _=>none
abbrev resE (C:Cx) (S:VS C.τ):List ResultVar→Ad (List (V C.τ))
 | []=>some []
 | x :: r=>match resV C S x with
   | some v=>match resE C S r with
     | some vs=>some (v::vs)
     | none=>none
   | none=>none

abbrev VS.know {τ:Nat→El} (S:VS τ) (i:Nat) (w:Bool):VS τ:=⟨S.sl,S.H,S.Γ,S.Θ,S.nid,S.shut,(i,w)::S.Φ⟩
structure Fx (C:Cx) (R:Type) where
 root:Code
 N:Nat
 hd:Hd C.τ R
 fin:VS C.τ→Ad R

abbrev den {C:Cx} (X:Fx C R):Nat→Ad Exit→List Nat→VS C.τ→Ad R
 | 0,_,_,_=>none
 | n + 1,none,p,S=>match sub X.root p with
   | .seq _ _=>den X n none (0::p) S
   | .region _ ops draw=>regE C X.N ops draw S fun S=>den X n (some .normal) p S
   | .skip=>den X n (some .normal) p S
   | .label _=>den X n (some .normal) p S
   | .ret=>den X n (some .ret) p S
   | .exit i=>den X n (some (.exit i)) p S
   | .cond c _ _=>match c with
     | .tmp t=>match S.get t with
       | .v (.lit b)=>bt b (den X n none (0::p) S) (den X n none (1::p) S)
       | .v (.bool b)=>bt (S.occ S.nid) none (bif b then numK S t b (fun S'=>den X n none (0::p) (S'.know S.nid true)) else numK S t b (fun S'=>den X n none (1::p) (S'.know S.nid false)))
       | .gb i=>match look (α:=Ad Bool) none i (S.Φ.map fun x=>(x.1,some x.2)) with
         | some w=>bt w (den X n none (0::p) S) (den X n none (1::p) S)
         | none=>bif S.Γ.at i then den X n none (0::p) (S.know i true) else den X n none (1::p) (S.know i false)
       | _=>none
     | .const v=>match v with
       | .bool b=>bt b (den X n none (0::p) S) (den X n none (1::p) S)
       | _=>none
     | _=>none
   | .block _ _=>den X n none (0::p) S
   | .scope _=>den X n none (0::p) S
   | .loop _=>match X.hd.at p with
     | some f=>f S
     | none=>none
   | _=>none
 | n+1,some e,[],S=>match e with
   | .normal=>X.fin S
   | .ret=>X.fin S
   | _=>none
 | n + 1,some e,i::q,S=>match sub X.root q with
   | .seq _ _=>match i with
     | .zero=>match e with
       | .normal=>match X.hd.at (1::q) with
         | some f=>f S
         | none=>den X n none (1::q) S
       | e=>den X n (some e) q S
     | .succ _=>den X n (some e) q S
   | .cond _ _ _=>den X n (some e) q S
   | .block j _=>match e with
     | .exit k=>bt (Aj k j) (den X n (some .normal) q S) (den X n (some e) q S)
     | e=>den X n (some e) q S
   | .scope _=>match e with
     | .goto _=>none
     | e=>den X n (some e) q S
   | .loop _=>match e with
     | .normal=>match X.hd.at q with
       | some f=>f S
       | none=>none
     | e=>den X n (some e) q S
   | _=>none
end
end Go.IL
open Go.IL.D renaming boxable → He,cells → HB,ofScalar → Do,ofVal → DO
open Go.IL.V renaming dL → Ck,ofScalar → GD
open List renaming any_eq_true → Fe,map_append → BR,map_congr_left → GT,mem_singleton → Av
open Nat renaming beq_eq → Br
namespace Go.IL
section
variable {τ:Nat→El} {R:Type}

theorem aBB (Θ:Th τ):∀ (cs:List (V τ)),Ck Θ cs=cs.map (V.d Θ)
 | []=>by simp [Ck]
 | v::vs=>by simp [Ck,aBB Θ vs]

theorem aCY (Θ:Th τ) (v:AI):(GD v:V τ).d Θ=Do v:=by
 unfold GD Do
 split <;> simp [V.d]
theorem aBo (Θ:Th τ) (v:AI):(Ft v:V τ).d Θ=DO v:=by
 unfold Ft DO
 split
 · simp only [V.d,aBB,Bz]
   congr 1
   apply GT
   intro a _
   exact aCY Θ a
 · rename_i h
   split
   · rename_i cs; exact AP rfl (h cs)
   · exact aCY Θ _

theorem uQ (Θ:Th τ) (v:V τ):(v.d Θ).cells=Ck Θ v.cells:=by
 cases v <;> simp [V.cells,HB,V.d,Ck]
theorem vK (Θ:Th τ) (v:V τ) (h:v.boxable=true):(v.d Θ).boxable=true:=by
 cases v <;> simp [V.boxable,V.d,He] at h ⊢
theorem one_d (Θ:Th τ) (v:V τ) (h:v.one=true):(v.d Θ).one=true:=by
 cases v <;> simp [V.one,V.boxable,V.d,EH,He] at h ⊢

structure Mo (S:VS τ) (S0:St):Prop where
 sl:∀ t,S0.get t=(S.get t).d S.Θ S.Γ∨S.get t = .v .dead
 ent:∀ i,S0.ent i=(S.ent i).d S.Θ∨S.ent i = .none
 len:∀ i t e c l,S.ent i = .lb t e c l→S.Θ.len c e=l.length

theorem gd_eq:∀ {g h:Gd},Gd.eq g h=true→g=h
 | [],[],_=>rfl
 | (i,a)::g,(j,b)::h,e=>by
   simp only [Gd.eq,Af,Br] at e
   obtain ⟨⟨h1,h2⟩,h3⟩:=e
   rw [gd_eq h3,h1]
   cases a <;> cases b <;> first | rfl | cases h2
 | [],_::_,e=>by cases e
 | _::_,[],e=>by cases e

theorem aNJ {gs:List Gd} {g:Gd} {Γ:Ga} (h:gs.any (Gd.eq g)=true) (hg:∀ g∈gs,g.val Γ=true):g.val Γ=true:=by
 obtain ⟨x,hx,he⟩:=Fe.1 h
 rw [gd_eq he]; exact hg x hx

theorem unl_d (Θ:Th τ) (v:V τ):v.unl.d Θ=v.d Θ:=by cases v <;> rfl
theorem aCw (S:St) (x:Ag):SV S x .dead:=fun _ _ _ _=>.dead _ _

theorem Mo.rdg {S:VS τ} {S0:St} (hm:Mo S S0) {gs:List Gd} (hg:∀ g∈gs,g.val S.Γ=true) (x:Ag):SV S0 x ((S.rdg gs x).d S.Θ):=by
 cases x with
 | tmp t =>
   simp only [VS.rdg]
   rcases hm.sl t with h | h
   · cases hs:S.get t with
     | v x=>rw [hs] at h; simp only [unl_d]; exact sv h
     | gb i=>rw [hs] at h; exact sv h
     | cnd g x =>
       rw [hs] at h
       cases ha:gs.any (Gd.eq g) with
       | true=>simp only [ha,aAz]; exact svc h (aNJ ha hg)
       | false=>simp only [ha,uK]; exact aCw _ _
     | cgb g i =>
       rw [hs] at h
       cases ha:gs.any (Gd.eq g) with
       | true=>simp only [ha,aAz]; exact svc h (aNJ ha hg)
       | false=>simp only [ha,uK]; exact aCw _ _
   · rw [h]; exact aCw _ _
 | const v=>exact sv (by simp only [VS.rdg,unl_d,aBo]; rfl)
 | func f=>exact sv (by simp only [VS.rdg,V.d,Ck]; rfl)
 | global g=>exact aCw _ _
theorem Mo.rd {S:VS τ} {S0:St} (hm:Mo S S0) {G:Gd} (hg:G.val S.Γ=true) (x:Ag):SV S0 x ((S.rd G x).d S.Θ) :=
 hm.rdg (fun g h=>by rw [Av.1 h]; exact hg) x

theorem pt_e {Γ:Ga} {G:Gd} {α β:Type} {e:Ad α} {d:α} {k:α→Ad β} {r:β} (h:pt Γ G e d k=some r):∃ x,(G.val Γ=true→e=some x)∧k x=some r:=by
 cases G with
 | nil=>obtain ⟨x,h1,h2⟩:=eC h; exact ⟨x,fun _=>h1,h2⟩
 | cons g G =>
   obtain ⟨x,h1,h2⟩:=eC h
   exact ⟨x,fun hg=>gd_t h1 hg,h2⟩

theorem aX {c:Bool} {α:Type} {x:Ad α} {r:α} (h:bt c x none=some r):c=true∧x=some r:=by
 cases c with
 | true=>exact ⟨rfl,h⟩
 | false=>cases h

theorem uR {x:V τ} {k:IntKind} {n:Int} (h:x.asI=some (k,n)) (Θ:Th τ):x.d Θ = .int k n:=by
 cases x <;> simp [V.asI] at h
 case int=>obtain ⟨rfl,rfl⟩:=h; simp [V.d]
 case u8=>obtain ⟨rfl,rfl⟩:=h; simp [V.d]

variable {P:An} {O:aR} {N:Nat} {S0:St} {o:Oper} {S:VS τ}

def PV (P:An) (O:aR) (N:Nat) (o:Oper) (S:VS τ) (G:Gd) (d:D):Prop:=dA o.op=false∧(G.val S.Γ=true→∀ S0,Mo S S0→∀ t,o.dst=some t→t<N→IOp P O N o S0 (S0.set t d))
def SVA (S:VS τ) (G:Gd) (x:Ag) (d:D):Prop:=G.val S.Γ=true→∀ S0,Mo S S0→SV S0 x d

theorem binI_d {op:BinOp} {k:IntKind} {a b:Int} {v:V τ} (h:binI op k a b=some v) (Θ:Th τ):int2 op k a b=some (v.d Θ):=by
 cases op <;> simp only [binI,Option.some.injEq,reduceCtorEq] at h <;> subst h <;> simp [int2,V.d,andI,orI,xorI,anotI]

theorem yP (Θ:Th τ) (cs:List (V τ)):(Ck Θ cs).length=cs.length:=by rw [aBB,Bf]
theorem zI (Θ:Th τ) (n:Nat) (cs:List (V τ)):Ck Θ (cs.drop n)=(Ck Θ cs).drop n:=by simp only [aBB,List.map_drop]
theorem aFt (Θ:Th τ) (n:Nat) (cs:List (V τ)):Ck Θ (cs.take n)=(Ck Θ cs).take n:=by simp only [aBB,Hn]
theorem aE5 (Θ:Th τ) (cs ds:List (V τ)):Ck Θ (cs++ds)=Ck Θ cs++Ck Θ ds:=by simp only [aBB,BR]
theorem yV {T:Ak} {i:TypeInfo} (h:P.info? T=some i):TI P T i.zero i.size i.bytes:=by simp [TI,h]
theorem ble2 {a b:Nat} {c:Bool} (h:(AT a b&&c)=true):a≤b∧c=true:=by
 simp only [Af] at h; exact ⟨AR h.1,h.2⟩

theorem aHx {β:Type} {agg:Bool} {n:Nat} {cs:List (V τ)} {k:V τ→Ad β} {r:β} (h:ldV agg n cs k=some r) (Θ:Th τ):∃ v,k v=some r∧v.d Θ=Et agg n (Ck Θ cs):=by
 unfold ldV at h
 cases agg with
 | true =>
   simp only [mL] at h
   exact ⟨_,h,by simp [V.d,Et,aFt]⟩
 | false =>
   cases cs with
   | nil=>cases h
   | cons v vs=>simp only [aLj] at h; exact ⟨v,h,by simp [Et,Ck]⟩

theorem aDt {α:Type} {c:Bool} {x:Ad α} {r:α} (h:bt c none x=some r):c=false∧x=some r:=by
 cases c with
 | true=>cases h
 | false=>exact ⟨rfl,h⟩
theorem aDH {T:Ak} {cs:List (V τ)} {off:Nat} {v:V τ} (h:aHt P T cs off=some v) (Θ:Th τ):aER P T (Ck Θ cs) off=some (v.d Θ):=by
 unfold aHt at h
 split at h
 · rename_i i hu hi
   obtain ⟨hc,h⟩:=aX h
   obtain ⟨h1,h2⟩:=ble2 hc
   obtain ⟨w,h3,h4⟩:=aHx h Θ
   cases h3
   unfold aER
   rw [hu,hi]
   simp only [yP,h1,AR h2,CA Nat.zero_lt_one (AR h2),and_self,if_true]
   rw [h4,zI]
 · cases h
theorem asB_d {x:V τ} {b:Bool} (h:x.asB=some b) (Θ:Th τ):x.d Θ = .bool b:=by
 cases x <;> simp only [V.asB,Option.some.injEq,reduceCtorEq] at h <;> subst h <;> rfl
theorem eqCV_d {u:Ad TypeDesc} {x y:V τ} {b:Bool} (h:eqCV u x y=some b) (Θ:Th τ):aE1 u (x.d Θ) (y.d Θ)=some b:=by
 unfold eqCV at h
 split at h
 · split at h
   · rename_i k a k' b' h1 h2
     obtain ⟨hk,h⟩:=aX h
     rw [uR h1,uR h2]
     simp only [aE1,qN hk,if_true]; exact h
   · cases h
 · split at h
   · rename_i a b' h1 h2
     rw [asB_d h1,asB_d h2]; exact h
   · cases h
 · split at h
   · exact h
   · cases h
 · cases h
theorem aM9 {Θ:Th τ} {cmp:Ak→V τ→V τ→Ad Bool} {cmp':Ak→D→D→Ad Bool} (hc:∀ t d e b,cmp t d e=some b→cmp' t (d.d Θ) (e.d Θ)=some b) {ds es:List (V τ)}:∀ (fs:List Field) {b:Bool},eqFV P cmp ds es fs=some b→eqTF P cmp' (Ck Θ ds) (Ck Θ es) fs=some b
 | [],b,h=>h
 | f :: fs,b,h=>by
   unfold eqFV at h
   obtain ⟨hn,h⟩:=aDt h
   have hn : ¬ f.name = "_" := by simpa using hn
   unfold eqTF
   rw [Aq hn]
   split at h
   · rename_i d e hd he
     rw [aDH hd Θ,aDH he Θ]
     split at h
     · rename_i b1 hb
       split at h
       · rename_i b2 h2
         cases h
         simp only [hc _ _ _ _ hb,aM9 hc fs h2,Cl]
       · cases h
     · cases h
   · cases h
theorem aNA {Θ:Th τ} {cmp:V τ→V τ→Ad Bool} {cmp':D→D→Ad Bool} (hc:∀ d e b,cmp d e=some b→cmp' (d.d Θ) (e.d Θ)=some b) {el:Ak} {sz:Nat} {ds es:List (V τ)}:∀ (m i:Nat) {b:Bool},eqAV P cmp el sz ds es m i=some b→eqTA P cmp' el sz (Ck Θ ds) (Ck Θ es) m i=some b
 | 0,_,b,h=>h
 | m + 1,i,b,h=>by
   unfold eqAV at h
   unfold eqTA
   split at h
   · rename_i d e hd he
     rw [aDH hd Θ,aDH he Θ]
     split at h
     · rename_i b1 hb
       split at h
       · rename_i b2 h2
         cases h
         simp only [hc _ _ _ hb,aNA hc m (i+1) h2,Cl]
       · cases h
     · cases h
   · cases h
theorem aJ3 (Θ:Th τ):∀ (k:Nat) (t:Ak) (d e:V τ) (b:Bool),eqTV P k t d e=some b→eqT P k t (d.d Θ) (e.d Θ)=some b
 | 0,_,_,_,_,h=>by cases h
 | k + 1,t,d,e,b,h=>by
   unfold eqTV at h
   unfold eqT
   split at h
   · rename_i fs hu
     split at h
     · rename_i ds es
       obtain ⟨hs,h⟩:=aDt h
       simp only [hu,V.d,hs]
       exact aM9 (fun t d e b h=>aJ3 Θ k t d e b h) _ h
     · cases h
   · rename_i n el hu
     split at h
     · rename_i ds es
       split at h
       · rename_i i hi
         simp only [hu,V.d,hi]
         exact aNA (fun d e b h=>aJ3 Θ k el d e b h) _ _ h
       · cases h
     · cases h
   · rename_i hn1 hn2
     split
     · rename_i fs ds es h1 _ _; exact AP h1 (hn1 fs)
     · rename_i n el ds es h1 _ _; exact AP h1 (hn2 n el)
     · exact eqCV_d h Θ
theorem binE_ok {G:Gd} {op:BinOp} {xt yt:Ak} {x y:Ag} {vx vy:V τ} {k:KK τ R} {r:R} (ho:o.op = .binOp op xt x y yt)
 (hx:SVA S G x (vx.d S.Θ)) (hy:SVA S G y (vy.d S.Θ)) (h:binE S.Γ G op xt vx vy P k=some r):∃ v,k v [] []=some r∧PV P O N o S G (v.d S.Θ):=by
 have hs:dA o.op=false:=by rw [ho]; try rfl
 unfold binE at h
 split at h
 · rename_i a b
   simp only [V.d] at hx hy
   split at h
   · obtain ⟨c,h1,h2⟩:=pt_e h
     exact ⟨_,h2,hs,fun hG S0 hm t hd ht=>aDh ho hd ht (hx hG _ hm) (hy hG _ hm) (h1 hG)⟩
   · exact ⟨_,h,hs,fun hG S0 hm t hd ht=>xW ho hd ht (hx hG _ hm) (hy hG _ hm) rfl rfl⟩
   · exact ⟨_,h,hs,fun hG S0 hm t hd ht=>xW ho hd ht (hx hG _ hm) (hy hG _ hm) rfl rfl⟩
   · cases h
 · rename_i a b
   simp only [V.d] at hx hy
   split at h
   · rename_i hu
     exact ⟨_,h,hs,fun hG S0 hm t hd ht=>iop_eqb ho hd ht hu (hx hG _ hm) (hy hG _ hm)⟩
   · rename_i hu
     exact ⟨_,h,hs,fun hG S0 hm t hd ht=>iop_neb ho hd ht hu (hx hG _ hm) (hy hG _ hm)⟩
   · cases h
 · rename_i a b
   obtain ⟨hg,h⟩:=aDt h
   split at h
   · rename_i z hz
     have hz':=aJ3 S.Θ 9 xt _ _ _ hz
     simp only [V.d] at hx hy hz'
     split at h
     · exact ⟨_,h,hs,fun hG S0 hm t hd ht=>iop_eqt ho hd ht hg (hx hG _ hm) (hy hG _ hm) hz'⟩
     · exact ⟨_,h,hs,fun hG S0 hm t hd ht=>iop_net ho hd ht hg (hx hG _ hm) (hy hG _ hm) hz'⟩
     · cases h
   · cases h
 · split at h
   · rename_i ka a kb b h1 h2
     rw [uR h1] at hx
     rw [uR h2] at hy
     split at h
     · rename_i e he
       obtain ⟨hk,h⟩:=aX h
       obtain ⟨c,hc,h⟩:=pt_e h
       refine ⟨_,h,hs,fun hG S0 hm t hd ht=>?_⟩
       simp only [V.d]
       cases op <;> simp only [parI,reduceCtorEq,Option.some.injEq] at he <;> subst he
       · have:=qN (by simpa [aFe] using hk:ikeq ka kb=true); subst this
         exact aGR ho hd ht (hx hG _ hm) (hy hG _ hm) (hc hG)
       · have:=qN (by simpa [aFe] using hk:ikeq ka kb=true); subst this
         exact aDb ho hd ht (hx hG _ hm) (hy hG _ hm) (hc hG)
       · exact aLP ho hd ht (hx hG _ hm) (hy hG _ hm) (hc hG)
       · exact aLO ho hd ht (hx hG _ hm) (hy hG _ hm) (hc hG)
     · obtain ⟨hk,h⟩:=aX h
       have:=qN hk; subst this
       clear hk
       split at h
       · rename_i v hv
         replace h:=(aX h).2
         exact ⟨v,h,hs,fun hG S0 hm t hd ht=>aAJ ho hd ht (hx hG _ hm) (hy hG _ hm) (binI_d hv S.Θ)⟩
       · cases (aX h).2
   · split at h
     · rename_i elem b hu hb _ _ _ _
       simp only [V.d] at hy
       cases hxx:vx <;> rw [hxx] at hb hx <;> simp only [isNil,Option.some.injEq,reduceCtorEq] at hb <;> subst hb <;> simp only [V.d] at hx
       all_goals
        split at h
        · first
          | exact ⟨_,h,hs,fun hG S0 hm t hd ht=>aLV ho hd ht hu (hx hG _ hm) (hy hG _ hm)⟩
          | exact ⟨_,h,hs,fun hG S0 hm t hd ht=>iop_eqn ho hd ht hu (hx hG _ hm) (hy hG _ hm)⟩
          | exact ⟨_,h,hs,fun hG S0 hm t hd ht=>aLW ho hd ht hu (hx hG _ hm) (hy hG _ hm)⟩
        · first
          | exact ⟨_,h,hs,fun hG S0 hm t hd ht=>aLR ho hd ht hu (hx hG _ hm) (hy hG _ hm)⟩
          | exact ⟨_,h,hs,fun hG S0 hm t hd ht=>iop_nen ho hd ht hu (hx hG _ hm) (hy hG _ hm)⟩
          | exact ⟨_,h,hs,fun hG S0 hm t hd ht=>aLS ho hd ht hu (hx hG _ hm) (hy hG _ hm)⟩
        · cases h
     · cases h

theorem Mo.blk {S:VS τ} (hm:Mo S S0) {id:Nat} {t:Ak} {cs:List (V τ)} (h:S.ent id = .blk t cs):S0.ent id = .blk t (Ck S.Θ cs):=by
 rcases hm.ent id with h1 | h1
 · rw [h1,h]; try rfl
 · rw [h] at h1; cases h1
theorem Mo.lb {S:VS τ} (hm:Mo S S0) {id:Nat} {t:Ak} {e c:Nat} {l:List (τ e).α} (h:S.ent id = .lb t e c l):S0.ent id = .blk t (Al (l.map (τ e).E.d)):=by
 rcases hm.ent id with h1 | h1
 · rw [h1,h]; try rfl
 · rw [h] at h1; cases h1
theorem Mo.tail {S:VS τ} (hm:Mo S S0) {id:Nat} {t:Ak} {e c:Nat} (h:S.ent id = .tail t e c):S0.ent id = .tail t (τ e).E.sz (S.Θ.len c e):=by
 rcases hm.ent id with h1 | h1
 · rw [h1,h]; try rfl
 · rw [h] at h1; cases h1
theorem Mo.fresh {S:VS τ} (hm:Mo S S0) {id:Nat} (h:S.ent id = .fresh):S0.ent id = .fresh:=by
 rcases hm.ent id with h1 | h1
 · rw [h1,h]; try rfl
 · rw [h] at h1; cases h1
theorem wD {S:VS τ} (h:xC S=true):S.ent S.nid = .fresh:=by
 unfold xC at h; split at h <;> simp_all
end

section
variable {R:Type} {C:Cx} {O:aR} {N:Nat} {S0:St} {o:Oper} {S:VS C.τ} {G:Gd} {k:KK C.τ R} {r:R}

theorem put_d {e:Nat} (Θ:Th C.τ) (a:(C.τ e).α):Ck Θ ((C.κ e).put a)=((C.τ e).E.d a).cells:=(C.κ e).h1 Θ a

theorem aLF {T:Ak} {x:Ag} {p:V C.τ} (ho:o.op = .load T x) (hx:SVA S G x (p.d S.Θ)) (h:loadE C S.Γ G S T p k=some r) :
 ∃ v,k v [] []=some r∧PV C.P O N o S G (v.d S.Θ):=by
 have hs:dA o.op=false:=by rw [ho]; try rfl
 unfold loadE at h
 split at h
 · rename_i i u hi hu
   split at h
   · rename_i id off
     split at h
     · rename_i t cs he
       obtain ⟨hc,h⟩:=aX h
       obtain ⟨h1,h2⟩:=ble2 hc
       obtain ⟨v,hv,hd⟩:=aHx h S.Θ
       refine ⟨v,hv,hs,fun hG S0 hm t hdt ht=>?_⟩
       rw [hd,zI]
       exact xD ho hdt ht hu (yV hi) (hx hG _ hm) (hm.blk he) (by rw [yP]; exact AR h2) h1 rfl
     · cases h
   · rename_i cs
     obtain ⟨hc,h⟩:=aX h
     obtain ⟨h1,h2⟩:=ble2 hc
     obtain ⟨v,hv,hd⟩:=aHx h S.Θ
     refine ⟨v,hv,hs,fun hG S0 hm t hdt ht=>?_⟩
     rw [hd]
     simp only [V.d] at hx
     exact vV ho hdt ht hu (yV hi) (hx hG _ hm) (by rw [yP]; exact AR h2) h1 rfl
   · rename_i id j e off
     split at h
     · rename_i t e' c l he
       obtain ⟨hc,hh⟩:=aX h; clear h
       have h:=hh; clear hh
       simp only [Af,Br] at hc
       obtain ⟨rfl,h1,h2⟩:=hc
       replace h1:=AR h1
       replace h2:=AR h2
       obtain ⟨a,ha,h⟩:=pt_e h
       obtain ⟨v,hv,hd⟩:=aHx h S.Θ
       refine ⟨v,hv,hs,fun hG S0 hm t hdt ht=>?_⟩
       rw [hd,zI,put_d]
       have hl:(((C.τ e').E.d a).cells.drop off).length=(C.τ e').E.sz-off:=by rw [AA,((C.τ e').E.fl a).1]
       cases hagg:gP C.P T with
       | true=>exact aAr (C.τ e').E.toEnc0 ho hdt ht hu hagg (yV hi) h1 (hx hG _ hm) (hm.lb he) (ha hG) h2 rfl
       | false =>
         cases hdr:((C.τ e').E.d a).cells.drop off with
         | nil=>rw [hdr] at hl; simp at hl; omega
         | cons d ds=>exact pQ (C.τ e').E.toEnc0 ho hdt ht hu hagg (yV hi) h1 (hx hG _ hm) (hm.lb he) (ha hG) h2 hdr
     · cases h
   · cases h
 · cases h

theorem spl_e {α β:Type} {cs new:List α} {off:Nat} {k:List α→Ad β} {r:β} (h:spl cs off new k=some r):k (cs.take off++new++cs.drop (off+new.length))=some r:=by
 unfold spl at h; rwa [mL] at h
theorem spl_d {τ:Nat→El} (Θ:Th τ) (cs new:List (V τ)) (off:Nat):Ck Θ (cs.take off++new++cs.drop (off+new.length))=eH (Ck Θ cs) off (Ck Θ new):=by
 simp only [eH,aE5,aFt,zI,yP]
theorem all_one {τ:Nat→El} (Θ:Th τ) {cs:List (V τ)} (h:cs.all V.one=true):(Ck Θ cs).all EH=true:=by
 rw [aBB,List.all_map]
 simp only [AV] at h ⊢
 exact fun v hv=>one_d Θ v (h v hv)

theorem aEz {P:An} {T:Ak} {i off T' size:Nat} (h:fieldAt P T i=some (off,T',size)) :
 ∃ fs F z b,P.underlying T=some (.struct fs)∧fs[i]? = some F∧F.offset=off∧F.type=T'∧TI P F.type z size b∧0<size:=by
 unfold fieldAt at h
 split at h
 · rename_i fs hu
   split at h
   · rename_i F hF
     split at h
     · rename_i fi hfi
       obtain ⟨hc,h⟩:=aX h
       cases h
       exact ⟨fs,F,_,_,hu,hF,rfl,rfl,yV hfi,AR hc⟩
     · cases h
   · cases h
 · cases h

theorem faE_ok {T:Ak} {x:Ag} {i:Nat} {p:V C.τ} (ho:o.op = .fieldAddr T x i) (hx:SVA S G x (p.d S.Θ)) (h:faE C.P T p i k=some r) :
 ∃ v,k v [] []=some r∧PV C.P O N o S G (v.d S.Θ):=by
 have hs:dA o.op=false:=by rw [ho]; try rfl
 unfold faE at h
 split at h
 · rename_i off T' size hf
   obtain ⟨fs,F,z,b,hu,hF,rfl,rfl,hi,h1⟩:=aEz hf
   split at h
   · exact ⟨_,h,hs,fun hG S0 hm t hd ht=>mA ho hd ht hu hF hi h1 (hx hG _ hm) rfl⟩
   · rename_i id j e o'
     refine ⟨_,h,hs,fun hG S0 hm t hd ht=>?_⟩
     simp only [V.d] at hx ⊢
     exact mA ho hd ht hu hF hi h1 (hx hG _ hm) (by omega)
   · rename_i cs
     rw [mL] at h
     refine ⟨_,h,hs,fun hG S0 hm t hd ht=>?_⟩
     simp only [V.d] at hx ⊢
     exact aAL ho hd ht hu hF hi h1 (hx hG _ hm) (by rw [aFt,zI])
   · cases h
 · cases h
theorem fldE_ok {T:Ak} {x:Ag} {i:Nat} {p:V C.τ} (ho:o.op = .field T x i) (hx:SVA S G x (p.d S.Θ)) (h:fldE C.P T p i k=some r) :
 ∃ v,k v [] []=some r∧PV C.P O N o S G (v.d S.Θ):=by
 have hs:dA o.op=false:=by rw [ho]; try rfl
 unfold fldE at h
 split at h
 · rename_i off T' size hf
   obtain ⟨fs,F,z,b,hu,hF,rfl,rfl,hi,h1⟩:=aEz hf
   split at h
   · rename_i u cs hu2
     obtain ⟨hc,h⟩:=aX h
     obtain ⟨v,hv,hd⟩:=aHx h S.Θ
     refine ⟨v,hv,hs,fun hG S0 hm t hdt ht=>?_⟩
     rw [hd,zI]
     simp only [V.d] at hx
     exact aJV ho hdt ht hu hF hu2 hi (hx hG _ hm) (by rw [yP]; exact AR hc) h1 rfl
   · cases h
 · cases h

theorem aCz {P:An} {T:Ak} {n:Nat} (h:zM P T n=true):∃ z b,TI P T z n b:=by
 unfold zM at h
 split at h
 · rename_i i hi
   rw [Br] at h
   exact ⟨_,_,h ▸ yV hi⟩
 · cases h

theorem aCC {x:Ag} {v:V C.τ} {Θ:Th C.τ} {elt:Ak} {e:Nat} {l:List (C.τ e).α} (h:asL C Θ elt v=some ⟨e,l⟩) (hx:SVA S G x (v.d Θ)):∃ f,SVA S G x (.slice f (l.map (C.τ e).E.d)):=by
 cases v <;> simp only [asL,Option.some.injEq,reduceCtorEq,Sigma.mk.injEq] at h
 case sl f e' l'=>obtain ⟨rfl,h⟩:=h; cases h; exact ⟨_,hx⟩
 case gsl id e'=>obtain ⟨rfl,h⟩:=h; cases h; exact ⟨_,fun hG S0 hm=>SV.gsls (hx hG S0 hm)⟩
 case nils=>obtain ⟨rfl,h⟩:=h; cases h; exact ⟨true,fun hG S0 hm=>SV.nilss (hx hG S0 hm)⟩

theorem idxE_ok {T:Ak} {x y:Ag} {vx vy:V C.τ} (ho:o.op = .indexAddr T x y) (hx:SVA S G x (vx.d S.Θ)) (hy:SVA S G y (vy.d S.Θ)) {pe:Nat→VE C.τ} (hpe:∀ i t e c l,pe i = .lb t e c l→S.Θ.len c e=l.length) (h:idxE C S.Γ G S pe T vx vy k=some r) :
 ∃ v,k v [] []=some r∧PV C.P O N o S G (v.d S.Θ):=by
 have hs:dA o.op=false:=by rw [ho]; try rfl
 unfold idxE at h
 split at h
 · rename_i elt kn n hu hy2
   rw [uR hy2] at hy
   split at h
   · rename_i id e c
     split at h
     · rename_i t e' c' l he
       obtain ⟨hc,hh⟩:=aX h; clear h
       have h:=hh; clear hh
       simp only [Af,Br] at hc
       obtain ⟨rfl,rfl,hsz⟩:=hc
       obtain ⟨z,b,hi⟩:=aCz hsz
       obtain ⟨a,ha,h⟩:=pt_e h
       refine ⟨_,h,hs,fun hG S0 hm t hd ht=>?_⟩
       simp only [V.d] at hx ⊢
       exact qL (C.τ e').E.toEnc0 ho hd ht hu hi (hx hG _ hm) (hpe _ _ _ _ _ he).symm (hy hG _ hm) (ha hG)
     · cases h
   · split at h
     · rename_i e l hl
       obtain ⟨hc,h⟩:=aX h
       obtain ⟨z,b,hi⟩:=aCz hc
       obtain ⟨a,ha,h⟩:=pt_e h
       rw [mL] at h
       obtain ⟨f,hx⟩:=aCC hl hx
       refine ⟨_,h,hs,fun hG S0 hm t hd ht=>?_⟩
       simp only [V.d,put_d]
       exact aAK (C.τ e).E ho hd ht hu hi (hx hG _ hm) (hy hG _ hm) (ha hG) rfl ((C.τ e).E.fl a).1
     · cases h
 · cases h
theorem ixE_ok {T:Ak} {x y:Ag} {vx vy:V C.τ} (ho:o.op = .index T x y) (hx:SVA S G x (vx.d S.Θ)) (hy:SVA S G y (vy.d S.Θ)) (h:ixE C S.Γ G S T vx vy k=some r) :
 ∃ v,k v [] []=some r∧PV C.P O N o S G (v.d S.Θ):=by
 have hs:dA o.op=false:=by rw [ho]; try rfl
 unfold ixE at h
 split at h
 · rename_i l kn n hu hy2
   rw [uR hy2] at hy
   obtain ⟨c,hc,h⟩:=pt_e h
   exact ⟨_,h,hs,fun hG S0 hm t hd ht=>sZ ho hd ht hu (hx hG _ hm) (hy hG _ hm) (hc hG)⟩
 · cases h

theorem aMM {z:Int} {f:Ag→V C.τ} {lo:Ad Ag} {a:Int} (h:bdE z f lo=some a) (hf:∀ x,SVA S G x ((f x).d S.Θ)) (hG:G.val S.Γ=true) (hm:Mo S S0):vO S0 z lo a:=by
 cases lo with
 | none=>simpa [bdE,vO,eq_comm] using h
 | some x =>
   simp only [bdE] at h
   split at h
   · rename_i k n hk
     cases h
     exact ⟨k,uR hk S.Θ ▸ hf x hG S0 hm⟩
   · cases h
theorem slcE_ok {T:Ak} {x:Ag} {lo hi:Ad Ag} (ho:o.op = .slice T x lo hi none) (h:slcE C S.Γ G S T x lo hi k=some r) :
 ∃ v,k v [] []=some r∧PV C.P O N o S G (v.d S.Θ):=by
 have hs:dA o.op=false:=by rw [ho]; try rfl
 have hx:SVA S G x _:=fun hG S0 hm=>hm.rd hG x
 unfold slcE at h
 split at h
 · rename_i l hl
   rw [hl] at hx
   split at h
   · rename_i a b hu h1 h2
     obtain ⟨c,hc,h⟩:=pt_e h
     exact ⟨_,h,hs,fun hG S0 hm t hd ht=>vZ ho hd ht hu (hx hG _ hm) (aMM h1 (fun x hG S0 hm=>hm.rd hG x) hG hm) (aMM h2 (fun x hG S0 hm=>hm.rd hG x) hG hm) (hc hG)⟩
   · cases h
 · split at h
   · rename_i elt hu
     split at h
     · rename_i e l hl
       split at h
       · rename_i a b h1 h2
         obtain ⟨hc,h⟩:=aX h
         obtain ⟨z,b,hi⟩:=aCz hc
         obtain ⟨c,hc,h⟩:=pt_e h
         obtain ⟨f,hx⟩:=aCC hl hx
         refine ⟨_,h,hs,fun hG S0 hm t hd ht=>?_⟩
         simp only [V.d]
         exact aGT (C.τ e).E ho hd ht hu hi (hx hG _ hm) (aMM h1 (fun x hG S0 hm=>hm.rd hG x) hG hm) (aMM h2 (fun x hG S0 hm=>hm.rd hG x) hG hm) (hc hG)
       · cases h
     · cases h
   · cases h

theorem lenE_ok {T:Ak} {x:Ag} {v:V C.τ} (ho:o.op = .call { callee:=.builtin .len,args:=#[x],argTypes:=#[T] }) (hx:SVA S G x (v.d S.Θ)) (h:lenE C S T v k=some r) :
 ∃ v,k v [] []=some r∧PV C.P O N o S G (v.d S.Θ):=by
 have hs:dA o.op=false:=by rw [ho]; try rfl
 unfold lenE at h
 split at h
 · rename_i hu
   split at h
   · exact ⟨_,h,hs,fun hG S0 hm t hd ht=>vW ho hd ht hu (hx hG _ hm) rfl⟩
   · cases h
 · rename_i n e hu
   exact ⟨_,h,hs,fun hG S0 hm t hd ht=>aDd ho hd ht hu rfl⟩
 · rename_i elt hu
   split at h
   · exact ⟨_,h,hs,fun hG S0 hm t hd ht=>vY ho hd ht hu (hx hG _ hm)⟩
   · split at h
     · rename_i e l hl
       obtain ⟨f,hx⟩:=aCC hl hx
       exact ⟨_,h,hs,fun hG S0 hm t hd ht=>qK (C.τ e).E ho hd ht hu (hx hG _ hm)⟩
     · cases h
 · cases h
end
end Go.IL
open Bool renaming and_assoc → GO,and_self → Bs
open Go.IL.AK renaming get → Hq
open Go.IL.AKL renaming put → Du,ty → FF
open Go.IL.D renaming nomemL → DX,refsIn → Bq
open Go.IL.Gd renaming val → Dk
open Go.IL.RK renaming get → Hr,ty → Bb
open Go.IL.ShL renaming firm → FV,get → Dt,getK → Ih,put → ED
open List renaming cons_append → AY,drop_zero → EV
namespace Go.IL
section
variable {τ:Nat→El}
theorem Gd.vl_eq (Γ:Ga) (b:Bool):∀ (r:Gd),Gd.vl Γ b r=(b&&Dk Γ r)
 | []=>by simp [Gd.vl,Dk]
 | (i,w)::r=>by
   simp only [Gd.vl,Dk]
   rw [Gd.vl_eq Γ _ r,Gd.vl_eq Γ _ r,GO]
theorem Gd.val_cons (Γ:Ga) (i:Nat) (w:Bool) (r:Gd):Dk Γ ((i,w)::r)=((Γ.at i == w)&&Dk Γ r):=Gd.vl_eq Γ _ r
theorem Gd.val_app (Γ:Ga) (g h:Gd):Dk Γ (g++h)=(Dk Γ g&&Dk Γ h):=by
 induction g with
 | nil=>simp [Dk]
 | cons a g ih=>obtain ⟨i,w⟩:=a; rw [AY,Gd.val_cons,Gd.val_cons,ih,GO]

theorem aB8 {e:Nat} (h:e=e) (l:List (τ e).α):aAx h l=l:=rfl

theorem aIK {n:Int} {u:Ai} (h:toU8 n=some u):n=(u.toNat:Int):=(aIL h).symm

theorem Sh.get_sub {Θ Θ':Th τ} {s:Sh} {v:V τ} {a:s.ty τ} (h:s.get Θ (fun _=>.none) v=some a):Sub (v.d Θ) ((s.put a).d Θ'):=by
 cases s <;> cases v <;> simp only [Hp,reduceCtorEq] at h
 case int.int k k' n=>obtain ⟨h1,h⟩:=aX h; cases h; cases qN h1; exact .refl _
 case int.u8 k c=>obtain ⟨h1,h⟩:=aX h; cases h; cases qN h1; exact .refl _
 case u8.int k n=>obtain ⟨h1,h⟩:=aX h; cases qN h1; simp only [V.d,Sh.put,aIK h]; exact .refl _
 case u8.u8 c=>cases h; exact .refl _
 case bool.bool b=>cases h; exact .refl _
 case bool.lit b=>cases h; exact .refl _
 case flt.flt k k' n=>obtain ⟨h1,h⟩:=aX h; cases h; cases aJx h1; exact .refl _
 case str.str l=>cases h; exact .refl _
 case sl.sl e f e' l =>
  cases f with
  | true=>cases h
  | false =>
    simp only [Hp] at h
    split at h
    · rename_i he; subst he; cases h; exact .refl _
    · cases h
 case sl.nils e=>cases h; exact .nils _
 case sl.gsl e id e' =>
  split at h
  · rename_i he; subst he; cases h; exact .gsl _ _ _
  · cases h

theorem ShL.get_sub {Θ Θ':Th τ}:∀ {ss:List Sh} {cs:List (V τ)} {a:FN τ ss},Dt Θ (fun _=>.none) ss cs=some a→SubL (Ck Θ cs) (Ck Θ' (ED ss a))
 | [],[],_,_=>by simp only [Ck,ED]; exact .nil
 | [],_::_,_,h=>by simp [Dt] at h
 | _::_,[],_,h=>by simp [Dt] at h
 | s :: r,v::vs,a,h=>by
   simp only [Dt] at h
   split at h
   · rename_i a1 h1
     split at h
     · rename_i a2 h2
       cases h
       exact .cons (Sh.get_sub h1) (ShL.get_sub h2)
     · cases h
   · cases h

theorem Cod.get_ss {e:Nat} {c:Cod τ e} {Θ:Th τ} {own:Nat→VE τ} {cs:List (V τ)} {a:(τ e).α} (h:c.get Θ own cs=some a):∃ z,Dt Θ own c.ss cs=some z∧c.ma z=a:=by
 unfold Cod.get at h
 split at h
 · rename_i z hz; cases h; exact ⟨z,hz,rfl⟩
 · cases h
theorem Cod.get_sub {e:Nat} {c:Cod τ e} {Θ:Th τ} {cs:List (V τ)} {a:(τ e).α} (h:c.get Θ (fun _=>.none) cs=some a):SubL (Ck Θ cs) ((τ e).E.d a).cells:=by
 obtain ⟨z,hz,rfl⟩:=Cod.get_ss h
 have:=ShL.get_sub (Θ':=Θ) hz
 rwa [←c.h2 z,c.h1 Θ] at this

theorem Sh.get_fd {S:VS τ} {S0:St} (hm:Mo S S0) {Θ':Th τ} {s:Sh} {v:V τ} {a:s.ty τ} (h:s.get S.Θ S.ent v=some a):FD S0 (v.d S.Θ) ((s.put a).d Θ'):=by
 cases s <;> cases v <;> simp only [Hp,reduceCtorEq] at h
 case int.int k k' n=>obtain ⟨h1,h⟩:=aX h; cases h; cases qN h1; exact .refl _
 case int.u8 k c=>obtain ⟨h1,h⟩:=aX h; cases h; cases qN h1; exact .refl _
 case u8.int k n=>obtain ⟨h1,h⟩:=aX h; cases qN h1; simp only [V.d,Sh.put,aIK h]; exact .refl _
 case u8.u8 c=>cases h; exact .refl _
 case bool.bool b=>cases h; exact .refl _
 case bool.lit b=>cases h; exact .refl _
 case flt.flt k k' n=>obtain ⟨h1,h⟩:=aX h; cases h; cases aJx h1; exact .refl _
 case str.str l=>cases h; exact .refl _
 case sl.sl e f e' l =>
  cases f with
  | true=>cases h
  | false =>
    simp only [Hp] at h
    split at h
    · rename_i he; subst he; cases h; exact .refl _
    · cases h
 case sl.nils e=>cases h; exact .nils _
 case sl.gsl e id e' =>
  split at h
  · rename_i he; subst he; cases h; exact .gsl _ _ _
  · cases h
 case sl.osl e id e' c =>
  split at h
  · rename_i t e'' c' l he
    split at h
    · rename_i hee
      subst hee
      obtain ⟨h1,h⟩:=aX h
      obtain ⟨h2,h⟩:=aX h
      cases h
      rw [Br] at h1 h2
      subst h1; subst h2
      simp only [V.d,Sh.put]
      exact FDT (τ e').E (hm.lb he) (hm.len _ _ _ _ _ he).symm
    · cases h
  · cases h
theorem ShL.get_fd {S:VS τ} {S0:St} (hm:Mo S S0) {Θ':Th τ}:∀ {ss:List Sh} {cs:List (V τ)} {a:FN τ ss},Dt S.Θ S.ent ss cs=some a→FDL S0 (Ck S.Θ cs) (Ck Θ' (ED ss a))
 | [],[],_,_=>by simp only [Ck,ED]; exact .nil
 | [],_::_,_,h=>by simp [Dt] at h
 | _::_,[],_,h=>by simp [Dt] at h
 | s :: r,v::vs,a,h=>by
   simp only [Dt] at h
   split at h
   · rename_i a1 h1
     split at h
     · rename_i a2 h2
       cases h
       exact .cons (Sh.get_fd hm h1) (ShL.get_fd hm h2)
     · cases h
   · cases h
theorem Cod.get_fd {S:VS τ} {S0:St} (hm:Mo S S0) {e:Nat} {c:Cod τ e} {cs:List (V τ)} {a:(τ e).α} (h:c.get S.Θ S.ent cs=some a):FDL S0 (Ck S.Θ cs) ((τ e).E.d a).cells:=by
 obtain ⟨z,hz,rfl⟩:=Cod.get_ss h
 have:=ShL.get_fd hm (Θ':=S.Θ) hz
 rwa [←c.h2 z,c.h1 S.Θ] at this

theorem aDl {Θ Θ':Th τ} {own:Nat→VE τ} {s:Sh} {v:V τ} {a:s.ty τ} (hf:s.firm v=true) (h:s.get Θ own v=some a):v.d Θ=(s.put a).d Θ':=by
 cases s <;> cases v <;> simp only [Hp,Sh.firm,reduceCtorEq,Cq] at h hf
 case int.int k k' n=>obtain ⟨h1,h⟩:=aX h; cases h; cases qN h1; rfl
 case u8.u8 c=>cases h; rfl
 case bool.bool b=>cases h; rfl
 case bool.lit b=>cases h; rfl
 case flt.flt k k' n=>obtain ⟨h1,h⟩:=aX h; cases h; cases aJx h1; rfl
 case str.str l=>cases h; rfl
 case sl.sl e f e' l =>
  cases f with
  | true=>cases h
  | false =>
    simp only [Hp] at h
    split at h
    · rename_i he; subst he; cases h; rfl
    · cases h
theorem aEy {Θ Θ':Th τ} {own:Nat→VE τ}:∀ {ss:List Sh} {cs:List (V τ)} {a:FN τ ss},FV ss cs=true→Dt Θ own ss cs=some a→Ck Θ cs=Ck Θ' (ED ss a)
 | [],[],_,_,_=>rfl
 | [],_::_,_,_,h=>by simp [Dt] at h
 | _::_,[],_,_,h=>by simp [Dt] at h
 | s :: r,v::vs,a,hf,h=>by
   simp only [FV,Af] at hf
   simp only [Dt] at h
   split at h
   · rename_i a1 h1
     split at h
     · rename_i a2 h2
       cases h
       simp only [Ck,ED,aDl (Θ':=Θ') hf.1 h1,aEy (Θ':=Θ') hf.2 h2]
     · cases h
   · cases h
theorem Sh.firm8_get {Θ Θ':Th τ} {own:Nat→VE τ} {s:Sh} {v:V τ} {a:s.ty τ} (hf:s.firm8 v=true) (h:s.get Θ own v=some a):v.d Θ=(s.put a).d Θ':=by
 cases s
 case u8 =>
  cases v
  case int i n =>
   simp only [Hp] at h
   obtain ⟨h1,h⟩:=aX h
   cases qN h1
   simp only [V.d,Sh.put,aIK h]
  all_goals exact aDl hf h
 all_goals exact aDl hf h
theorem ShL.firm8_get {Θ Θ':Th τ} {own:Nat→VE τ}:∀ {ss:List Sh} {vs:List (V τ)} {a:FN τ ss},Gu ss vs=true→Dt Θ own ss vs=some a→Ck Θ vs=Ck Θ' (ED ss a)
 | [],[],_,_,_=>rfl
 | [],_::_,_,_,h=>by simp [Dt] at h
 | _::_,[],_,_,h=>by simp [Dt] at h
 | s :: r,v::vs,a,hf,h=>by
   simp only [Gu,Af] at hf
   simp only [Dt] at h
   split at h
   · rename_i a1 h1
     split at h
     · rename_i a2 h2
       cases h
       simp only [Ck,ED,Sh.firm8_get (Θ':=Θ') hf.1 h1,ShL.firm8_get (Θ':=Θ') hf.2 h2]
     · cases h
   · cases h
theorem Cod.firm8 {Θ:Th τ} {own:Nat→VE τ} {e:Nat} {c:Cod τ e} {cs:List (V τ)} {a:(τ e).α} (hf:Gu c.ss cs=true) (h:c.get Θ own cs=some a):Ck Θ cs=((τ e).E.d a).cells:=by
 obtain ⟨z,hz,rfl⟩:=Cod.get_ss h
 have:=ShL.firm8_get (Θ':=Θ) hf hz
 rwa [←c.h2 z,c.h1 Θ] at this
theorem optK_e {α β:Type} {o:Ad α} {k:α→Ad β} {r:β} (h:optK o k=some r):∃ a,o=some a∧k a=some r:=by
 cases o with
 | none=>cases h
 | some a=>exact ⟨a,rfl,h⟩
theorem Sh.getK_e {R:Type} {Γ:Ga} {G:Gd} {Θ:Th τ} {s:Sh} {v:V τ} {k:s.ty τ→Ad R} {r:R} (h:s.getK Γ G Θ v k=some r):∃ a,(G.val Γ=true→s.get Θ (fun _=>.none) v=some a)∧k a=some r:=by
 have gen:optK (s.get Θ (fun _=>.none) v) k=some r→∃ a,(G.val Γ=true→s.get Θ (fun _=>.none) v=some a)∧k a=some r:=fun h =>
  let ⟨a,h1,h2⟩:=optK_e h; ⟨a,fun _=>h1,h2⟩
 cases s
 case u8 =>
  cases v
  case int i n =>
   simp only [Sh.getK] at h
   obtain ⟨h1,h⟩:=aX h
   obtain ⟨u,h2,h3⟩:=pt_e h
   exact ⟨u,fun hG=>by show bt (ikeq .u8 i) (toU8 n) none=some u; rw [h1]; exact h2 hG,h3⟩
  all_goals exact gen h
 all_goals exact gen h
theorem ShL.getK_e {R:Type} {Γ:Ga} {G:Gd} {Θ:Th τ}:∀ {ss:List Sh} {vs:List (V τ)} {k:FN τ ss→Ad R} {r:R},Ih Γ G Θ ss vs k=some r→∃ a,(G.val Γ=true→Dt Θ (fun _=>.none) ss vs=some a)∧k a=some r
 | [],[],k,r,h=>⟨(),fun _=>rfl,h⟩
 | [],_::_,_,_,h=>by cases h
 | _::_,[],_,_,h=>by cases h
 | s::ss,v::vs,k,r,h=>by
   simp only [Ih] at h
   obtain ⟨a,h1,h⟩:=Sh.getK_e h
   obtain ⟨z,h2,h⟩:=ShL.getK_e h
   exact ⟨(a,z),fun hG=>by simp only [Dt,h1 hG,h2 hG],h⟩
theorem Cod.getK_e {R:Type} {e:Nat} {c:Cod τ e} {Γ:Ga} {G:Gd} {Θ:Th τ} {vs:List (V τ)} {k:(τ e).α→Ad R} {r:R} (h:c.getK Γ G Θ vs k=some r):∃ a,(G.val Γ=true→c.get Θ (fun _=>.none) vs=some a)∧k a=some r:=by
 obtain ⟨z,h1,h2⟩:=ShL.getK_e h
 exact ⟨_,fun hG=>by simp only [Cod.get,h1 hG],h2⟩
theorem Cod.firm {Θ:Th τ} {own:Nat→VE τ} {e:Nat} {c:Cod τ e} {cs:List (V τ)} {a:(τ e).α} (hf:FV c.ss cs=true) (h:c.get Θ own cs=some a):Ck Θ cs=((τ e).E.d a).cells:=by
 obtain ⟨z,hz,rfl⟩:=Cod.get_ss h
 have:=aEy (Θ':=Θ) hf hz
 rwa [←c.h2 z,c.h1 Θ] at this

variable {κ:∀ e,Cod τ e}
theorem putc (Θ:Th τ) {e:Nat} (a:(τ e).α):Ck Θ ((κ e).put a)=((τ e).E.d a).cells:=(κ e).h1 Θ a
theorem AK.get_sub {Θ Θ':Th τ} (s:AK) {v:V τ} {a:s.ty τ} (h:s.get κ Θ (fun _=>.none) v=some a):Sub (v.d Θ) ((s.put κ a).d Θ'):=by
 induction s generalizing v with
 | one s=>exact Sh.get_sub h
 | agg e =>
   cases v with
   | agg cs =>
     show Sub (.agg (Ck Θ cs)) (.agg (Ck Θ' ((κ e).put a)))
     rw [putc]; exact .agg (Cod.get_sub h)
   | _=>cases h
 | ptr e =>
   cases v with
   | fptr cs =>
     obtain ⟨h1,h⟩:=aX (show bt (FV (κ e).ss cs) ((κ e).get Θ _ cs) none=some a from h)
     show Sub (.fptr (Ck Θ cs)) (.fptr (Ck Θ' ((κ e).put a)))
     rw [putc,Cod.firm h1 h]; exact .refl _
   | _=>cases h
 | nilp =>
   cases v with
   | nilp=>exact .refl _
   | _=>cases h
 | fn0 f =>
   cases v with
   | fn g cs =>
     simp only [Hq] at h
     split at h
     · obtain ⟨h1,h⟩:=aX h
       rw [Br] at h1; subst h1; exact .refl _
     · cases h
   | _=>cases h
 | fn1 f x ih =>
   cases v with
   | fn g cs =>
     simp only [Hq] at h
     split at h
     · obtain ⟨h1,h⟩:=aX h
       rw [Br] at h1; subst h1
       exact .fn (.cons (ih h) .nil)
     · cases h
   | _=>cases h
 | fn2 f x y ih1 ih2 =>
   cases v with
   | fn g cs =>
     simp only [Hq] at h
     split at h
     · obtain ⟨h1,h⟩:=aX h
       rw [Br] at h1; subst h1
       split at h
       · rename_i u hu
         split at h
         · rename_i w hw
           cases h
           exact .fn (.cons (ih1 hu) (.cons (ih2 hw) .nil))
         · cases h
       · cases h
     · cases h
   | _=>cases h
 | fn3 f x y q ih1 ih2 ih3 =>
   cases v with
   | fn g cs =>
     simp only [Hq] at h
     split at h
     · obtain ⟨h1,h⟩:=aX h
       rw [Br] at h1; subst h1
       split at h
       · rename_i u hu
         split at h
         · rename_i w hw
           split at h
           · rename_i j hj
             cases h
             exact .fn (.cons (ih1 hu) (.cons (ih2 hw) (.cons (ih3 hj) .nil)))
           · cases h
         · cases h
       · cases h
     · cases h
   | _=>cases h
theorem AK.get_fd {S:VS τ} {S0:St} (hm:Mo S S0) {Θ':Th τ} (s:AK) {v:V τ} {a:s.ty τ} (h:s.get κ S.Θ S.ent v=some a):FD S0 (v.d S.Θ) ((s.put κ a).d Θ'):=by
 induction s generalizing v with
 | one s=>exact Sh.get_fd hm h
 | agg e =>
   cases v with
   | agg cs =>
     show FD S0 (.agg (Ck S.Θ cs)) (.agg (Ck Θ' ((κ e).put a)))
     rw [putc]; exact .agg (Cod.get_fd hm h)
   | _=>cases h
 | ptr e =>
   cases v with
   | fptr cs =>
     obtain ⟨h1,h⟩:=aX (show bt (FV (κ e).ss cs) ((κ e).get S.Θ S.ent cs) none=some a from h)
     show FD S0 (.fptr (Ck S.Θ cs)) (.fptr (Ck Θ' ((κ e).put a)))
     rw [putc,Cod.firm h1 h]; exact .refl _
   | ref id off =>
     simp only [Hq] at h
     split at h
     · rename_i t cs he
       cases off with
       | zero =>
         show FD S0 (.ref id 0) (.fptr (Ck Θ' ((κ e).put a)))
         rw [putc]
         exact .ref (hm.blk he) (by rw [EV]) (Cod.get_fd hm h) ((τ e).E.nr a)
       | succ n=>cases h
     · cases h
   | _=>cases h
 | nilp =>
   cases v with
   | nilp=>exact .refl _
   | _=>cases h
 | fn0 f =>
   cases v with
   | fn g cs =>
     simp only [Hq] at h
     split at h
     · obtain ⟨h1,h⟩:=aX h
       rw [Br] at h1; subst h1; exact .refl _
     · cases h
   | _=>cases h
 | fn1 f x ih =>
   cases v with
   | fn g cs =>
     simp only [Hq] at h
     split at h
     · obtain ⟨h1,h⟩:=aX h
       rw [Br] at h1; subst h1
       exact .fn (.cons (ih h) .nil)
     · cases h
   | _=>cases h
 | fn2 f x y ih1 ih2 =>
   cases v with
   | fn g cs =>
     simp only [Hq] at h
     split at h
     · obtain ⟨h1,h⟩:=aX h
       rw [Br] at h1; subst h1
       split at h
       · rename_i u hu
         split at h
         · rename_i w hw
           cases h
           exact .fn (.cons (ih1 hu) (.cons (ih2 hw) .nil))
         · cases h
       · cases h
     · cases h
   | _=>cases h
 | fn3 f x y q ih1 ih2 ih3 =>
   cases v with
   | fn g cs =>
     simp only [Hq] at h
     split at h
     · obtain ⟨h1,h⟩:=aX h
       rw [Br] at h1; subst h1
       split at h
       · rename_i u hu
         split at h
         · rename_i w hw
           split at h
           · rename_i j hj
             cases h
             exact .fn (.cons (ih1 hu) (.cons (ih2 hw) (.cons (ih3 hj) .nil)))
           · cases h
         · cases h
       · cases h
     · cases h
   | _=>cases h
theorem AKL.get_sub {Θ Θ':Th τ}:∀ {ss:List AK} {vs:List (V τ)} {a:FF τ ss},EE κ Θ (fun _=>.none) ss vs=some a→SubL (Ck Θ vs) (Ck Θ' (Du κ ss a))
 | [],[],_,_=>by simp only [Ck,Du]; exact .nil
 | [],_::_,_,h=>by simp [EE] at h
 | _::_,[],_,h=>by simp [EE] at h
 | s :: r,v::vs,a,h=>by
   simp only [EE] at h
   split at h
   · rename_i a1 h1
     split at h
     · rename_i a2 h2
       cases h
       exact .cons (AK.get_sub s h1) (AKL.get_sub h2)
     · cases h
   · cases h
theorem AKL.get_fd {S:VS τ} {S0:St} (hm:Mo S S0) {Θ':Th τ}:∀ {ss:List AK} {vs:List (V τ)} {a:FF τ ss},EE κ S.Θ S.ent ss vs=some a→FDL S0 (Ck S.Θ vs) (Ck Θ' (Du κ ss a))
 | [],[],_,_=>by simp only [Ck,Du]; exact .nil
 | [],_::_,_,h=>by simp [EE] at h
 | _::_,[],_,h=>by simp [EE] at h
 | s :: r,v::vs,a,h=>by
   simp only [EE] at h
   split at h
   · rename_i a1 h1
     split at h
     · rename_i a2 h2
       cases h
       exact .cons (AK.get_fd hm s h1) (AKL.get_fd hm h2)
     · cases h
   · cases h
theorem RK.get_fd {S:VS τ} {S0:St} (hm:Mo S S0) {Θ':Th τ}:∀ {ss:List AK} {vs:List (V τ)} {a:Bb τ ss},Hr κ S.Θ S.ent ss vs=some a→FDL S0 (Ck S.Θ vs) (Ck Θ' (DS κ ss a))
 | [],[],_,_=>by simp only [Ck,DS]; exact .nil
 | [],_::_,_,h=>by simp [Hr] at h
 | [_],[],_,h=>by simp [Hr] at h
 | [s],[v],a,h=>by simp only [Hr] at h; simp only [DS]; exact .cons (AK.get_fd hm s h) .nil
 | [s],v::w::vs,a,h=>by simp [Hr] at h
 | s::t::r,[],a,h=>by simp [Hr] at h
 | s :: t::r,v::vs,a,h=>by
   simp only [Hr] at h
   split at h
   · rename_i a1 h1
     split at h
     · rename_i a2 h2
       cases h
       exact .cons (AK.get_fd hm s h1) (RK.get_fd hm h2)
     · cases h
   · cases h

theorem Sh.put_d (Θ Θ':Th τ) (s:Sh) (a:s.ty τ):(s.put a).d Θ=(s.put a).d Θ':=by cases s <;> rfl
theorem AK.put_d (Θ Θ':Th τ) (s:AK) (a:s.ty τ):(s.put κ a).d Θ=(s.put κ a).d Θ':=by
 induction s with
 | one s=>exact Sh.put_d _ _ _ _
 | agg e=>show D.agg (Ck Θ ((κ e).put a)) = .agg (Ck Θ' ((κ e).put a)); rw [putc,putc]
 | ptr e=>show D.fptr (Ck Θ ((κ e).put a)) = .fptr (Ck Θ' ((κ e).put a)); rw [putc,putc]
 | nilp=>rfl
 | fn0 f=>rfl
 | fn1 f x ih=>simp only [AK.put,V.d,Ck,ih]
 | fn2 f x y ih1 ih2=>simp only [AK.put,V.d,Ck,ih1,ih2]
 | fn3 f x y q ih1 ih2 ih3=>simp only [AK.put,V.d,Ck,ih1,ih2,ih3]
theorem RK.put_d (Θ Θ':Th τ):∀ (ss:List AK) (a:Bb τ ss),Ck Θ (DS κ ss a)=Ck Θ' (DS κ ss a)
 | [],_=>rfl
 | [s],a=>by simp only [DS,Ck,AK.put_d Θ Θ']
 | s::t::r,a=>by simp only [DS,Ck,AK.put_d Θ Θ' s,RK.put_d Θ Θ' (t::r)]
theorem AKL.put_d (Θ Θ':Th τ):∀ (ss:List AK) (a:FF τ ss),Ck Θ (Du κ ss a)=Ck Θ' (Du κ ss a)
 | [],_=>rfl
 | s::r,a=>by simp only [Du,Ck,AK.put_d Θ Θ' s,AKL.put_d Θ Θ' r]
theorem ret_d (Θ:Th τ) (vs:List (V τ)):(Hs vs).d Θ=retD (Ck Θ vs):=by
 cases vs with
 | nil=>rfl
 | cons v r=>cases r <;> simp [Hs,retD,Ck,V.d]
theorem Sh.put_nr (Θ:Th τ) (s:Sh) (a:s.ty τ):((s.put a).d Θ).refsIn noRef=true:=by cases s <;> rfl
theorem AK.put_nr (Θ:Th τ) (s:AK) (a:s.ty τ):((s.put κ a).d Θ).refsIn noRef=true:=by
 induction s with
 | one s=>exact Sh.put_nr _ _ _
 | agg e=>show AG noRef (Ck Θ ((κ e).put a))=true; rw [putc]; exact (τ e).E.nr a
 | ptr e=>rfl
 | nilp=>rfl
 | fn0 f=>rfl
 | fn1 f x ih=>simp only [AK.put,V.d,Ck,Bq,AG,ih,Bs]
 | fn2 f x y ih1 ih2=>simp only [AK.put,V.d,Ck,Bq,AG,ih1,ih2,Bs]
 | fn3 f x y q ih1 ih2 ih3=>simp only [AK.put,V.d,Ck,Bq,AG,ih1,ih2,ih3,Bs]
theorem AKL.put_nr (Θ:Th τ):∀ (ss:List AK) (a:FF τ ss),AG noRef (Ck Θ (Du κ ss a))=true
 | [],_=>rfl
 | s::r,a=>by simp only [Du,Ck,AG,AK.put_nr,AKL.put_nr Θ r,Bs]
theorem RK.put_nr (Θ:Th τ):∀ (ss:List AK) (a:Bb τ ss),AG noRef (Ck Θ (DS κ ss a))=true
 | [],_=>rfl
 | [s],a=>by simp only [DS,Ck,AG,AK.put_nr,Bs]
 | s::t::r,a=>by simp only [DS,Ck,AG,AK.put_nr,RK.put_nr Θ (t::r),Bs]
theorem Sh.put_nm (Θ:Th τ) (s:Sh) (a:s.ty τ) (h:s.mf=true):((s.put a).d Θ).nomem=true:=by cases s <;> first | rfl | cases h
theorem ShL.put_nm (Θ:Th τ):∀ (ss:List Sh) (a:FN τ ss),ss.all Sh.mf=true→DX (Ck Θ (ED ss a))=true
 | [],_,_=>rfl
 | s::r,a,h=>by
   simp only [CR,Af] at h
   simp only [ED,Ck,DX,Sh.put_nm Θ s a.1 h.1,ShL.put_nm Θ r a.2 h.2,Bs]
theorem AK.put_nm (Θ:Th τ) (s:AK) (a:s.ty τ) (h:s.mf κ=true):((s.put κ a).d Θ).nomem=true:=by
 cases s
 case one s=>exact Sh.put_nm _ _ _ h
 case agg e=>exact ShL.put_nm Θ _ _ h
 case nilp=>rfl
 all_goals cases h
theorem RK.put_nm (Θ:Th τ):∀ (ss:List AK) (a:Bb τ ss),ss.all (AK.mf κ)=true→DX (Ck Θ (DS κ ss a))=true
 | [],_,_=>rfl
 | [s],a,h=>by
   simp only [CR,Af] at h
   simp only [DS,Ck,DX,AK.put_nm Θ s a h.1,Bs]
 | s::t::r,a,h=>by
   simp only [CR,Af] at h
   simp only [DS,Ck,DX,AK.put_nm Θ s a.1 h.1,RK.put_nm Θ (t::r) a.2 (by simp only [CR,Af]; exact h.2),Bs]
theorem aMv:∀ {ds:List D},DX ds=true→(retD ds).nomem=true
 | [],_=>rfl
 | [d],h=>by simpa [retD,DX] using h
 | d::e::r,h=>by simpa [retD,D.nomem] using h
end
end Go.IL
open Go.IL.AK renaming get_sub → GF,put_nr → EK
open Go.IL.Ce renaming own → Ht,put → FO
open Go.IL.CeL renaming ents → DZ,get → Ep,put → Fv,ths → Fy,ty → EF
open Go.IL.D renaming ren → Dv
open Go.IL.Th renaming len → EP
open List renaming mem_append → As,mem_append_left → Dw,mem_append_right → Dr,not_mem_nil → AW
namespace Go.IL
theorem Wk.of {d d':D} (h:Sub d d'):Wk d d':=fun _ _ _ k=>Rd.sub h k
theorem WkL.of:∀ {ds ds':List D},SubL ds ds'→WkL ds ds'
 | _,_,.nil=>.nil
 | _,_,.cons h t=>.cons (.of h) (WkL.of t)
theorem Wk.agg {ds ds':List D} (h:WkL ds ds'):Wk (.agg ds) (.agg ds'):=fun E β v k=>by
 cases k with | agg _ vs _ h1=>exact .agg _ _ _ (h1.wk h)
theorem Wk.fn {f:BP} {ds ds':List D} (h:WkL ds ds'):Wk (.fn f ds) (.fn f ds'):=fun E β v k=>by
 cases k with | fn _ _ vs _ h1=>exact .fn _ _ _ _ (h1.wk h)
theorem SV.wk {S:St} {x:Ag} {d d':D} (h:SV S x d) (k:Wk d d'):SV S x d':=fun E β v hv=>k _ _ _ (h E β v hv)
theorem WkL.app {a a' b b':List D} (h:WkL a a') (k:WkL b b'):WkL (a++b) (a'++b'):=by
 induction h with
 | nil=>exact k
 | cons h t ih=>exact .cons h ih

mutual
theorem aCT (ρ:Nat→Nat):∀ (d:D),d.refsIn noRef=true→d.ren ρ=d
 | .ref _ _,h | .rsl _ _ _ _ _,h | .gsl _ _ _,h | .osl _ _ _,h | .yld _,h=>by cases h
 | .agg cs,h=>by simp only [Dv,uO ρ cs (by simpa [Bq] using h)]
 | .tuple cs,h=>by simp only [Dv,uO ρ cs (by simpa [Bq] using h)]
 | .fn f cs,h=>by simp only [Dv,uO ρ cs (by simpa [Bq] using h)]
 | .mv f cs,h=>by simp only [Dv,uO ρ cs (by simpa [Bq] using h)]
 | .cnd b d,h=>by simp only [Dv,aCT ρ d (by simpa [Bq] using h)]
 | .dead,_ | .bool _,_ | .int _ _,_ | .float _ _,_ | .str _,_ | .slice _ _,_ | .nils,_ | .fptr _,_ | .nilp,_ | .nilf,_ | .nili,_=>rfl
theorem uO (ρ:Nat→Nat):∀ (ds:List D),AG noRef ds=true→BV ρ ds=ds
 | [],_=>rfl
 | d::ds,h=>by
   simp only [AG,Af] at h
   simp only [BV,aCT ρ d h.1,uO ρ ds h.2]
end
mutual
theorem aGM (p:Nat→Bool):∀ (d:D),d.refsIn noRef=true→d.refsIn p=true
 | .ref _ _,h | .rsl _ _ _ _ _,h | .gsl _ _ _,h | .osl _ _ _,h | .yld _,h=>by cases h
 | .agg cs,h=>by simp only [Bq] at h ⊢; exact wY p cs h
 | .tuple cs,h=>by simp only [Bq] at h ⊢; exact wY p cs h
 | .fn f cs,h=>by simp only [Bq] at h ⊢; exact wY p cs h
 | .mv f cs,h=>by simp only [Bq] at h ⊢; exact wY p cs h
 | .cnd b d,h=>by simp only [Bq] at h ⊢; exact aGM p d h
 | .dead,_ | .bool _,_ | .int _ _,_ | .float _ _,_ | .str _,_ | .slice _ _,_ | .nils,_ | .fptr _,_ | .nilp,_ | .nilf,_ | .nili,_=>rfl
theorem wY (p:Nat→Bool):∀ (ds:List D),AG noRef ds=true→AG p ds=true
 | [],_=>rfl
 | d::ds,h=>by
   simp only [AG,Af] at h ⊢
   exact ⟨aGM p d h.1,wY p ds h.2⟩
end
mutual
theorem aBf {ρ ρ':Nat→Nat} {p:Nat→Bool} (h:∀ i,p i=true→ρ i=ρ' i):∀ (d:D),d.refsIn p=true→d.ren ρ=d.ren ρ'
 | .ref i _,k=>by simp only [Dv,h i (by simpa [Bq] using k)]
 | .rsl i _ _ _ _,k=>by simp only [Dv,h i (by simpa [Bq] using k)]
 | .gsl i _ _,k=>by simp only [Dv,h i (by simpa [Bq] using k)]
 | .osl i _ _,k=>by simp only [Dv,h i (by simpa [Bq] using k)]
 | .yld i,k=>by simp only [Dv,h i (by simpa [Bq] using k)]
 | .agg cs,k=>by simp only [Dv,sY h cs (by simpa [Bq] using k)]
 | .tuple cs,k=>by simp only [Dv,sY h cs (by simpa [Bq] using k)]
 | .fn f cs,k=>by simp only [Dv,sY h cs (by simpa [Bq] using k)]
 | .mv f cs,k=>by simp only [Dv,sY h cs (by simpa [Bq] using k)]
 | .cnd b d,k=>by simp only [Dv,aBf h d (by simpa [Bq] using k)]
 | .dead,_ | .bool _,_ | .int _ _,_ | .float _ _,_ | .str _,_ | .slice _ _,_ | .nils,_ | .fptr _,_ | .nilp,_ | .nilf,_ | .nili,_=>rfl
theorem sY {ρ ρ':Nat→Nat} {p:Nat→Bool} (h:∀ i,p i=true→ρ i=ρ' i):∀ (ds:List D),AG p ds=true→BV ρ ds=BV ρ' ds
 | [],_=>rfl
 | d::ds,k=>by
   simp only [AG,Af] at k
   simp only [BV,aBf h d k.1,sY h ds k.2]
end

section
variable {τ:Nat→El} {κ:∀ e,Cod τ e} {S:VS τ} {Sd:St}
theorem aMi (Θ:Th τ):∀ (ss:List Sh) (a:FN τ ss),AG noRef (Ck Θ (ED ss a))=true
 | [],_=>rfl
 | s::r,a=>by simp only [ED,Ck,AG,Sh.put_nr,aMi Θ r,Bs]
theorem aB6 (Θ:Th τ) (e:Nat) (a:(τ e).α):AG noRef (Ck Θ ((κ e).put a))=true:=aMi _ _ _
theorem aDp (Θ:Th τ) (e:Nat) (a:(τ e).α):Ck Θ ((κ e).put a)=((τ e).E.d a).cells:=(κ e).h1 Θ a

def ThOk (Θ:Th τ) (l:Th τ):Prop:=∀ y∈l,Th.at Θ y.1 y.2.1=y.2.2
theorem ThOk.l {Θ a b:Th τ} (h:ThOk Θ (a++b)):ThOk Θ a:=fun y hy=>h y (Dw _ hy)
theorem ThOk.r {Θ a b:Th τ} (h:ThOk Θ (a++b)):ThOk Θ b:=fun y hy=>h y (Dr _ hy)

theorem Ce.get_ok (hm:Mo S Sd) {ρ:List (Nat×Nat)} {x:Ce} {v:V τ} {a:x.ty τ} (h:x.get κ S ρ v=some a) {Θ':Th τ} (hΘ:ThOk Θ' (x.ths idn a)):Wk (v.d S.Θ) (((x.put κ idn idn a).d Θ').ren (ren ρ)):=by
 cases x with
 | pl k =>
   simp only [FO]
   rw [aCT _ _ (EK _ _ _)]
   exact .of (GF _ h)
 | os c elt e =>
   have hl:=hΘ (c,⟨e,a⟩) (by simp [Ce.ths])
   simp only [FO,idn,V.d,EP,hl,Dv]
   simp only [Ce.get] at h
   split at h
   · rename_i id e' c'
     split at h
     · rename_i elt' e'' c'' ls he
       split at h
       · rename_i heq
         subst heq
         obtain ⟨hc,hh⟩:=aX h; clear h
         simp only [Af,Br] at hc
         obtain ⟨rfl,rfl,rfl,hcr⟩:=hc
         cases hh
         have:=hm.len _ _ _ _ _ he
         simp only [V.d,this,hcr]
         exact .refl _
       · cases h
     · cases h
   · split at h
     · cases h; exact fun E β v hv=>by cases hv; exact .nosl _ _ _
     · cases h
   · cases h
 | rf id off =>
   simp only [Ce.get] at h
   split at h
   · obtain ⟨hc,hh⟩:=aX h
     simp only [Af,Br] at hc
     obtain ⟨rfl,rfl⟩:=hc
     simp only [FO,idn,V.d,Dv]; exact .refl _
   · cases h
 | re id e k =>
   simp only [Ce.get] at h
   split at h
   · obtain ⟨hc,hh⟩:=aX h
     simp only [Af,Br] at hc
     obtain ⟨rfl,rfl,rfl⟩:=hc
     cases hh
     simp only [FO,idn,V.d,Dv]; exact .refl _
   · cases h
 | nl =>
   simp only [Ce.get] at h
   split at h
   · simp only [FO,V.d,Dv]; exact .refl _
   · cases h
theorem CeL.get_ok (hm:Mo S Sd) {ρ:List (Nat×Nat)}:∀ {l:List Ce} {vs:List (V τ)} {a:EF τ l},Ep κ S ρ l vs=some a→∀ {Θ':Th τ},ThOk Θ' (Fy idn l a)→WkL (Ck S.Θ vs) (BV (ren ρ) (Ck Θ' (Fv κ idn idn l a)))
 | [],[],_,_,_,_=>.nil
 | [],_::_,_,h,_,_=>by simp [Ep] at h
 | _::_,[],_,h,_,_=>by simp [Ep] at h
 | x :: l,v::vs,a,h,Θ',hΘ=>by
   simp only [Ep] at h
   split at h
   · rename_i a1 h1
     split at h
     · rename_i a2 h2
       cases h
       exact .cons (Ce.get_ok hm h1 hΘ.l) (CeL.get_ok hm h2 hΘ.r)
     · cases h
   · cases h

def Er (Sd:St) (ρ:Nat→Nat) (i:Nat) (en:Ent):Prop:=∃ e ds,en = .blk e ds∧((∃ ds',Sd.ent (ρ i) = .blk e ds'∧WkL ds' (BV ρ ds))∨(Sd.ent (ρ i) = .fresh∧ds=[]))
theorem aB4 {e:Nat} (l:List (τ e).α):AG noRef (Al (l.map (τ e).E.d))=true:=Enc.noRef (τ e).E l
theorem Er.lb (hm:Mo S Sd) {ρ:Nat→Nat} {id t e c:Nat} {l:List (τ e).α} (h:S.ent (ρ id) = .lb t e c l) (Θ':Th τ) (c':Nat):Er Sd ρ id ((VE.lb t e c' l:VE τ).d Θ'):=by
 have h2:Sd.ent (ρ id) = .blk t (Al (l.map (τ e).E.d)):=by
  rcases hm.ent (ρ id) with h1 | h1
  · rw [h1,h]
  · rw [h] at h1; cases h1
 have h3:WkL (Al (l.map (τ e).E.d)) (BV ρ (Al (l.map (τ e).E.d))):=by rw [uO _ _ (aB4 l)]; exact .refl _
 exact ⟨t,Al (l.map (τ e).E.d),rfl,.inl ⟨_,h2,h3⟩⟩
theorem Ce.get_er (hm:Mo S Sd) {ρ:List (Nat×Nat)} {x:Ce} {v:V τ} {a:x.ty τ} (h:x.get κ S ρ v=some a) (Θ':Th τ):∀ y∈x.ents idn idn a,Er Sd (ren ρ) y.1 (y.2.d Θ'):=by
 intro y hy
 cases x <;> simp only [Ce.ents,AW,Av] at hy
 subst hy
 rename_i c elt e
 simp only [Ce.get] at h
 split at h
 · rename_i id e' c'
   split at h
   · rename_i elt' e'' c'' ls he
     split at h
     · rename_i heq
       subst heq
       obtain ⟨hc,hh⟩:=aX h; clear h
       simp only [Af,Br] at hc
       obtain ⟨rfl,rfl,rfl,hcr⟩:=hc
       cases hh
       exact Er.lb hm (by simp only [idn]; rw [hcr]; exact he) _ _
     · cases h
   · cases h
 · split at h
   · rename_i he
     cases h
     refine ⟨elt,_,rfl,.inr ⟨?_,rfl⟩⟩
     rcases hm.ent (ren ρ c) with h1 | h1
     · simp only [idn]; rw [h1,he]
     · rw [he] at h1; cases h1
   · cases h
 · cases h
theorem CeL.get_er (hm:Mo S Sd) {ρ:List (Nat×Nat)} (Θ':Th τ):∀ {l:List Ce} {vs:List (V τ)} {a:EF τ l},Ep κ S ρ l vs=some a→∀ y∈DZ idn idn l a,Er Sd (ren ρ) y.1 (y.2.d Θ')
 | [],_,_,_,y,hy=>by cases hy
 | _::_,[],_,h,_,_=>by simp [Ep] at h
 | x :: l,v::vs,a,h,y,hy=>by
   simp only [Ep] at h
   split at h
   · rename_i a1 h1
     split at h
     · rename_i a2 h2
       cases h
       rcases As.1 hy with hy | hy
       · exact Ce.get_er hm h1 Θ' y hy
       · exact CeL.get_er hm Θ' h2 y hy
     · cases h
   · cases h

theorem Ce.put_in (p:Nat→Bool) (Θ':Th τ) {x:Ce} (a:x.ty τ) (h1:∀ i∈x.own,p i=true) (h2:∀ i∈x.refs,p i=true):((x.put κ idn idn a).d Θ').refsIn p=true:=by
 cases x with
 | pl k=>exact aGM p _ (EK _ _ _)
 | os c elt e=>simp only [FO,V.d,Bq]; exact h1 c (by simp [Ht])
 | rf id off=>simp only [FO,V.d,Bq]; exact h2 id (by simp [Ce.refs])
 | re id e k=>simp only [FO,V.d,Bq]; exact h2 id (by simp [Ce.refs])
 | nl=>rfl
theorem CeL.put_in (p:Nat→Bool) (Θ':Th τ):∀ {l:List Ce} (a:EF τ l),(∀ i∈l.flatMap Ht,p i=true)→(∀ i∈l.flatMap Ce.refs,p i=true)→AG p (Ck Θ' (Fv κ idn idn l a))=true
 | [],_,_,_=>rfl
 | x::l,a,h1,h2=>by
   simp only [Fv,Ck,AG,Af]
   simp only [Be,As] at h1 h2
   exact ⟨Ce.put_in p Θ' a.1 (fun i hi=>h1 i (.inl hi)) (fun i hi=>h2 i (.inl hi)),CeL.put_in p Θ' a.2 (fun i hi=>h1 i (.inr hi)) (fun i hi=>h2 i (.inr hi))⟩
theorem CeL.ents_own:∀ {l:List Ce} (a:EF τ l),(DZ idn idn l a).map (·.1)=l.flatMap Ht
 | [],_=>rfl
 | x::l,a=>by
   simp only [DZ,BR,Be,CeL.ents_own a.2]
   cases x <;> rfl
theorem CeL.ths_own:∀ {l:List Ce} (a:EF τ l),(Fy idn l a).map (·.1)=l.flatMap Ht
 | [],_=>rfl
 | x::l,a=>by
   simp only [Fy,BR,Be,CeL.ths_own a.2]
   cases x <;> rfl
theorem CeL.ents_lb {σ cn:Nat→Nat} (l:List Ce) (a:EF τ l):∀ y∈DZ σ cn l a,∃ t e c ls,y.2 = .lb t e c ls:=by
 induction l with
 | nil=>intro y hy; cases hy
 | cons x l ih =>
   intro y hy
   rcases As.1 hy with hy | hy
   · cases x <;> simp only [Ce.ents,AW,Av] at hy
     subst hy; exact ⟨_,_,_,_,rfl⟩
   · exact ih a.2 y hy
theorem CeL.ents_th {σ cn:Nat→Nat} (l:List Ce) (a:EF τ l):∀ y∈DZ σ cn l a,∀ t e c ls,y.2 = .lb t e c ls→(c,(⟨e,ls⟩:TL τ))∈Fy cn l a:=by
 induction l with
 | nil=>intro y hy; cases hy
 | cons x l ih =>
   intro y hy t e c ls h
   rcases As.1 hy with hy | hy
   · refine Dw _ ?_
     cases x <;> simp only [Ce.ents,AW,Av] at hy
     subst hy; cases h; simp [Ce.ths]
   · exact Dr _ (ih a.2 y hy t e c ls h)
end
end Go.IL
open Bool renaming not_eq_true' → CO
open Go.IL.AK renaming put_d → Hv
open Go.IL.CeL renaming ents_lb → FZ,ents_own → Gv,get_er → HG,get_ok → HF,put_in → HH,ths_own → GV
open Go.IL.Cod renaming get_sub → FY
open Go.IL.Ent renaming ren → Fm
open Go.IL.IT renaming ents → FW,get → HR,refs → HC,slots → Ig
open Go.IL.Wr renaming parts → If
open List renaming contains_eq_mem → Eo,map_nil → BI,mem_flatMap → BQ,nodup_append → HI
namespace Go.IL
def dH {τ:Nat→El} (Θ:Th τ) (ui:List (Nat×VE τ)):List (Nat×Ent):=ui.map fun x=>(x.1,x.2.d Θ)
def dS {τ:Nat→El} (Θ:Th τ) (Γ:Ga) (us:List (Nat×Sv τ)):List (Nat×D):=us.map fun x=>(x.1,x.2.d Θ Γ)
theorem sR {α β:Type} (f:α→β) (z:α) (t:Nat):∀ (l:List (Nat×α)),look (f z) t (l.map fun x=>(x.1,f x.2))=f (look z t l)
 | []=>rfl
 | (s,d)::r=>by
   simp only [AB,aN]
   split
   · rfl
   · exact sR f z t r
section
variable {τ:Nat→El}
theorem rE:∀ {l:List Nat},wZ l=true→l.Nodup
 | [],_=>.nil
 | a::r,h=>by
   simp only [wZ,Af,CO,Eo,decide_eq_false_iff_not] at h
   exact Di.2 ⟨h.1,rE h.2⟩
theorem xA {α:Type} {z:α} {k:Nat} {v:α}:∀ {l:List (Nat×α)},(k,v)∈l→(l.map (·.1)).Nodup→look z k l=v
 | [],h,_=>by cases h
 | (s,d)::r,h,hn=>by
   simp only [AB,Di] at hn
   rw [aN]
   cases h with
   | head=>simp
   | tail _ h =>
     have:¬ s=k:=fun hh=>by subst hh; exact hn.1 (AL.2 ⟨_,h,rfl⟩)
     rw [Aq this]; exact xA h hn.2
theorem AllW.of {α:Type} {p:Nat→α→Prop}:∀ {l:List (Nat×α)},(∀ t d,(t,d)∈l→p t d)→AllW p l
 | [],_=>.nil
 | (t,d)::r,h=>.cons (h t d (by simp)) (AllW.of fun t d hm=>h t d (BB _ hm))

variable {κ:∀ e,Cod τ e}
theorem AK.get_dead (Θ:Th τ) (own:Nat→VE τ) (k:AK):k.get κ Θ own .dead=none:=by
 cases k with
 | one s=>cases s <;> rfl
 | _=>rfl
theorem CeL.get_dead (S:VS τ) (ρ:List (Nat×Nat)) (l:List Ce):Ep κ S ρ l [.dead]=none:=by
 cases l with
 | nil=>rfl
 | cons x l =>
   have:x.get κ S ρ .dead=none:=by
    cases x with
    | pl k=>exact AK.get_dead _ _ k
    | _=>rfl
   simp only [Ep,this]
theorem wr_d {w:Wr} {v:V τ} {l:List (V τ)} (h:w.parts v=some l) {Θ:Th τ} {ds:List D} (hw:WkL (Ck Θ l) ds) {Θ':Th τ} {l':List (V τ)} (hl:∀ f:Nat→Nat,True) {ρ:Nat→Nat} (he:BV ρ (Ck Θ' l')=ds) (hlen:l'.length=l.length):Wk (v.d Θ) (((w.put l').d Θ').ren ρ):=by
 subst he
 cases w with
 | one =>
   simp only [If,Option.some.injEq] at h
   subst h
   cases l' with
   | nil=>simp at hlen
   | cons a r =>
     cases r with
     | nil =>
       simp only [Ck,BV] at hw
       cases hw with | cons h _=>exact h
     | cons=>simp at hlen
 | agg =>
   simp only [If] at h
   split at h
   · cases h; simp only [Wr.put,V.d,Dv]; exact .agg hw
   · cases h
 | fn f =>
   simp only [If] at h
   split at h
   · obtain ⟨hc,hh⟩:=aX h; clear h
     rw [Br] at hc
     subst hc; cases hh; simp only [Wr.put,V.d,Dv]; exact .fn hw
   · cases h
theorem CeL.get_len {S:VS τ} {ρ:List (Nat×Nat)}:∀ {l:List Ce} {vs:List (V τ)} {a:EF τ l},Ep κ S ρ l vs=some a→(Fv κ idn idn l a).length=vs.length
 | [],[],_,_=>rfl
 | [],_::_,_,h=>by simp [Ep] at h
 | _::_,[],_,h=>by simp [Ep] at h
 | x :: l,v::vs,a,h=>by
   simp only [Ep] at h
   split at h
   · split at h
     · rename_i h2; cases h; simp only [Fv,Ao,CeL.get_len h2]
     · cases h
   · cases h
theorem wr_in (w:Wr) (p:Nat→Bool) (Θ:Th τ) {l:List (V τ)} (h:AG p (Ck Θ l)=true):((w.put l).d Θ).refsIn p=true:=by
 cases w with
 | one =>
   cases l with
   | nil=>rfl
   | cons v r=>simp only [Ck,AG,Af] at h; exact h.1
 | agg=>simpa only [Wr.put,V.d,Bq] using h
 | fn f=>simpa only [Wr.put,V.d,Bq] using h

section
variable {S:VS τ} {Sd:St}
theorem IT.sl_ok (hm:Mo S Sd) {ρ:List (Nat×Nat)} {i:IT} {a:i.ty τ} (h:i.get κ S ρ=some a) {Θ':Th τ} (hΘ:ThOk Θ' (i.ths idn a)):∀ y∈i.sls κ idn idn a,Wk (Sd.get y.1) ((y.2.d Θ' []).ren (ren ρ)):=by
 intro y hy
 cases i <;> simp only [IT.sls,AW,Av] at hy
 case sl t k =>
  subst hy
  simp only [HR] at h
  simp only [Sv.d]
  rw [aCT _ _ (EK _ _ _)]
  split at h
  · rename_i v hv
    rcases hm.sl t with h1 | h1
    · rw [h1,hv]; exact .of (GF _ h)
    · rw [hv] at h1; cases h1; rw [AK.get_dead] at h; cases h
  · rename_i n hv
    rcases hm.sl t with h1 | h1
    · rw [h1,hv]; exact .of (GF _ h)
    · rw [hv] at h1; cases h1
  · cases h
 case vf t w cs =>
  subst hy
  simp only [HR] at h
  simp only [Sv.d]
  split at h
  · rename_i v hv
    split at h
    · rename_i l hl
      rcases hm.sl t with h1 | h1
      · rw [h1,hv]
        exact wr_d hl (HF hm h hΘ) (fun _=>trivial) rfl (CeL.get_len h)
      · rw [hv] at h1
        cases h1
        cases w <;> simp only [If,Option.some.injEq,reduceCtorEq] at hl
        subst hl; rw [CeL.get_dead] at h; cases h
    · cases h
  · cases h
 case gs t c elt e =>
  subst hy
  have hl:=hΘ (c,⟨e,a⟩) (by simp [IT.ths])
  simp only [Sv.d,V.d,hl,Dv]
  simp only [HR] at h
  split at h
  · rename_i id e' hv
    split at h
    · rename_i elt' e'' c' he
      obtain ⟨hc,hh⟩:=aX h; clear h
      simp only [Af,Br] at hc
      obtain ⟨rfl,rfl,rfl,rfl,hcr⟩:=hc
      cases hh
      rcases hm.sl t with h1 | h1
      · rw [h1,hv]; simp only [Sv.d,V.d,hcr]; exact .refl _
      · rw [hv] at h1; cases h1
    · cases h
  · rename_i hv
    split at h
    · cases h
      rcases hm.sl t with h1 | h1
      · rw [h1,hv]
        exact fun E β v hv=>by cases hv; exact .ngsl _ _ _
      · rw [hv] at h1; cases h1
    · cases h
  · cases h

def Er2 (Sd:St) (ρ:Nat→Nat) (i:Nat) (en:Ent):Prop:=Er Sd ρ i en∨∃ t sz n,en = .tail t sz n∧(Sd.ent (ρ i) = .tail t sz n∨(Sd.ent (ρ i) = .fresh∧n=0))
theorem IT.ent_ok (hm:Mo S Sd) {ρ:List (Nat×Nat)} {i:IT} {a:i.ty τ} (h:i.get κ S ρ=some a) {Θ':Th τ} (hΘ:ThOk Θ' (i.ths idn a)):∀ y∈i.ents κ idn idn a,Er2 Sd (ren ρ) y.1 (y.2.d Θ'):=by
 intro y hy
 cases i <;> simp only [FW,AF,AW,or_false] at hy
 case vf t w cs =>
  simp only [HR] at h
  split at h
  · split at h
    · exact .inl (HG hm Θ' h y hy)
    · cases h
  · cases h
 case gs t c elt e =>
  subst hy
  have hl:=hΘ (c,⟨e,a⟩) (by simp [IT.ths])
  refine .inr ⟨elt,_,_,rfl,?_⟩
  simp only [EP,hl]
  simp only [HR] at h
  split at h
  · rename_i id e' hv
    split at h
    · rename_i elt' e'' c' he
      obtain ⟨hc,hh⟩:=aX h; clear h
      simp only [Af,Br] at hc
      obtain ⟨rfl,rfl,rfl,rfl,hcr⟩:=hc
      cases hh
      left
      rw [hcr]
      rcases hm.ent c' with h1 | h1
      · rw [h1,he]
      · rw [he] at h1; cases h1
    · cases h
  · split at h
    · rename_i he
      cases h
      right
      refine ⟨?_,rfl⟩
      rcases hm.ent (ren ρ c) with h1 | h1
      · rw [h1,he]
      · rw [he] at h1; cases h1
    · cases h
  · cases h
 case bk id t cs =>
  simp only [HR] at h
  split at h
  · rename_i t' vs he
    obtain ⟨hc,hh⟩:=aX h; clear h
    rw [Br] at hc
    subst hc
    rcases hy with rfl | hy
    · refine .inl ⟨t',_,rfl,.inl ⟨Ck S.Θ vs,?_,HF hm hh hΘ⟩⟩
      rcases hm.ent (ren ρ id) with h1 | h1
      · simp only [idn]; rw [h1,he]
      · rw [he] at h1; cases h1
    · exact .inl (HG hm Θ' hh y hy)
  · cases h
 case bc id t e =>
  subst hy
  simp only [HR] at h
  split at h
  · rename_i t' vs he
    obtain ⟨hc,hh⟩:=aX h; clear h
    rw [Br] at hc
    subst hc
    refine .inl ⟨t',_,rfl,.inl ⟨Ck S.Θ vs,?_,?_⟩⟩
    · rcases hm.ent (ren ρ id) with h1 | h1
      · simp only [idn]; rw [h1,he]
      · rw [he] at h1; cases h1
    · rw [uO _ _ (aB6 _ _ _),aDp]; exact .of (FY hh)
  · cases h
 case bl id elt e =>
  subst hy
  simp only [HR] at h
  split at h
  · rename_i elt' e' c ls he
    split at h
    · rename_i heq
      subst heq
      obtain ⟨hc,hh⟩:=aX h; clear h
      rw [Br] at hc
      subst hc
      cases hh
      exact .inl (Er.lb hm (by simp only [idn]; exact he) _ _)
    · cases h
  · cases h

theorem ITL.get_mem {ρ:List (Nat×Nat)}:∀ {l:List IT} {z:BN τ l},GS κ S ρ l=some z →
 (∀ x∈Dd κ idn idn l z,∃ i a,i∈l∧i.get κ S ρ=some a∧x∈i.sls κ idn idn a∧(∀ y∈i.ths idn a,y∈BS idn l z)) ∧
 (∀ x∈CZ κ idn idn l z,∃ i a,i∈l∧i.get κ S ρ=some a∧x∈i.ents κ idn idn a∧(∀ y∈i.ths idn a,y∈BS idn l z))
 | [],z,h=>⟨(fun x hx=>by cases hx),(fun x hx=>by cases hx)⟩
 | i :: l, z,h=>by
   simp only [GS] at h
   split at h
   · rename_i a hi
     split at h
     · rename_i z' hl
       cases h
       obtain ⟨h2,h3⟩:=ITL.get_mem hl
       refine ⟨fun x hx=>?_,fun x hx=>?_⟩
       · rcases As.1 hx with hx | hx
         · exact ⟨i,a,by simp,hi,hx,fun y hy=>Dw _ hy⟩
         · obtain ⟨i',a',g1,g2,g3,g4⟩:=h2 x hx
           exact ⟨i',a',BB _ g1,g2,g3,fun y hy=>Dr _ (g4 y hy)⟩
       · rcases As.1 hx with hx | hx
         · exact ⟨i,a,by simp,hi,hx,fun y hy=>Dw _ hy⟩
         · obtain ⟨i',a',g1,g2,g3,g4⟩:=h3 x hx
           exact ⟨i',a',BB _ g1,g2,g3,fun y hy=>Dr _ (g4 y hy)⟩
     · cases h
   · cases h
end
theorem IT.ents_own (i:IT) (a:i.ty τ):(i.ents κ idn idn a).map (·.1)=i.own:=by
 cases i with
 | vf t w cs=>exact Gv a
 | bk id t cs=>simp only [FW,AB,CY,Gv]
 | _=>rfl
theorem IT.ths_gsn (i:IT) (a:i.ty τ):(i.ths idn a).map (·.1)=i.gsn:=by
 cases i with
 | vf t w cs=>exact GV a
 | bk id t cs=>exact GV a
 | _=>rfl
theorem ITL.ents_own:∀ (l:List IT) (z:BN τ l),(CZ κ idn idn l z).map (·.1)=l.flatMap CY
 | [],_=>rfl
 | i::l,z=>by simp only [CZ,BR,Be,IT.ents_own,ITL.ents_own l]
theorem ITL.ths_gsn:∀ (l:List IT) (z:BN τ l),(BS idn l z).map (·.1)=l.flatMap IT.gsn
 | [],_=>rfl
 | i::l,z=>by simp only [BS,BR,Be,IT.ths_gsn,ITL.ths_gsn l]
theorem aJn:∀ {i:IT} {x},x∈i.gsn→x∈i.own
 | .bk _ _ _,_,h=>BB _ h
 | .vf _ _ _,_,h=>h
 | .gs _ _ _ _,_,h=>h
 | .bl _ _ _,_,h=>h
theorem aEu:∀ {l:List IT},(l.flatMap CY).Nodup→(l.flatMap IT.gsn).Nodup
 | [],_=>.nil
 | i :: l,h=>by
   rw [Be] at h ⊢
   obtain ⟨h1,h2,h3⟩:=HI.1 h
   refine HI.2 ⟨?_,aEu h2,fun x hx y hy=>h3 x (aJn hx) y ?_⟩
   · cases i with
     | bk=>exact (Di.1 h1).2
     | sl=>exact .nil
     | bc=>exact .nil
     | _=>exact h1
   · obtain ⟨j,hj1,hj2⟩:=BQ.1 hy
     exact BQ.2 ⟨j,hj1,aJn hj2⟩
theorem aGA {l:List IT} (z:BN τ l) (hno:(l.flatMap CY).Nodup):ThOk (BS idn l z) (BS idn l z):=by
 rintro ⟨c,e,ls⟩ hh
 have h1:(c,some (⟨e,ls⟩:TL τ))∈(BS idn l z).map (fun x=>(x.1,some x.2)):=AL.2 ⟨_,hh,rfl⟩
 have h2:=xA (z:=none) h1 (by rw [Bz]; exact (ITL.ths_gsn l z).symm ▸ aEu hno)
 simp [Th.at,h2]
theorem IT.ents_th {σ cn:Nat→Nat} {i:IT} {a:i.ty τ}:∀ y∈i.ents κ σ cn a,∀ t e c ls,y.2 = .lb t e c ls→(c,(⟨e,ls⟩:TL τ))∈i.ths cn a:=by
 intro y hy t e c ls h
 cases i <;> simp only [FW,AF,AW,or_false] at hy
 case vf=>exact CeL.ents_th _ a y hy t e c ls h
 case gs=>subst hy; cases h
 case bk =>
  rcases hy with rfl | hy
  · cases h
  · exact CeL.ents_th _ a y hy t e c ls h
 case bc=>subst hy; cases h
 case bl=>subst hy; cases h; simp [IT.ths]
theorem ITL.ents_th {σ cn:Nat→Nat}:∀ {l:List IT} {z:BN τ l},∀ y∈CZ κ σ cn l z,∀ t e c ls,y.2 = .lb t e c ls→(c,(⟨e,ls⟩:TL τ))∈BS cn l z
 | [],_,y,hy,_,_,_,_,_=>by cases hy
 | i::l,z,y,hy,t,e,c,ls,h=>by
   rcases As.1 hy with hy | hy
   · exact Dw _ (IT.ents_th y hy t e c ls h)
   · exact Dr _ (ITL.ents_th y hy t e c ls h)
theorem IT.ents_held {i:IT} {a:i.ty τ} (Θ:Th τ):∀ y∈i.ents κ idn idn a,(y.2.d Θ).held=true:=by
 intro y hy
 have lb:∀ {l:List Ce} {a:EF τ l},y∈DZ idn idn l a→(y.2.d Θ).held=true:=fun {l a} h=>by
  obtain ⟨t,e,c,ls,h1⟩:=FZ l a y h; rw [h1]; rfl
 cases i <;> simp only [FW,AF,AW,or_false] at hy
 case vf=>exact lb hy
 case gs=>subst hy; rfl
 case bk =>
  rcases hy with rfl | hy
  · rfl
  · exact lb hy
 case bc=>subst hy; rfl
 case bl=>subst hy; rfl
theorem ITL.ents_held (Θ:Th τ):∀ {l:List IT} {z:BN τ l},∀ y∈CZ κ idn idn l z,(y.2.d Θ).held=true
 | [],_,y,hy=>by cases hy
 | i::l,z,y,hy=>by
   rcases As.1 hy with hy | hy
   · exact IT.ents_held Θ y hy
   · exact ITL.ents_held Θ y hy
theorem IT.sls_in (p:Nat→Bool) (Θ:Th τ) {i:IT} {a:i.ty τ} (h1:∀ x∈i.own,p x=true) (h2:∀ x∈i.refs,p x=true):∀ y∈i.sls κ idn idn a,(y.2.d Θ []).refsIn p=true:=by
 intro y hy
 cases i <;> simp only [IT.sls,AW,Av] at hy
 case sl=>subst hy; exact aGM p _ (EK _ _ _)
 case vf t w cs=>subst hy; exact wr_in w p Θ (HH p Θ a h1 h2)
 case gs t c elt e=>subst hy; simp only [Sv.d,V.d,Bq]; exact h1 c (by simp [CY])
theorem IT.ents_in (p:Nat→Bool) (Θ:Th τ) {i:IT} {a:i.ty τ} (h1:∀ x∈i.own,p x=true) (h2:∀ x∈i.refs,p x=true):∀ y∈i.ents κ idn idn a,(y.2.d Θ).refsIn p=true:=by
 intro y hy
 have lb:∀ {l:List Ce} {a:EF τ l},y∈DZ idn idn l a→(y.2.d Θ).refsIn p=true:=fun {l a} h=>by
  obtain ⟨t,e,c,ls,h1⟩:=FZ l a y h; rw [h1]; exact wY p _ (aB4 ls)
 cases i <;> simp only [FW,AF,AW,or_false] at hy
 case vf=>exact lb hy
 case gs=>subst hy; rfl
 case bk id t cs =>
  rcases hy with rfl | hy
  · exact HH p Θ a (fun i hi=>h1 i (BB _ hi)) h2
  · exact lb hy
 case bc=>subst hy; exact wY p _ (aB6 _ _ _)
 case bl=>subst hy; exact wY p _ (aB4 _)

theorem Ce.put_ren {σ cn:Nat→Nat} {Θ' Θu:Th τ} (x:Ce) (a:x.ty τ) (h1:ThOk Θu (x.ths idn a)) (h2:ThOk Θ' (x.ths cn a)):(x.put κ σ cn a).d Θ'=((x.put κ idn idn a).d Θu).ren σ:=by
 cases x with
 | pl k=>simp only [FO]; rw [aCT _ _ (EK _ _ _),Hv Θ' Θu]
 | os c elt e =>
   have g1:=h1 (c,⟨e,a⟩) (by simp [Ce.ths])
   have g2:=h2 (cn c,⟨e,a⟩) (by simp [Ce.ths])
   simp only [FO,V.d,Dv,idn,EP,g1,g2]
 | rf id off=>simp only [FO,V.d,Dv,idn]
 | re id e k=>simp only [FO,V.d,Dv,idn]
 | nl=>simp only [FO,V.d,Dv]
theorem CeL.put_ren {σ cn:Nat→Nat} {Θ' Θu:Th τ}:∀ (l:List Ce) (a:EF τ l),ThOk Θu (Fy idn l a)→ThOk Θ' (Fy cn l a)→Ck Θ' (Fv κ σ cn l a)=BV σ (Ck Θu (Fv κ idn idn l a))
 | [],_,_,_=>rfl
 | x::l,a,h1,h2=>by simp only [Fv,Ck,BV,Ce.put_ren x a.1 h1.l h2.l,CeL.put_ren l a.2 h1.r h2.r]
theorem wr_ren (w:Wr) {σ:Nat→Nat} {Θ' Θu:Th τ} {l l':List (V τ)} (h:Ck Θ' l'=BV σ (Ck Θu l)):(w.put l').d Θ'=((w.put l).d Θu).ren σ:=by
 cases w with
 | one =>
   cases l with
   | nil=>cases l' with
     | nil=>rfl
     | cons=>simp [Ck,BV] at h
   | cons a l=>cases l' with
     | nil=>simp [Ck,BV] at h
     | cons b l'=>simp only [Ck,BV,List.cons.injEq] at h; exact h.1
 | agg=>simp only [Wr.put,V.d,Dv,h]
 | fn f=>simp only [Wr.put,V.d,Dv,h]
theorem CeL.ents_ren {σ cn:Nat→Nat} {Θ' Θu:Th τ}:∀ (l:List Ce) (a:EF τ l),dH Θ' (DZ σ cn l a)=(dH Θu (DZ idn idn l a)).map fun x=>(σ x.1,x.2.ren σ)
 | [],_=>rfl
 | x::l,a=>by
   have ih:=CeL.ents_ren (σ:=σ) (cn:=cn) (Θ':=Θ') (Θu:=Θu) l a.2
   simp only [dH] at ih
   simp only [DZ,dH,BR,ih]
   congr 1
   cases x <;> simp [Ce.ents,VE.d,Fm,idn,uO _ _ (aB4 _)]
theorem IT.sls_ren {σ cn:Nat→Nat} {Θ' Θu:Th τ} {i:IT} (hn:i.nog=true) (a:i.ty τ) (h1:ThOk Θu (i.ths idn a)) (h2:ThOk Θ' (i.ths cn a)):dS Θ' [] (i.sls κ σ cn a)=(dS Θu [] (i.sls κ idn idn a)).map fun x=>(x.1,x.2.ren σ):=by
 cases i with
 | sl t k=>simp only [IT.sls,dS,AB,BI,Sv.d]; rw [aCT _ _ (EK _ _ _),Hv Θ' Θu]
 | vf t w cs=>simp only [IT.sls,dS,AB,BI,Sv.d]; rw [wr_ren w (CeL.put_ren cs a h1 h2)]
 | gs=>cases hn
 | _=>rfl
theorem IT.ents_ren {σ cn:Nat→Nat} {Θ' Θu:Th τ} {i:IT} (hn:i.nog=true) (a:i.ty τ) (h1:ThOk Θu (i.ths idn a)) (h2:ThOk Θ' (i.ths cn a)):dH Θ' (i.ents κ σ cn a)=(dH Θu (i.ents κ idn idn a)).map fun x=>(σ x.1,x.2.ren σ):=by
 cases i with
 | sl t k=>rfl
 | vf t w cs=>exact CeL.ents_ren cs a
 | gs=>cases hn
 | bk id t cs =>
   have:=CeL.ents_ren (σ:=σ) (cn:=cn) (Θ':=Θ') (Θu:=Θu) cs a
   simp only [dH] at this
   simp only [FW,dH,AB,this,VE.d,Fm,idn,CeL.put_ren cs a h1 h2]
 | bc id t e =>
   have:=aB6 (κ:=κ) Θu e a
   rw [aDp] at this
   simp only [FW,dH,AB,BI,VE.d,Fm,idn,aDp,uO _ _ this]
 | bl id elt e=>simp only [FW,dH,AB,BI,VE.d,Fm,idn,uO _ _ (aB4 _)]
theorem ITL.sls_ren {σ cn:Nat→Nat} {Θ' Θu:Th τ}:∀ {l:List IT} (hn:l.all IT.nog=true) (z:BN τ l),ThOk Θu (BS idn l z)→ThOk Θ' (BS cn l z)→dS Θ' [] (Dd κ σ cn l z)=(dS Θu [] (Dd κ idn idn l z)).map fun x=>(x.1,x.2.ren σ)
 | [],_,_,_,_=>rfl
 | i::l,hn,z,h1,h2=>by
   simp only [CR,Af] at hn
   have g1:=IT.sls_ren (κ:=κ) (σ:=σ) hn.1 z.1 h1.l h2.l
   have g2:=ITL.sls_ren (σ:=σ) hn.2 z.2 h1.r h2.r
   simp only [dS] at g1 g2
   simp only [Dd,dS,BR,g1,g2]
theorem ITL.ents_ren {σ cn:Nat→Nat} {Θ' Θu:Th τ}:∀ {l:List IT} (hn:l.all IT.nog=true) (z:BN τ l),ThOk Θu (BS idn l z)→ThOk Θ' (BS cn l z)→dH Θ' (CZ κ σ cn l z)=(dH Θu (CZ κ idn idn l z)).map fun x=>(σ x.1,x.2.ren σ)
 | [],_,_,_,_=>rfl
 | i::l,hn,z,h1,h2=>by
   simp only [CR,Af] at hn
   have g1:=IT.ents_ren (κ:=κ) (σ:=σ) hn.1 z.1 h1.l h2.l
   have g2:=ITL.ents_ren (σ:=σ) hn.2 z.2 h1.r h2.r
   simp only [dH] at g1 g2
   simp only [CZ,dH,BR,g1,g2]
theorem IT.sls_slots (σ cn:Nat→Nat) (i:IT) (a:i.ty τ):(i.sls κ σ cn a).map (·.1)=i.slots:=by cases i <;> rfl
theorem ITL.sls_slots (σ cn:Nat→Nat):∀ (l:List IT) (z:BN τ l),(Dd κ σ cn l z).map (·.1)=l.flatMap Ig
 | [],_=>rfl
 | i::l,z=>by simp only [Dd,BR,Be,IT.sls_slots,ITL.sls_slots σ cn l]
theorem ITL.ents_in (p:Nat→Bool) (Θ:Th τ) {l:List IT} {z:BN τ l} (h1:∀ x∈l.flatMap CY,p x=true) (h2:∀ x∈l.flatMap HC,p x=true):∀ y∈CZ κ idn idn l z,p y.1=true∧(y.2.d Θ).refsIn p=true:=by
 induction l with
 | nil=>intro y hy; cases hy
 | cons i l ih =>
   intro y hy
   simp only [Be,As] at h1 h2
   rcases As.1 hy with hy | hy
   · refine ⟨h1 _ (.inl ?_),IT.ents_in p Θ (fun x hx=>h1 x (.inl hx)) (fun x hx=>h2 x (.inl hx)) y hy⟩
     rw [←IT.ents_own (κ:=κ) i z.1]; exact AL.2 ⟨y,hy,rfl⟩
   · exact ih (z:=z.2) (fun x hx=>h1 x (.inr hx)) (fun x hx=>h2 x (.inr hx)) y hy
theorem ITL.sls_in (p:Nat→Bool) (Θ:Th τ) {l:List IT} {z:BN τ l} (h1:∀ x∈l.flatMap CY,p x=true) (h2:∀ x∈l.flatMap HC,p x=true):∀ y∈Dd κ idn idn l z,(y.2.d Θ []).refsIn p=true:=by
 induction l with
 | nil=>intro y hy; cases hy
 | cons i l ih =>
   intro y hy
   simp only [Be,As] at h1 h2
   rcases As.1 hy with hy | hy
   · exact IT.sls_in p Θ (fun x hx=>h1 x (.inl hx)) (fun x hx=>h2 x (.inl hx)) y hy
   · exact ih (z:=z.2) (fun x hx=>h1 x (.inr hx)) (fun x hx=>h2 x (.inr hx)) y hy
end
end Go.IL
