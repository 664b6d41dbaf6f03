/-
  A part of the proof: rules and plain facts. No condition.
-/
import Derived.Test.YtknpfbfkaccgmaaGreatIlPn
import Derived.Test.YtknpfbfkaccgmaaGreatIlW
import Derived.Lib.Builder
import Derived.Lib.UnsafeStr
import Derived.Shelf.Sort.Plain
import Derived.Shelf.Slices.In.SortNone
import Derived.Shelf.SlSortCmp.WholeK
import Derived.Shelf.SlSortCmp.NoneTotal
set_option linter.all false
open Go.Lib
open Go.RowKit (Below)
namespace Go.IL
section
variable {P:Program} {O:cC} {N:Nat} {S S':St} {o:Oper} {t:Nat} {Q:Exit → St → Prop}
theorem HOk.drop {E E':Env} {β:bV} {H H':Nat → Ent} {b id:Nat} (h:HOk O E β H) (hs:Step O E E' b) (hle:E.le E')
 (hother:∀ j,j ≠ id → H' j=H j) (hid:H' id = .none) (hap:∀ j,j ≠ id → (H j).held=true → β j ≠ some b):HOk O E' β H' where
 os:=hs.os.trans h.os
 tab:=h.tab
 tape:=hs.tape.trans h.tape
 output:=hs.output.trans h.output
 size:=Nat.le_trans h.size hs.size
 block k hk hf:=by
  have hne:k ≠ b:=by
   rintro rfl
   rcases hs.own with h1 | h1
   · omega
   · exact hf h1
  exact (hs.block k (by have:=h.size; omega) hne).trans (h.block k hk hf)
 xlt k o hX:=by
  by_cases hk:k=b
  · subst hk; exact hs.lt
  · exact Nat.lt_of_lt_of_le (h.xlt k o ((hs.X k o hk).1 hX)) hs.size
 xold k o hk hf:=by
  have hne:k ≠ b:=by
   rintro rfl
   rcases hs.own with h1 | h1
   · omega
   · exact hf h1
  exact (hs.X k o hne).trans (h.xold k o hk hf)
 ent j:=by
  by_cases hj:j=id
  · subst hj; rw [hid]; trivial
  · rw [hother j hj]
    have hapj:=hap j hj
    have he:=h.ent j
    cases hH:H j with
    | none=>trivial
    | fresh=>rw [hH] at he; exact he
    | blk e ds =>
      rw [hH] at he hapj
      rcases he with ⟨h3,h4⟩ | ⟨k,vs,sp,h3,h4,h5,h6,h7⟩
      · exact .inl ⟨h3,h4⟩
      · have hne:k ≠ b:=fun e=>hapj rfl (e ▸ h3)
        exact .inr ⟨k,vs,sp,h3,h4,(hs.block k (dI h5) hne).trans h5,fun o=>(hs.X k o hne).2 (h6 o),RdL.mono hle (bV.le.refl _) h7⟩
    | tail e sz n =>
      rw [hH] at he hapj
      rcases he with ⟨h3,h4⟩ | ⟨k,c,h3,h4,h5,h6⟩
      · exact .inl ⟨h3,h4⟩
      · have hne:k ≠ b:=fun e=>hapj rfl (e ▸ h3)
        exact .inr ⟨k,c,h3,h4,(hs.block k (dI h5) hne).trans h5,fun o ho=>(hs.X k o hne).2 (h6 o ho)⟩
    | loop lk ds st pend =>
      rw [hH] at he hapj
      obtain ⟨k,r,h3,h4,h5,h6,h7,h8,h9,h10,h11,h12⟩:=he
      have hne:k ≠ b:=fun e=>hapj rfl (e ▸ h3)
      exact ⟨k,r,h3,h4,(hs.block k (dI h5) hne).trans h5,fun o=>(hs.X k o hne).2 (h6 o),h7,h8,h9,h10,h11,h12.1,RdL.mono hle (bV.le.refl _) h12.2⟩
    | kept n ds =>
      rw [hH] at he
      refine ⟨RdL.mono hle (bV.le.refl _) he.1,fun c hc=>?_⟩
      have h5:=he.2 c hc
      by_cases hcb:c=b
      · subst hcb; exact absurd h5 (hs.dfr _)
      · exact (hs.block c (dI h5) hcb).trans h5
 le:=h.le.trans hle
 gid:=h.gid
 given i b hi:=h.given i b hi
 inj i j k hi hj h1 h2:=by
  have hii:i ≠ id:=fun e=>by rw [e,hid] at hi; cases hi
  have hjj:j ≠ id:=fun e=>by rw [e,hid] at hj; cases hj
  exact h.inj i j k (hother i hii ▸ hi) (hother j hjj ▸ hj) h1 h2
structure cC.Semi (O:cC):Prop where
 round:O.round=none
 foot:∀ b,O.w.heap.size ≤ b → ¬ O.foot b
structure cC.SemiL (L:List Nat) (O:cC):Prop where
 round:O.round=none
 foot:∀ b,O.w.heap.size ≤ b → ¬ O.foot b
 dv:∀ j,j ∉ L → O.dv j=[]
theorem cC.Plain.semiL {O:cC} (h:O.Plain):O.SemiL []:=⟨h.round,h.foot,fun j _=>h.dv j⟩
theorem tR {g : Operand} {ps:Array Tmp} {acx bd:Code} {f:FuncId} {fn:Func} {c:Code} {caps:List D} {L:List Nat} (k idL idK:Nat)
 (hg:SV S g (.fn f caps)) (hc:bI P f) (hf:P.funcs[f]? = some fn) (hb:fn.body=some c) (hres:fn.results = #[]) {N':Nat} (hn:fn.ntmps=N') (hN':caps.length + 1 ≤ N')
 (hfr:aAN k [] S.H=true) (hL:S.ent idL = .fresh) (hO:O.SemiL L) (hkL:∀ j ∈ L,∃ i ds,S.ent i = .kept j ds)
 (h:∀ O',O'.SemiL (k :: L) → O'.lc k=(ps,acx,bd) → IWP P O' N' c ⟨(List.range (.yld idL :: caps).length).zip (.yld idL :: caps),(idK,.kept k (allD N S)) :: (idL,.loop k (allD N S) .ready none) :: S.H⟩ (aD2 P O N k Q)):IWP P O N (.rangeFunc g ps acx bd) S Q:=by
 subst hn
 obtain ⟨Ow,OX,Of,Og,Or,Okv,Olv,Odv,Olc⟩:=O
 obtain ⟨hro,hfoot,hdv⟩:=hO
 simp only at hro hfoot hdv
 subst hro
 intro E β a hr
 obtain ⟨bs,hbs,hnd,hall⟩:=hr.nd
 have hdvn:∀ j,E.w.heap.size ∉ Odv j:=fun j hm=>by
  by_cases hj:j ∈ L
  · obtain ⟨i,ds,hi⟩:=hkL j hj
    have he:=hr.h.ent i
    rw [hi] at he
    exact Nat.lt_irrefl _ (dI (he.2 _ hm))
  · rw [hdv j hj] at hm; cases hm
 obtain ⟨vs,hev,hcaps⟩:=aBT (hg.rd hr)
 refine wpIn_rangeFunc ?_
 intro fn0 _
 let r0:Loop:={ state:=.ready,pending:=none,fn:=fn0,tmps:=a.tmps,params:=ps,assign:=acx,body:=bd,defers:=E.w.heap.size }
 let W0:=E.w.alloc (.deferred (some []))
 have hsz0:W0.heap.size=E.w.heap.size + 1:=by simp [W0]
 let W1:=W0.alloc (.loop r0)
 have hb0:Below E.w.heap.size E.w W0:=(Below.refl _ _).alloc (Nat.le_refl _) _
 refine ⟨E.w.heap.size + 1,[{ target:=.collected E.w.heap.size,args:=#[] }],W1,{ target:=.fn (.func f) vs.toArray,args:=#[.func (.yield (E.w.heap.size + 1)) #[] #[]] },W1,f,
  #[.func (.yield (E.w.heap.size + 1)) #[] #[]] ++ vs.toArray,W1,run_enterLoop_outer _ _ _ _ _,?_,fun _ _=>trivial,?_,fun h=>by simp [fen,Fence.wide] at h,?_⟩
 · simp only [resolve,hev]
   simp [go_sem]
 · simp [invoke,jC hc]
 let O':cC:=⟨Ow,OX,Of,Og,none,fun j=>if j=k then a.tmps.toList else Okv j,fun j=>if j=k then E.w.heap.size + 1 else Olv j,fun j=>if j=k then E.w.heap.size :: bs else Odv j,fun j=>if j=k then (ps,acx,bd) else Olc j⟩
 have hsame:(⟨Ow,OX,Of,Og,none,Okv,Olv,Odv,Olc⟩:cC).same O':=⟨rfl,rfl,rfl,rfl⟩
 have hcomp : ∀ e,noK k e=true → oE ⟨Ow,OX,Of,Og,none,Okv,Olv,Odv,Olc⟩ O' e ∧ oE O' ⟨Ow,OX,Of,Og,none,Okv,Olv,Odv,Olc⟩ e:=fun e he=>by
  cases e with
  | kept j ds => have:j ≠ k:=by simpa [noK] using he
                 simp [oE,O',this]
  | loop j => have:j ≠ k:=by simpa [noK] using he
              simp [oE,O',this]
  | _=>exact ⟨trivial,trivial⟩
 have h0:HOk O' ⟨W0,E.X⟩ β (entL S.H):=(hr.h.below hb0).swap hsame fun id=>.inl ⟨rfl,(hcomp _ (nO hfr (by simp))).1⟩
 let E1:Env:=⟨W1,fun b o=>b=E.w.heap.size + 1 ∨ E.X b o⟩
 let β1:bV:=fun j=>if j=idL then some (E.w.heap.size + 1) else β j
 have hfrL:β idL=none:=by have:=hr.h.ent idL; rw [hL] at this; exact this
 have hβ:β.le β1:=fun j b hj=>by
  by_cases hji:j=idL
  · subst hji; rw [hfrL] at hj; cases hj
  · simp [β1,hji,hj]
 have hs:Step O' ⟨W0,E.X⟩ E1 (E.w.heap.size + 1) :=
  ⟨rfl,rfl,rfl,by simp [E1,W1],by simp [E1,W1,hsz0],.inl (by have:=h0.size; simp only [hsz0] at this; exact this),fun j hj _=>heap_alloc_old _ _ hj,fun j o hj=>by simp [E1,hj],fun _ hx=>by have h9:E.w.heap.size + 1 < W0.heap.size:=dI hx; omega⟩
 have hle:(⟨W0,E.X⟩:Env).le E1:=hs.le (fun o v hx _=>by have:=World.block_lt_of_cell? _ _ hx; simp [hsz0] at this) (fun c e f hx=>by have:=dI hx; simp [hsz0] at this)
 have hle0:E.le E1:=(nP hb0).trans hle
 have hnew:W1.heap[E.w.heap.size + 1]? = some (.loop r0):=by have:=World.alloc_heap_new W0 (.loop r0); rwa [hsz0] at this
 have hdef:W1.heap[E.w.heap.size]? = some (.deferred (some [])):=(heap_alloc_old _ _ (by omega)).trans (World.alloc_heap_new E.w _)
 have hrd:RdL E1 β1 a.tmps.toList (allD N S):=RdL.mono hle0 hβ (uR hr)
 have h1:HOk O' E1 β1 (entL ((idL,.loop k (allD N S) .ready none) :: S.H)):=by
  refine HOk.put h0 hs hle hβ (id:=idL) (fun j hj=>?_) (fun j hj hh hb=>?_) (by simp [β1]) ?_ (fun _ _=>trivial)
  · left; exact ⟨by show look _ _ _=_; rw [aU,if_neg (Ne.symm hj)]; rfl,by simp [β1,hj]⟩
  · have hh':(look (defE j) j ((idL,.loop k (allD N S) .ready none) :: S.H)).held=true:=hh
    rw [aU,if_neg (Ne.symm hj)] at hh'
    have:=h0.lt (j:=j) hh' hb
    simp [hsz0] at this
  · show aBm O' E1 β1 _ (look _ _ _)
    rw [aU,if_pos rfl]
    exact ⟨r0,hnew,fun o=>.inl rfl,by simp [O',r0],by simp [O',r0],by simp [O',r0],rfl,rfl,by simp [O'],hrd⟩
 have h2:HOk O' E1 β1 (entL ((idK,.kept k (allD N S)) :: (idL,.loop k (allD N S) .ready none) :: S.H)):=by
  refine h1.addK (by simpa [O'] using hrd) fun b hb=>?_
  have hb':b ∈ E.w.heap.size :: bs:=by simpa [O'] using hb
  rcases List.mem_cons.1 hb' with rfl | hb'
  · exact hdef
  · have hx:=(hall b hb').2
    have hlt:=dI hx
    exact ((heap_alloc_old W0 _ (by omega)).trans (heap_alloc_old E.w _ hlt)).trans hx
 have hargs:RdL E1 β1 (Value.func (.yield (E.w.heap.size + 1)) #[] #[] :: vs) (.yld idL :: caps):=.cons (.yld _ _ _ (by simp [β1])) (RdL.mono hle0 hβ hcaps)
 have hlen:=hargs.length
 have hrel:Rel O' fn.ntmps ⟨(List.range (D.yld idL :: caps).length).zip (.yld idL :: caps),(idK,.kept k (allD N S)) :: (idL,.loop k (allD N S) .ready none) :: S.H⟩ E1 β1
  { tmps:=(#[Value.func (.yield (E.w.heap.size + 1)) #[] #[]] ++ vs.toArray) ++ Array.replicate (fn.ntmps - (#[Value.func (.yield (E.w.heap.size + 1)) #[] #[]] ++ vs.toArray).size) undef,defers:=[] }:=by
  refine ⟨by simp at hlen ⊢; omega,pM.nil,h2,fun s=>?_⟩
  have:=sI hargs (fn.ntmps - (#[Value.func (.yield (E.w.heap.size + 1)) #[] #[]] ++ vs.toArray).size) s
  show Rd E1 β1 _ (look _ _ _)
  simpa using this
 refine callsIn_wide (n:=0) |>.2 (nH (E:=E1) (O:=O') hf hb rfl hfoot hrel (h O' ⟨rfl,hfoot,fun j hj=>by
  have h1:j ≠ k:=fun e=>hj (by simp [e])
  have h2:j ∉ L:=fun e=>hj (by simp [e])
  show (if j=k then _ else Odv j)=[]
  rw [if_neg h1]; exact hdv j h2⟩ (by simp [O'])) ?_)
 rintro e S2 E2 β2 a2 hr2 ⟨he,iL,iK,dl,ds',st,pend,hentL,hst,hentK,hfree,S3,ρ3,hw3,hQ⟩
 refine ⟨he,.tuple #[],by simp [results,hres],?_⟩
 obtain ⟨r,g1,g2,g3,g4,g5,g6,g7,g8⟩:=hr2.h.turn (H:=S2.H) hentL
 obtain ⟨g9,g10⟩:=g8 .exhausted pend
 have hlk:O'.lv k=E.w.heap.size + 1:=by simp [O']
 rw [hlk] at g1 g9 g10
 have hkept:=hr2.h.ent iK
 rw [hentK] at hkept
 obtain ⟨k1,k2⟩:=hkept
 have hkv:O'.kv k=a.tmps.toList:=by simp [O']
 have hdk:O'.dv k=E.w.heap.size :: bs:=by simp [O']
 rw [hkv] at k1; rw [hdk] at k2
 have hds':ds'.length=N:=by rw [← k1.length]; simpa using hr.n
 let E3:Env:=⟨E2.w.putObj (E.w.heap.size + 1) (.loop { r with state:=.exhausted,pending:=pend }),E2.X⟩
 have hrel3:Rel ⟨Ow,OX,Of,Og,none,Okv,Olv,Odv,Olc⟩ N ⟨(List.range N).zip ds',(iK,.none) :: (iL,.none) :: S2.H⟩ E3 β2 { a with defers:={ target:=.collected E.w.heap.size,args:=#[] } :: a.defers }:=by
  refine ⟨hr.n,⟨E.w.heap.size :: bs,by rw [List.map_cons,← hbs],?_,?_⟩,?_,fun s=>?_⟩
  · rw [List.nodup_cons]
    exact ⟨fun hm=>Nat.lt_irrefl _ (dI (hall _ hm).2),hnd⟩
  · intro b hb
    refine ⟨⟨?_,?_⟩,(World.putObj_heap_other ?_).trans (k2 b hb)⟩
    rotate_left
    · rcases List.mem_cons.1 hb with rfl | hb
      · exact hdvn
      · exact (hall b hb).1.2
    rotate_left
    · rcases List.mem_cons.1 hb with rfl | hb
      · exact hr.h.size
      · exact (hall b hb).1.1
    · rintro rfl; have:=k2 _ hb; rw [g1] at this; cases this
  · refine HOk.swap (O:=O') (H:=entL ((iL,.loop k dl .exhausted pend) :: S2.H)) g10 ⟨rfl,rfl,rfl,rfl⟩ fun id=>?_
    show (look _ _ _=look _ _ _ ∧ _) ∨ _
    simp only [aU]
    by_cases h5:iK=id
    · right; show look _ _ _=_; rw [aU,if_pos h5]
    · by_cases h6:iL=id
      · right; show look _ _ _=_; rw [aU,if_neg h5,aU,if_pos h6]
      · left
        rw [if_neg h5,if_neg h6]
        refine ⟨by first | rfl | rw [if_neg h6],(hcomp _ ?_).2⟩
        show noK k (look _ _ _)=true
        rw [aU,if_neg h6]
        exact nO hfree (by simp; exact ⟨Ne.symm h6,Ne.symm h5⟩)
  · have:=pR (RdL.mono g9 (bV.le.refl _) k1) s
    rw [hds'] at this
    exact this
 refine ⟨pend,E3.w,?_,?_⟩
 · have:=run_endLoop (P:=P) (l:=E.w.heap.size + 1) g1 (by rw [g6]; exact hst)
   rw [g7] at this
   exact this
 · cases pend with
   | none=>obtain ⟨β4,hr4⟩:=hrel3.weak hw3; exact ⟨_,E3,β4,rfl,hr4,hQ⟩
   | some c=>obtain ⟨β4,hr4⟩:=hrel3.weak hw3; exact hQ E3 β4 _ hr4

theorem mO {ops:Array Oper} {o:Oper} {l:List Oper} {xs:List Operand} {ts:Array TypeId} {f:FuncId} {fn:Func} {c:Code} {t:Nat} {ds:List D} {L:List Nat} (k2 idK:Nat) (hg:yE o=true)
 (ho:o.op = .call { callee:=.value (.func f),args:=xs.toArray,argTypes:=ts }) (hd:o.dst=some t) (ht:t < N) (hc:bI P f) (hf:P.funcs[f]? = some fn) (hb:fn.body=some c) (hxs:SVs S xs ds) {N':Nat} (hn:fn.ntmps=N') (hN:ds.length ≤ N')
 (hfr:aAN k2 [] S.H=true) (hO:O.SemiL L)
 (h:∀ O',O'.SemiL (k2 :: L) → IWP P O' N' c ⟨(List.range ds.length).zip ds,(idK,.kept k2 (allD N S)) :: S.H⟩ (inlQ P O N t k2 fn ops l Q)):ILS P O N ops (o :: l) S Q:=by
 subst hn
 obtain ⟨Ow,OX,Of,Og,Or,Okv,Olv,Odv,Olc⟩:=O
 obtain ⟨hro,hfoot,hdv⟩:=hO
 simp only at hro hfoot hdv
 subst hro
 intro E β a hr
 obtain ⟨bs,hbs,hnd,hall⟩:=hr.nd
 refine wpListIn_plain (oA hg).1 fun K hK'=>aAU _ (oA hg).2 ?_
 have hrun:(execOp a.eval o).run P E.w = .ok (.enter f (xs.map a.eval).toArray) E.w:=by
  simp [execOp,ho,resolve,Deferred.ofValue,Act.eval,invoke,jC hc]
 unfold Oper.wp
 rw [hrun]
 simp only [Oper.upon,hd]
 let O':cC:=⟨Ow,OX,Of,Og,none,fun j=>if j=k2 then a.tmps.toList else Okv j,Olv,fun j=>if j=k2 then bs else Odv j,Olc⟩
 have hcomp:∀ e,noK k2 e=true → oE ⟨Ow,OX,Of,Og,none,Okv,Olv,Odv,Olc⟩ O' e ∧ oE O' ⟨Ow,OX,Of,Og,none,Okv,Olv,Odv,Olc⟩ e:=fun e he=>by
  cases e with
  | kept j ds => have:j ≠ k2:=by simpa [noK] using he
                 simp [oE,O',this]
  | loop j=>simp [oE,O']
  | _=>exact ⟨trivial,trivial⟩
 have h0:HOk O' E β (entL S.H):=hr.h.swap ⟨rfl,rfl,rfl,rfl⟩ fun id=>.inl ⟨rfl,(hcomp _ (nO hfr (by simp))).1⟩
 have h1:HOk O' E β (entL ((idK,.kept k2 (allD N S)) :: S.H)):=h0.addK (by simpa [O'] using uR hr) fun c hc=>(hall c (by simpa [O'] using hc)).2
 have hargs:=hxs.rd hr
 have hlen:=hargs.length
 have hrel:Rel O' fn.ntmps ⟨(List.range ds.length).zip ds,(idK,.kept k2 (allD N S)) :: S.H⟩ E β { tmps:=(xs.map a.eval).toArray ++ Array.replicate (fn.ntmps - (xs.map a.eval).toArray.size) undef,defers:=[] }:=by
  refine ⟨by simp at hlen ⊢; omega,pM.nil,h1,fun s=>?_⟩
  have:=sI hargs (fn.ntmps - (xs.map a.eval).toArray.size) s
  show Rd E β _ (look _ _ _)
  simpa using this
 refine nH (E:=E) (O:=O') hf hb rfl hfoot hrel (h O' ⟨rfl,hfoot,fun j hj=>by
  have h1:j ≠ k2:=fun e=>hj (by simp [e])
  have h2:j ∉ L:=fun e=>hj (by simp [e])
  show (if j=k2 then _ else Odv j)=[]
  rw [if_neg h1]; exact hdv j h2⟩) ?_
 rintro e S2 E2 β2 a2 hr2 ⟨he,iK,dk,rs,hres,hentK,hfree,S5,ρ5,hw5,hils⟩
 refine ⟨he,?_⟩
 obtain ⟨v,hv,hrd⟩:=aDN hr2 hres
 have hkept:=hr2.h.ent iK
 rw [hentK] at hkept
 obtain ⟨k1,k2'⟩:=hkept
 have hkv:O'.kv k2=a.tmps.toList:=by simp [O']
 have hdk:O'.dv k2=bs:=by simp [O']
 rw [hkv] at k1; rw [hdk] at k2'
 have hdk3:dk.length=N:=by rw [← k1.length]; simpa using hr.n
 suffices hrel5:Rel ⟨Ow,OX,Of,Og,none,Okv,Olv,Odv,Olc⟩ N ⟨(t,retD rs) :: (List.range N).zip dk,(iK,.none) :: S2.H⟩ E2 β2 (a.put (some t) v) by
  obtain ⟨β5,hr5⟩:=hrel5.weak hw5
  exact ⟨v,hv,hK' _ _ (hils E2 β5 _ hr5)⟩
 refine Rel.set (S:=⟨(List.range N).zip dk,(iK,.none) :: S2.H⟩) ⟨hr.n,⟨bs,hbs,hnd,fun c hc=>⟨(hall c hc).1,k2' c hc⟩⟩,?_,fun s=>?_⟩ ht hrd
 · refine HOk.swap (O:=O') (H:=entL S2.H) hr2.h ⟨rfl,rfl,rfl,rfl⟩ fun id=>?_
   by_cases h5:iK=id
   · right; show look _ _ _=_; rw [aU,if_pos h5]
   · left
     refine ⟨by show look _ _ _=look _ _ _; rw [aU,if_neg h5],(hcomp _ ?_).2⟩
     exact nO hfree (by simp; exact Ne.symm h5)
 · have:=pR k1 s
   rw [hdk3] at this
   exact this
def LG (P:Program) (O:cC) (N:Nat) (c:Code) (Q:Exit → St → Prop) (S:St):Prop :=
 ∀ E β a,Rel O N S E β a → ∀ (b:Frame) (k:List Item) (cs:List Frame),b.roundOf=(fen O.round).round → (fen O.round).fn b.fn → (fen O.round).room (cs.length + 1 + 0) →
   ∃ e a' w',(∃ S' E' β',E'.w=w' ∧ Rel O N S' E' β' a' ∧ Q e S') ∧ ArrivesIn (Machine.fenced P (fen O.round)) P (lone (b.atR a (.code c :: .inLoop c :: k)) cs E.w) b k cs e a' w'
theorem aA9 {c:Code} (h:IWP P O N c S (zM (LG P O N c Q) Q)):LG P O N c Q S:=by
 intro E β a hr b k cs hro hb hroom
 obtain ⟨e,a₁,w₁,⟨S₁,E₁,β₁,rfl,hr₁,hq⟩,harr⟩:=h E β a hr b (.inLoop c :: k) cs hro hb hroom
 cases e with
 | normal =>
   obtain ⟨e₂,a₂,w₂,hq₂,harr₂⟩:=hq E₁ β₁ a₁ hr₁ b k cs hro hb hroom
   exact ⟨e₂,a₂,w₂,hq₂,.of_steps (StepsIn.trans harr (.one (fenced_calm hb hroom rfl) stepR_inLoop)) harr₂⟩
 | exit id=>exact ⟨_,a₁,_,⟨S₁,E₁,β₁,rfl,hr₁,hq⟩,.pass (x:=.inLoop c) rfl (fun _ _=>.inl (by simp)) harr⟩
 | goto l=>exact ⟨_,a₁,_,⟨S₁,E₁,β₁,rfl,hr₁,hq⟩,.pass (x:=.inLoop c) rfl (fun _ _=>.inl (by simp)) harr⟩
 | ret=>exact ⟨_,a₁,_,⟨S₁,E₁,β₁,rfl,hr₁,hq⟩,.pass (x:=.inLoop c) rfl (fun _ _=>.inl (by simp)) harr⟩
 | panic ch=>exact ⟨_,a₁,_,⟨S₁,E₁,β₁,rfl,hr₁,hq⟩,.pass (x:=.inLoop c) rfl (fun _ _=>.inl (by simp)) harr⟩
 | outgrown=>exact ⟨_,a₁,_,⟨S₁,E₁,β₁,rfl,hr₁,hq⟩,.pass (x:=.inLoop c) rfl (fun _ _=>.inl (by simp)) harr⟩
theorem vX {c:Code} (h:LG P O N c Q S):IWP P O N (.loop c) S Q:=by
 intro E β a hr b k cs hro hb hroom
 obtain ⟨e,a',w',hq,harr⟩:=h E β a hr b k cs hro hb hroom
 exact ⟨e,a',w',hq,.of_steps (.one (fenced_calm hb hroom rfl) stepR_loop) harr⟩
theorem aBA {α:Type} {c:Code} (st:α → St) (inv:α → Prop) (m:α → Nat) (a0:α) (ρ0:Nat → Nat) (h0:Weak S (st a0) ρ0) (i0:inv a0)
 (round:∀ x,inv x → IWP P O N c (st x) (zM (fun S'=>∃ y ρ,Weak S' (st y) ρ ∧ inv y ∧ m y < m x) Q)):LG P O N c Q S:=by
 intro E β a hr b k cs hro hb hroom
 have key:∀ n x E β a,m x=n → inv x → Rel O N (st x) E β a →
  ∃ e a' w',(∃ S' E' β',E'.w=w' ∧ Rel O N S' E' β' a' ∧ Q e S') ∧ ArrivesIn (Machine.fenced P (fen O.round)) P (lone (b.atR a (.code c :: .inLoop c :: k)) cs E.w) b k cs e a' w':=by
  intro n
  induction n using Nat.strongRecOn with
  | _ n ih =>
    intro x E β a hn hI hr
    obtain ⟨e,a₁,w₁,⟨S₁,E₁,β₁,rfl,hr₁,hq⟩,harr⟩:=round x hI E β a hr b (.inLoop c :: k) cs hro hb hroom
    cases e with
    | normal =>
      obtain ⟨y,ρ,hw,hI₁,hlt⟩:=hq
      obtain ⟨β₂,hr₂⟩:=hr₁.weak hw
      obtain ⟨e₂,a₂,w₂,hq₂,harr₂⟩:=ih (m y) (hn ▸ hlt) y E₁ β₂ a₁ rfl hI₁ hr₂
      exact ⟨e₂,a₂,w₂,hq₂,.of_steps (StepsIn.trans harr (.one (fenced_calm hb hroom rfl) stepR_inLoop)) harr₂⟩
    | exit id=>exact ⟨_,a₁,_,⟨S₁,E₁,β₁,rfl,hr₁,hq⟩,.pass (x:=.inLoop c) rfl (fun _ _=>.inl (by simp)) harr⟩
    | goto l=>exact ⟨_,a₁,_,⟨S₁,E₁,β₁,rfl,hr₁,hq⟩,.pass (x:=.inLoop c) rfl (fun _ _=>.inl (by simp)) harr⟩
    | ret=>exact ⟨_,a₁,_,⟨S₁,E₁,β₁,rfl,hr₁,hq⟩,.pass (x:=.inLoop c) rfl (fun _ _=>.inl (by simp)) harr⟩
    | panic ch=>exact ⟨_,a₁,_,⟨S₁,E₁,β₁,rfl,hr₁,hq⟩,.pass (x:=.inLoop c) rfl (fun _ _=>.inl (by simp)) harr⟩
    | outgrown=>exact ⟨_,a₁,_,⟨S₁,E₁,β₁,rfl,hr₁,hq⟩,.pass (x:=.inLoop c) rfl (fun _ _=>.inl (by simp)) harr⟩
 obtain ⟨β₀,hr₀⟩:=hr.weak h0
 exact key _ a0 E β₀ a rfl i0 hr₀
def aBj (l:Nat) (J:St → Prop) (Q:Exit → St → Prop):Exit → St → Prop
 | .goto l',S=>l'=l ∧ J S
 | e,S=>Q e S
theorem aCv {l:Nat} {J:St → Prop} (h:Q .ret S):aBj l J Q .ret S:=h
theorem iY {b:Frame} {k:List Item} {cs:List Frame} {m:Machine} {c:Code} {e:Exit} {a:Act} {w:World} (hro:b.roundOf=(fen O.round).round) (hb:(fen O.round).fn b.fn) (hr:(fen O.round).room (cs.length + 1 + 0)) (he:∀ l,e ≠ .goto l)
 (h:ArrivesIn (Machine.fenced P (fen O.round)) P m b (.inScope c :: k) cs e a w):ArrivesIn (Machine.fenced P (fen O.round)) P m b k cs e a w:=by
 cases e with
 | normal=>exact StepsIn.trans h (.one (fenced_calm hb hr rfl) xZ)
 | exit id =>
   have hx:exitTo id (.inScope c :: k)=exitTo id k:=by simp [exitTo]
   exact ⟨fun k' hk=>h.1 k' (by rw [hx]; exact hk),fun hr' hk=>h.2 hr' (by rw [hx]; exact hk)⟩
 | goto l=>exact absurd rfl (he l)
 | ret=>exact h
 | panic ch=>exact h
 | outgrown=>exact h
theorem wR {α:Type} {c A:Code} (l:Nat) (st:α → St) (inv:α → Prop) (m:α → Nat) (hg:findLabel c l=some (.seq .skip A))
 (round:∀ x,inv x → IWP P O N A (st x) (aBj l (fun S'=>∃ y ρ,Weak S' (st y) ρ ∧ inv y ∧ m y < m x) Q))
 (h:(∀ S,(∃ y ρ,Weak S (st y) ρ ∧ inv y) → IWP P O N A S (aBj l (fun S'=>∃ y ρ,Weak S' (st y) ρ ∧ inv y) Q)) → IWP P O N c S (aBj l (fun S'=>∃ y ρ,Weak S' (st y) ρ ∧ inv y) Q)):IWP P O N (.scope c) S Q:=by
 have hsk:∀ x,inv x → IWP P O N (.seq .skip A) (st x) (aBj l (fun S'=>∃ y ρ,Weak S' (st y) ρ ∧ inv y ∧ m y < m x) Q):=fun x hx=>aT (aS (round x hx))
 have hgo:∀ S,(∃ y ρ,Weak S (st y) ρ ∧ inv y) → IWP P O N A S (aBj l (fun S'=>∃ y ρ,Weak S' (st y) ρ ∧ inv y) Q):=by
  rintro S ⟨y,ρ,hw,hy⟩
  refine rG ρ hw (yN (round y hy) fun e S' hq=>?_)
  cases e with
  | goto l'=>obtain ⟨h1,z,ρ',h2,h3,_⟩:=hq; exact ⟨h1,z,ρ',h2,h3⟩
  | _=>exact hq
 intro E β a hr b k cs hro hb hroom
 have hk:gotoIn l (.inScope c :: k)=some (.code (.seq .skip A) :: .inScope c :: k):=by simp [gotoIn,hg]
 have key:∀ n x E β a,m x=n → inv x → Rel O N (st x) E β a →
  ∃ e a' w',(∃ S' E' β',E'.w=w' ∧ Rel O N S' E' β' a' ∧ Q e S') ∧ ArrivesIn (Machine.fenced P (fen O.round)) P (lone (b.atR a (.code (.seq .skip A) :: .inScope c :: k)) cs E.w) b k cs e a' w':=by
  intro n
  induction n using Nat.strongRecOn with
  | _ n ih =>
    intro x E β a hn hI hr
    obtain ⟨e,a₁,w₁,⟨S₁,E₁,β₁,rfl,hr₁,hq⟩,harr⟩:=hsk x hI E β a hr b (.inScope c :: k) cs hro hb hroom
    cases e with
    | goto l' =>
      obtain ⟨rfl,y,ρ,hw,hI₁,hlt⟩:=hq
      obtain ⟨β₂,hr₂⟩:=hr₁.weak hw
      obtain ⟨e₂,a₂,w₂,hq₂,harr₂⟩:=ih (m y) (hn ▸ hlt) y E₁ β₂ a₁ rfl hI₁ hr₂
      exact ⟨e₂,a₂,w₂,hq₂,.of_steps (harr.1 _ hk) harr₂⟩
    | normal=>exact ⟨_,a₁,_,⟨S₁,E₁,β₁,rfl,hr₁,hq⟩,iY hro hb hroom (fun _ h=>by cases h) harr⟩
    | exit id=>exact ⟨_,a₁,_,⟨S₁,E₁,β₁,rfl,hr₁,hq⟩,iY hro hb hroom (fun _ h=>by cases h) harr⟩
    | ret=>exact ⟨_,a₁,_,⟨S₁,E₁,β₁,rfl,hr₁,hq⟩,iY (c:=c) hro hb hroom (fun _ h=>by cases h) harr⟩
    | panic ch=>exact ⟨_,a₁,_,⟨S₁,E₁,β₁,rfl,hr₁,hq⟩,iY (c:=c) hro hb hroom (fun _ h=>by cases h) harr⟩
    | outgrown=>exact ⟨_,a₁,_,⟨S₁,E₁,β₁,rfl,hr₁,hq⟩,iY (c:=c) hro hb hroom (fun _ h=>by cases h) harr⟩
 obtain ⟨e,a₁,w₁,⟨S₁,E₁,β₁,rfl,hr₁,hq⟩,harr⟩:=h hgo E β a hr b (.inScope c :: k) cs hro hb hroom
 have hst:StepsIn (Machine.fenced P (fen O.round)) P (lone (b.atR a (.code (.scope c) :: k)) cs E.w) (lone (b.atR a (.code c :: .inScope c :: k)) cs E.w):=.one (fenced_calm hb hroom rfl) aAW
 cases e with
 | goto l' =>
   obtain ⟨rfl,y,ρ,hw,hI₁⟩:=hq
   obtain ⟨β₂,hr₂⟩:=hr₁.weak hw
   obtain ⟨e₂,a₂,w₂,hq₂,harr₂⟩:=key (m y) y E₁ β₂ a₁ rfl hI₁ hr₂
   exact ⟨e₂,a₂,w₂,hq₂,.of_steps hst (.of_steps (harr.1 _ hk) harr₂)⟩
 | normal=>exact ⟨_,a₁,_,⟨S₁,E₁,β₁,rfl,hr₁,hq⟩,.of_steps hst (iY hro hb hroom (fun _ h=>by cases h) harr)⟩
 | exit id=>exact ⟨_,a₁,_,⟨S₁,E₁,β₁,rfl,hr₁,hq⟩,.of_steps hst (iY hro hb hroom (fun _ h=>by cases h) harr)⟩
 | ret=>exact ⟨_,a₁,_,⟨S₁,E₁,β₁,rfl,hr₁,hq⟩,.of_steps hst (iY (c:=c) hro hb hroom (fun _ h=>by cases h) harr)⟩
 | panic ch=>exact ⟨_,a₁,_,⟨S₁,E₁,β₁,rfl,hr₁,hq⟩,.of_steps hst (iY (c:=c) hro hb hroom (fun _ h=>by cases h) harr)⟩
 | outgrown=>exact ⟨_,a₁,_,⟨S₁,E₁,β₁,rfl,hr₁,hq⟩,.of_steps hst (iY (c:=c) hro hb hroom (fun _ h=>by cases h) harr)⟩
end
end Go.IL
namespace Go.IL
def mixD {α:Type} (f:Enc0 α) (pre:List D) (xs:List α) (post:List D):List D:=pre ++ (D.flat (xs.map f.d) ++ post)
section
variable {P:Program} {O:cC} {N:Nat} {S S':St} {o:Oper} {t:Nat} {α:Type}
theorem tP (f:Enc0 α) (pre:List D) (xs:List α) (post:List D):(mixD f pre xs post).length=pre.length + (xs.length * f.sz + post.length):=by
 unfold mixD
 rw [List.length_append,List.length_append,f.flat_len]
theorem aCa (f:Enc0 α) {pre:List D} (xs:List α) (post:List D) {off:Nat} (h:off ≤ pre.length):(mixD f pre xs post).drop off=pre.drop off ++ (D.flat (xs.map f.d) ++ post):=by
 unfold mixD
 rw [List.drop_append_of_le_length h]
theorem aDV (f:Enc0 α) (pre:List D) {xs:List α} {post:List D} {n off k:Nat} (hl:xs.length=n) (ho:off=pre.length + n * f.sz + k):(mixD f pre xs post).drop off=post.drop k:=by
 unfold mixD
 have h1:=f.flat_len xs
 rw [hl] at h1
 rw [ho,Nat.add_assoc,List.drop_append,List.drop_of_length_le (by omega),List.nil_append,show pre.length + (n * f.sz + k) - pre.length=n * f.sz + k by omega,List.drop_append,List.drop_of_length_le (by omega),List.nil_append,show n * f.sz + k - (D.flat (xs.map f.d)).length=k by omega]
theorem aCb (f:Enc0 α) {pre:List D} {xs:List α} {post:List D} {b i k:Nat} {a:α} (hb:pre.length=b) (ha:xs[i]? = some a) (hk:k ≤ f.sz):∃ q,(mixD f pre xs post).drop (b + (i * f.sz + k))=(f.d a).cells.drop k ++ q:=by
 obtain ⟨q,hq⟩:=f.drop_at ha k hk
 have hlt:=(List.getElem?_eq_some_iff.1 ha).1
 have hle:(i + 1) * f.sz ≤ xs.length * f.sz:=Nat.mul_le_mul_right _ (by omega)
 rw [Nat.add_mul,Nat.one_mul] at hle
 refine ⟨q ++ post,?_⟩
 unfold mixD
 rw [List.drop_append,List.drop_of_length_le (by omega),List.nil_append,show b + (i * f.sz + k) - pre.length=i * f.sz + k by omega,List.drop_append_of_le_length (by rw [f.flat_len]; omega),hq,List.append_assoc]
theorem aCc {f:Enc0 α} {pre post:List D} {xs:List α} {a:α} {b i k size:Nat} (hb:pre.length=b) (ha:xs[i]? = some a) (hn:k + size ≤ f.sz):b + (i * f.sz + k) + size ≤ (mixD f pre xs post).length:=by
 have hlt:=(List.getElem?_eq_some_iff.1 ha).1
 have hle:(i + 1) * f.sz ≤ xs.length * f.sz:=Nat.mul_le_mul_right _ (by omega)
 rw [Nat.add_mul,Nat.one_mul] at hle
 rw [tP]; omega
section loads
variable (f:Enc0 α) {T:TypeId} {x:Operand} {u:TypeDesc} {z:Option Value} {size bytes:Nat} {id off:Nat} {e:TypeId} {pre post r cs:List D} {xs:List α} {d:D}
theorem sB (ho:o.op = .load T x) (hd:o.dst=some t) (ht:t < N) (hu:P.underlying T=some u) (hg:kM P T=false) (hi:TI P T z size bytes) (h1:0 < size) (hx:SV S x (.ref id off)) (he:S.ent id = .blk e (mixD f pre xs post)) (hn:off + size ≤ pre.length)
 (hdd:pre.drop off=d :: r):IOp P O N o S (S.set t d) :=
 aI ho hd ht hu hg hi h1 hx he (by rw [tP]; omega) (r:=r ++ (D.flat (xs.map f.d) ++ post)) (by rw [aCa f xs post (by omega),hdd]; rfl)
theorem oW (ho:o.op = .load T x) (hd:o.dst=some t) (ht:t < N) (hu:P.underlying T=some u) (hg:kM P T=true) (hi:TI P T z size bytes) (h1:0 < size) (hx:SV S x (.ref id off)) (he:S.ent id = .blk e (mixD f pre xs post)) (hn:off + size ≤ pre.length)
 (hdd:(pre.drop off).take size=cs):IOp P O N o S (S.set t (.agg cs)) :=
 lC ho hd ht hu hg hi h1 hx he (by rw [tP]; omega) (by rw [aCa f xs post (by omega),List.take_append_of_le_length (by rw [List.length_drop]; omega)]; exact hdd)
theorem iD {n k:Nat} (ho:o.op = .load T x) (hd:o.dst=some t) (ht:t < N) (hu:P.underlying T=some u) (hg:kM P T=false) (hi:TI P T z size bytes) (h1:0 < size) (hx:SV S x (.ref id off)) (he:S.ent id = .blk e (mixD f pre xs post)) (hl:xs.length=n)
 (hof:off=pre.length + n * f.sz + k) (hn:k + size ≤ post.length) (hdd:post.drop k=d :: r):IOp P O N o S (S.set t d) :=
 aI ho hd ht hu hg hi h1 hx he (by rw [tP,hl]; omega) (by rw [aDV f pre hl hof]; exact hdd)
theorem cM {b i k:Nat} {a:α} (ho:o.op = .load T x) (hd:o.dst=some t) (ht:t < N) (hu:P.underlying T=some u) (hg:kM P T=false) (hi:TI P T z size bytes) (h1:0 < size) (hx:SV S x (.ref id (b + (i * f.sz + k)))) (he:S.ent id = .blk e (mixD f pre xs post)) (hb:pre.length=b)
 (ha:xs[i]? = some a) (hn:k + size ≤ f.sz) (hdd:(f.d a).cells.drop k=d :: r):IOp P O N o S (S.set t d):=by
 obtain ⟨q,hq⟩:=aCb (post:=post) f hb ha (show k ≤ f.sz by omega)
 exact aI ho hd ht hu hg hi h1 hx he (aCc hb ha hn) (r:=r ++ q) (by rw [hq,hdd]; rfl)
theorem aAl {b i k:Nat} {a:α} (ho:o.op = .load T x) (hd:o.dst=some t) (ht:t < N) (hu:P.underlying T=some u) (hg:kM P T=true) (hi:TI P T z size bytes) (h1:0 < size) (hx:SV S x (.ref id (b + (i * f.sz + k)))) (he:S.ent id = .blk e (mixD f pre xs post)) (hb:pre.length=b)
 (ha:xs[i]? = some a) (hn:k + size ≤ f.sz) (hdd:((f.d a).cells.drop k).take size=cs):IOp P O N o S (S.set t (.agg cs)):=by
 obtain ⟨q,hq⟩:=aCb (post:=post) f hb ha (show k ≤ f.sz by omega)
 exact lC ho hd ht hu hg hi h1 hx he (aCc hb ha hn) (by rw [hq,List.take_append_of_le_length (by rw [List.length_drop,(f.fl a).1]; omega)]; exact hdd)
end loads
theorem vD {A Z C:List D} {off:Nat} (h:off + C.length ≤ A.length):fZ (A ++ Z) off C=fZ A off C ++ Z:=by
 unfold fZ
 rw [List.take_append_of_le_length (by omega),List.drop_append_of_le_length (by omega)]; simp
theorem qV {A Z C:List D} {off k:Nat} (h:off=A.length + k):fZ (A ++ Z) off C=A ++ fZ Z k C:=by
 unfold fZ
 rw [h,List.take_append,List.take_of_length_le (by omega),show A.length + k - A.length=k by omega,List.drop_append,List.drop_of_length_le (by omega),List.nil_append,show A.length + k + C.length - A.length=k + C.length by omega]; simp
section stores
variable (f:Enc0 α) {T:TypeId} {x y:Operand} {z:Option Value} {size bytes:Nat} {id off:Nat} {e:TypeId} {pre pre' post post':List D} {xs zs:List α} {d:D}
theorem tS (ho:o.op = .store T x y) (hd:o.dst=none) (hi:TI P T z size bytes) (hx:SV S x (.ref id off)) (he:S.ent id = .blk e (mixD f pre xs post)) (hy:SV S y d) (hb:d.boxable=true) (hsz:d.cells.length=size) (h1:d.cells.all D.one=true)
 (hn:off + size ≤ pre.length) (hds:fZ pre off d.cells=pre'):IOp P O N o S (S.setE id (.blk e (mixD f pre' xs post))) :=
 dZ ho hd hi hx he hy hb hsz h1 (by rw [tP]; omega) (by unfold mixD; rw [vD (by omega),hds])
theorem pV {n k:Nat} (ho:o.op = .store T x y) (hd:o.dst=none) (hi:TI P T z size bytes) (hx:SV S x (.ref id off)) (he:S.ent id = .blk e (mixD f pre xs post)) (hy:SV S y d) (hb:d.boxable=true) (hsz:d.cells.length=size) (h1:d.cells.all D.one=true)
 (hl:xs.length=n) (hof:off=pre.length + n * f.sz + k) (hn:k + size ≤ post.length) (hds:fZ post k d.cells=post'):IOp P O N o S (S.setE id (.blk e (mixD f pre xs post'))):=by
 have hfl:=f.flat_len xs
 rw [hl] at hfl
 exact dZ ho hd hi hx he hy hb hsz h1 (by rw [tP,hl]; omega) (by unfold mixD; rw [qV (A:=pre) (k:=n * f.sz + k) (by omega),qV (k:=k) (by omega),hds])
theorem jQ {b i k:Nat} {a a':α} (ho:o.op = .store T x y) (hd:o.dst=none) (hi:TI P T z size bytes) (hx:SV S x (.ref id (b + (i * f.sz + k)))) (he:S.ent id = .blk e (mixD f pre xs post)) (hy:SV S y d) (hb:d.boxable=true) (hsz:d.cells.length=size) (h1:d.cells.all D.one=true)
 (hpb:pre.length=b) (ha:xs[i]? = some a) (hn:k + size ≤ f.sz) (hs:fZ (f.d a).cells k d.cells=(f.d a').cells) (hz:xs.set i a'=zs):IOp P O N o S (S.setE id (.blk e (mixD f pre zs post))):=by
 subst hz
 have hlt:=(List.getElem?_eq_some_iff.1 ha).1
 have hle:(i + 1) * f.sz ≤ xs.length * f.sz:=Nat.mul_le_mul_right _ (by omega)
 rw [Nat.add_mul,Nat.one_mul] at hle
 refine dZ ho hd hi hx he hy hb hsz h1 (aCc hpb ha hn) ?_
 unfold mixD
 rw [qV (A:=pre) (k:=i * f.sz + k) (by omega),vD (by rw [f.flat_len]; omega),f.flat_set (by omega) ha hs]
end stores
theorem dO (f:Enc0 α) {T e:TypeId} {len b:Nat} {x y:Operand} {xs:List α} {a:α} {k:IntKind} {n:Int} {z:Option Value} {bytes:Nat} {id:Nat} (ho:o.op = .indexAddr T x y) (hd:o.dst=some t) (ht:t < N)
 (hu:P.underlying T=some (.array len e)) (hi:TI P e z f.sz bytes) (hx:SV S x (.ref id b)) (hl:xs.length=len) (hy:SV S y (.int k n)) (hn:gix xs n=some a) :
 IOp P O N o S (S.set t (.ref id (b + (n.toNat * f.sz + 0)))) :=
 qI ho hd ht hu hi hx hy (aBk hn).1 (hl ▸ (List.getElem?_eq_some_iff.1 (aBk hn).2).1) (by omega)
theorem bZ {T:TypeId} {x:Operand} {i:Nat} {fs:Array Field} {F:Field} {z:Option Value} {size bytes:Nat} {id b j k:Nat} (ho:o.op = .fieldAddr T x i) (hd:o.dst=some t) (ht:t < N)
 (hu:P.underlying T=some (.struct fs)) (hf:fs[i]? = some F) (hi:TI P F.type z size bytes) (hs:0 < size) (hx:SV S x (.ref id (b + (j + k)))) {k':Nat} (ho':k + F.offset=k'):IOp P O N o S (S.set t (.ref id (b + (j + k')))) :=
 aP ho hd ht hu hf hi hs hx (by omega)
theorem rU {ρ:Nat → Nat}:∀ (l m:List D),D.renL ρ (l ++ m)=D.renL ρ l ++ D.renL ρ m
 | [],_=>rfl
 | d :: l,m=>by rw [List.cons_append,D.renL,D.renL,rU l m]; rfl
theorem eL {ρ:Nat → Nat} (f:Enc α) (pre:List D) (xs:List α) (post:List D):D.renL ρ (mixD f.toEnc0 pre xs post)=mixD f.toEnc0 (D.renL ρ pre) xs (D.renL ρ post):=by
 unfold mixD
 rw [rU,rU,D.renL_bare _ (f.noRef xs)]
theorem yC {p:Nat → Bool} (f:Enc α) {pre:List D} {xs:List α} {post:List D} (h1:D.refsInL p pre=true) (h2:D.refsInL p post=true):D.refsInL p (mixD f.toEnc0 pre xs post)=true:=by
 unfold mixD
 exact nX h1 (nX (D.refsInL_mono _ (f.noRef xs)) h2)
theorem SubC.refl:∀ l:List D,SubC l l
 | []=>.nil
 | _ :: l=>.same (SubC.refl l)
theorem SubC.append {l l' m m':List D} (h:SubC l l') (k:SubC m m'):SubC (l ++ m) (l' ++ m'):=by
 induction h with
 | nil=>exact k
 | same _ ih=>exact .same ih
 | nilg _ ih=>exact .nilg ih
 | nilo _ ih=>exact .nilo ih
 | nils _ ih=>exact .nils ih
 | gsl _ ih=>exact .gsl ih
theorem EntW.mix {ρ:Nat → Nat} {id:Nat} {e:TypeId} (f:Enc α) {pre pre' post post':List D} {xs:List α} (h:S.ent (ρ id) = .blk e (mixD f.toEnc0 pre' xs post')) (h1:SubC pre' (D.renL ρ pre)) (h2:SubC post' (D.renL ρ post))
 (r1:D.refsInL S'.okn pre=true) (r2:D.refsInL S'.okn post=true):EntW S S' ρ id (.blk e (mixD f.toEnc0 pre xs post)) :=
 .sub h (by rw [eL]; exact h1.append ((SubC.refl _).append h2)) (yC f r1 r2)
theorem SubC.of_eq {l l':List D} (h:l=l'):SubC l l':=h ▸ SubC.refl l
theorem mT (f:Enc α) {ρ:Nat → Nat} {i:Nat} {e:TypeId} {pre pre' post post':List D} {xs:List α} (h:S.ent i = .blk e (mixD f.toEnc0 pre' xs post')) (h1:pre'=D.renL ρ pre) (h2:post'=D.renL ρ post):S.ent i=(Ent.blk e (mixD f.toEnc0 pre xs post)).ren ρ:=by
 rw [h,Ent.ren,eL,h1,h2]
theorem eA (f:Enc α) {p:Nat → Bool} {e:TypeId} {pre post:List D} {xs:List α} (h1:D.refsInL p pre=true) (h2:D.refsInL p post=true):(Ent.blk e (mixD f.toEnc0 pre xs post)).refsIn p=true:=yC f h1 h2
theorem SlW.mix {ρ:Nat → Nat} {t:Nat} (f:Enc α) {xs:List α} (h:S.get t = .agg (mixD f.toEnc0 [] xs [])):SlW S S' ρ t (.agg (mixD f.toEnc0 [] xs [])) :=
 .same (by rw [h,D.ren,eL]; rfl) (by rw [D.refsIn]; exact yC f rfl rfl)
section
variable {Q:Exit → St → Prop}
end
theorem aAC {β:Type} {z:β} {j:Nat} {f:Nat → β} {rest:List (Nat × β)}:∀ {V:List (Nat × β)},(∀ x ∈ V,f x.1=x.2) → (j ∉ V.map (·.1) → look z j rest=f j) → look z j (V ++ rest)=f j
 | [],_,h=>h (by simp)
 | x :: V,hV,h=>by
   obtain ⟨i,e⟩:=x
   rw [List.cons_append,aU]
   by_cases hi:i=j
   · subst hi; rw [if_pos rfl]; exact (hV (i,e) (by simp)).symm
   · rw [if_neg hi]; exact aAC (fun x hx=>hV x (by simp [hx])) (fun hn=>h (by simpa [Ne.symm hi] using hn))
theorem aAB {β:Type} {z:β} {j:Nat} {rest:List (Nat × β)}:∀ {V:List (Nat × β)},j ∉ V.map (·.1) → look z j (V ++ rest)=look z j rest
 | [],_=>rfl
 | (i,e) :: V,h=>by
   rw [List.cons_append,aU,if_neg (fun hi=>h (by simp [hi]))]
   exact aAB (fun hm=>h (by simp at hm ⊢; exact .inr hm))
theorem mH {f:FuncId} {xs:List Operand} {ts:Array TypeId} {ds ds':List D} {r r':D} {H0 H1 V:List (Nat × Ent)} (k:Nat) (A:List Nat) (ho:o.op = .call { callee:=.value (.func f),args:=xs.toArray,argTypes:=ts }) (hd:o.dst=some t) (ht:t < N)
 (hc:bI P f) (hx:SVs S xs ds') (hds:D.renL (sig k A) ds=ds') (hp:D.refsInL (fX A) ds=true) (hk:Nat.ble (k + 0) 1000=true)
 (hh:HandM S k A H0) (hf:FnH P f ds H0 r H1) (hrr:r.ren (sig k A)=r') (hrp:r.refsIn (pA 0 A)=true) (hH1:∀ x ∈ H1,pA 0 A x.1=true ∧ x.2.refsIn (pA 0 A)=true)
 (hV:(H1.map fun x=>(sig k A x.1,x.2.ren (sig k A)))=V) (hE:∀ x ∈ V,S.ent x.1=x.2) (hW:(H0.map fun x=>sig k A x.1).all (fun i=>(V.map (·.1)).contains i)=true):IOp P O N o S (S.set t r'):=by
 refine (mI k 0 A ho hd ht hc hx hds hp hk (by simp) hh hf hrr hrp hH1 rfl).to fun E β a hr=>hr.same (fun s=>rfl) fun j=>?_
 show S.ent j=look (defE j) j (((H1.map fun x=>(sig k A x.1,x.2.ren (sig k A))) ++ (H0.map fun x=>(sig k A x.1,Ent.none))) ++ S.H)
 rw [hV,List.append_assoc]
 refine (aAC (f:=S.ent) hE fun hn=>?_).symm
 rw [aAB (fun hm=>hn ?_)]
 · rfl
 · obtain ⟨x,hx,rfl⟩:=List.mem_map.1 hm
   obtain ⟨y,hy,rfl⟩:=List.mem_map.1 hx
   have:=List.all_eq_true.1 hW (sig k A y.1) (List.mem_map.2 ⟨y,hy,rfl⟩)
   simpa using this
end
end Go.IL
namespace Go.IL
section
variable {α:Type} (k:α → Int)
def putK (x:α):List α → List α
 | []=>[x]
 | y :: l=>if k x ≤ k y then x :: y :: l else y :: putK x l
def oV:List α → List α
 | []=>[]
 | x :: l=>putK k x (oV l)
theorem vL (x:α):∀ l:List α,(putK k x l).Perm (x :: l)
 | []=>.refl _
 | y :: l=>by
   unfold putK
   split
   · exact .refl _
   · exact ((vL x l).cons y).trans (.swap x y l)
theorem oU:∀ l:List α,(oV k l).Perm l
 | []=>.refl _
 | x :: l=>(vL k x _).trans ((oU l).cons x)
theorem vK (x:α):∀ {l:List α},l.Pairwise (fun a b=>k a ≤ k b) → (putK k x l).Pairwise (fun a b=>k a ≤ k b)
 | [],_=>List.pairwise_singleton _ _
 | y :: l,h=>by
   obtain ⟨h1,h2⟩:=List.pairwise_cons.1 h
   unfold putK
   split
   · rename_i hx
     refine List.pairwise_cons.2 ⟨fun z hz=>?_,h⟩
     rcases List.mem_cons.1 hz with rfl | hz
     · exact hx
     · have:=h1 z hz; omega
   · rename_i hx
     refine List.pairwise_cons.2 ⟨fun z hz=>?_,vK x h2⟩
     rcases List.mem_cons.1 ((vL k x l).mem_iff.1 hz) with rfl | hz
     · omega
     · exact h1 z hz
theorem qG:∀ l:List α,(oV k l).Pairwise (fun a b=>k a ≤ k b)
 | []=>.nil
 | x :: l=>vK k x (qG l)
theorem xD:∀ {l m:List α},l.Perm m → (∀ a ∈ l,∀ b ∈ l,k a=k b → a=b) → l.Pairwise (fun a b=>k a ≤ k b) → m.Pairwise (fun a b=>k a ≤ k b) → l=m
 | [],m,hp,_,_,_=>(List.nil_perm.1 hp).symm
 | x :: l,[],hp,_,_,_=>by have:=hp.length_eq; simp at this
 | x :: l,y :: m,hp,hi,h1,h2=>by
   obtain ⟨a1,a2⟩:=List.pairwise_cons.1 h1
   obtain ⟨b1,b2⟩:=List.pairwise_cons.1 h2
   have hy:y ∈ x :: l:=hp.mem_iff.2 (by simp)
   have hx:x ∈ y :: m:=hp.mem_iff.1 (by simp)
   have e:x=y:=by
    refine hi x (by simp) y hy ?_
    have l1:k x ≤ k y:=by
     rcases List.mem_cons.1 hy with e | h
     · rw [e]; exact Int.le_refl _
     · exact a1 y h
    have l2:k y ≤ k x:=by
     rcases List.mem_cons.1 hx with e | h
     · rw [e]; exact Int.le_refl _
     · exact b1 x h
    omega
   subst e
   rw [xD (List.Perm.cons_inv hp) (fun a ha b hb=>hi a (by simp [ha]) b (by simp [hb])) a2 b2]
theorem aAD {l m:List α} (hp:m.Perm l) (hi:∀ a ∈ l,∀ b ∈ l,k a=k b → a=b) (hs:m.Pairwise (fun a b=>k a ≤ k b)):oV k l=m :=
 (xD k (hp.trans (oU k l).symm) (fun a ha b hb=>hi a (hp.mem_iff.1 ha) b (hp.mem_iff.1 hb)) hs (qG k l)).symm
def aAZ (good:α → Bool) (l:List α):Option (List α):=if decide (l.length < 4611686018427387904) && l.all good && decide (l.map k).Nodup then some (oV k l) else none
end
theorem uI {α:Type} {k:α → Int}:∀ {l:List α},(l.map k).Nodup → ∀ a ∈ l,∀ b ∈ l,k a=k b → a=b
 | x :: l,h,a,ha,b,hb,e=>by
   obtain ⟨h1,h2⟩:=List.nodup_cons.1 h
   rcases List.mem_cons.1 ha with g | g
   · rcases List.mem_cons.1 hb with g' | g'
     · rw [g,g']
     · exact absurd (List.mem_map.2 ⟨b,g',by rw [← e,g]⟩) h1
   · rcases List.mem_cons.1 hb with g' | g'
     · exact absurd (List.mem_map.2 ⟨a,g,by rw [e,g']⟩) h1
     · exact uI h2 a g b g' e
theorem sortK_e {α:Type} {k:α → Int} {good:α → Bool} {l r:List α} (h:aAZ k good l=some r):l.length < 4611686018427387904 ∧ (∀ x ∈ l,good x=true) ∧ (l.map k).Nodup ∧ r=oV k l:=by
 unfold aAZ at h
 split at h
 · rename_i hc
   rw [Bool.and_eq_true,Bool.and_eq_true,decide_eq_true_iff,decide_eq_true_iff] at hc
   exact ⟨hc.1.1,List.all_eq_true.1 hc.1.2,hc.2,(Option.some.inj h).symm⟩
 · cases h
theorem sortK_t {α:Type} {k:α → Int} {good:α → Bool} {l:List α} (h1:l.length ≤ 1000000) (h2:∀ x ∈ l,good x=true) (h3:(l.map k).Nodup):aAZ k good l=some (oV k l):=by
 unfold aAZ
 rw [decide_eq_true (by omega),List.all_eq_true.2 h2,decide_eq_true h3]; rfl
def aB0 (l:List Int):Option (List Int):=if l.length < 4611686018427387904 then some (oV id l) else none
theorem sortI_e {l r:List Int} (h:aB0 l=some r):l.length < 4611686018427387904 ∧ r=oV id l:=by
 unfold aB0 at h
 split at h
 · exact ⟨by assumption,(Option.some.inj h).symm⟩
 · cases h
theorem aAa (l:List Int):l.mergeSort (fun x y=>decide (x ≤ y))=oV id l:=by
 refine (aAD id (List.mergeSort_perm l _) (fun a _ b _ e=>e) ?_).symm
 refine (List.pairwise_mergeSort (fun a b c h1 h2=>?_) (fun a b=>?_) l).imp fun h=>of_decide_eq_true h
 · exact decide_eq_true (Int.le_trans (of_decide_eq_true h1) (of_decide_eq_true h2))
 · rw [Bool.or_eq_true,decide_eq_true_iff,decide_eq_true_iff]; omega
end Go.IL
open Go.RowKit (Below)
open Go.Sort
namespace Go.IL
def OH (E:Env) (β:bV) (H0:List (Nat × Ent)):cC:=⟨E.w,E.X,oX β H0,β,none,fun _=>[],fun _=>0,fun _=>[],fun _=>(#[],.skip,.skip)⟩
theorem uB {α:Type} [Inhabited α] (enc:α → Value) {zs zs':List α} (sp:List Value) (hl:zs'.length=zs.length):putCells enc 0 zs'.toArray (zs.map enc ++ sp).toArray=(zs'.map enc ++ sp).toArray:=by
 apply Array.ext_getElem?
 intro i
 unfold putCells
 rw [Array.getElem?_mapIdx,List.getElem?_toArray,List.getElem?_toArray]
 by_cases hi:i < zs.length
 · have hi':i < zs'.length:=by omega
   rw [List.getElem?_append_left (by simpa using hi),List.getElem?_append_left (by simpa using hi'),List.getElem?_map,List.getElem?_map,List.getElem?_eq_getElem hi,List.getElem?_eq_getElem hi']
   simp [hi']
 · rw [List.getElem?_append_right (by simp; omega),List.getElem?_append_right (by simp; omega),List.length_map,List.length_map,hl]
   cases sp[i - zs.length]? with
   | none=>rfl
   | some v =>
     simp only [Option.map_some]
     rw [if_neg (by simp; omega)]
theorem aCZ (h:Array Obj) (b:Nat) (f:Obj → Obj) (o:Obj) (e:h[b]? = some o):(h.modify b f)[b]? = some (f o):=by
 rw [Array.getElem?_modify,if_pos rfl,e]; rfl
theorem zZ (h:Array Obj) {b k:Nat} (f:Obj → Obj) (hk:k ≠ b):(h.modify b f)[k]? = h[k]?:=by
 rw [Array.getElem?_modify,if_neg (Ne.symm hk)]
theorem aB6 {E:Env} {β:bV} {e:TypeId} {ds ds':List D} {b n:Nat} {vs sp vs':List Value} {g:Array Value → Array Value} (os:Array Obj)
 (hok:HOk (OH E β [(1000,.blk e ds)]) E β (entL [(1000,.blk e ds)])) (hb:β 1000=some b) (hh:E.w.heap[b]? = some (.cells (List.toArray (vs ++ sp)) e (0,0))) (hX:∀ o,E.X b o)
 (hg:g (List.toArray (vs ++ sp))=List.toArray (vs' ++ sp)) (hl:vs'.length=vs.length) (hv:∀ E',RdL E' β vs' ds') :
 HOk (OH E β [(1000,.blk e ds)]) ⟨grow (mapBlock (Sort.ahead E.w n) b g) os,E.X⟩ β (entL [(1000,.blk e ds')]):=by
 have hlt:=dI hh
 have hown:(OH E β [(1000,.blk e ds)]).own b:=hok.own (j:=1000) rfl hb
 let E1:Env:=⟨mapBlock (Sort.ahead E.w n) b g,E.X⟩
 have hat:E1.w.heap[b]? = some (.cells (List.toArray (vs' ++ sp)) e (0,0)):=by
  show (E.w.heap.modify b (onCells g))[b]? = _
  rw [aCZ _ _ _ _ hh]
  show some (Obj.cells (g _) e (0,0))=_
  rw [hg]
 have hs:Step (OH E β [(1000,.blk e ds)]) E E1 b:=⟨rfl,rfl,rfl,by show E.w.heap.size ≤ (E.w.heap.modify b (onCells g)).size; rw [Array.size_modify]; exact Nat.le_refl _,by show b < (E.w.heap.modify b (onCells g)).size; rw [Array.size_modify]; exact hlt,hown,fun k _ hk=>zZ _ _ hk,fun _ _ _=>Iff.rfl,fun _ h=>by rw [hh] at h; cases h⟩
 have hle:E.le E1:=hs.le (fun o v _ h2=>absurd (hX o) h2) (fun c e' f h3=>by
  rw [hh] at h3; cases h3
  exact ⟨_,_,hat,by simp [hl]⟩)
 have hput:HOk (OH E β [(1000,.blk e ds)]) E1 β (entL [(1000,.blk e ds')]):=by
  refine HOk.put hok hs hle (bV.le.refl _) (id:=1000) ?_ ?_ hb ?_ (fun _ _=>trivial)
  · intro j hj; left; exact ⟨by simp [entL,aU,Ne.symm hj],rfl⟩
  · intro j hj hheld hbj
    have:(entL [(1000,Ent.blk e ds)] j).held=true:=by simpa [entL,aU,Ne.symm hj] using hheld
    exact hj (hok.inj j 1000 b this rfl hbj hb)
  · exact ⟨_,sp,hat,hX,hv _⟩
 exact hput.below ⟨rfl,rfl,rfl,by show E1.w.heap.size ≤ (E1.w.heap ++ os).size; rw [Array.size_append]; omega,fun k hk=>by
  show (E1.w.heap ++ os)[k]? = _
  rw [Array.getElem?_append_left hk]⟩
theorem aAz {E:Env} {β:bV}:Rd E β (.tuple #[]) (retD []):=.tuple _ [] [] (.nil _)
theorem aC1 {P:Program} {f:FuncId} {e:TypeId} {n sz:Nat} {ds ds' ar:List D} (us:List Value) (has:∀ E β xs,RdL E β xs ar → xs=us)
 (hnil:n=0 → ds'=ds ∧ ∀ (p:Option Addr) (cap:Nat) (w:World),Calls P f ((.slice p 0 cap) :: us).toArray w fun e w'=>e = .returned (.tuple #[]) ∧ Below w.heap.size w w')
 (hrow:∀ (E:Env) (β:bV) (b cap:Nat) (vs sp:List Value) ,RdL E β vs ds → E.good → E.w.heap[b]? = some (.cells (List.toArray (vs ++ sp)) e (0,0)) →
   Calls P f ((.slice (some ⟨b,0,none⟩) n cap) :: us).toArray E.w fun e w'=>e = .returned (.tuple #[]) ∧ ∃ g k os vs',w'=grow (mapBlock (Sort.ahead E.w k) b g) os ∧ g (List.toArray (vs ++ sp))=List.toArray (vs' ++ sp) ∧ vs'.length=vs.length ∧ ∀ E' β',RdL E' β' vs' ds') :
 FnH P f (.osl 1000 sz n :: ar) [(1000,.blk e ds)] (retD []) [(1000,.blk e ds')]:=by
 intro E β xs hX hβ hok hvs
 cases hvs with
 | cons h1 h2 =>
   obtain rfl:=has _ _ _ h2
   cases h1 with
   | nosl =>
     obtain ⟨e1,h3⟩:=hnil rfl
     subst e1
     refine (h3 none 0 E.w).mono ?_
     rintro e' w' ⟨rfl,hb⟩
     exact ⟨_,rfl,⟨w',E.X⟩,β,rfl,hok.below hb,aAz⟩
   | osl _ _ b _ cap _ hb hc hsz c e' fz hcap hcs hcm =>
     have hent:=hok.ent 1000
     obtain ⟨vs,sp,g1,g2,g3,g4⟩:=oG (show wX (OH E β [(1000,.blk e ds)]) E β 1000 (.blk e ds) from hent) hb
     refine (hrow E β b cap vs sp g4 hX g2).mono ?_
     rintro e'' w' ⟨rfl,g,k,os,vs',rfl,k1,k2,k3⟩
     exact ⟨_,rfl,⟨_,E.X⟩,β,rfl,aB6 os hok hb g2 g3 k1 k2 (fun E'=>k3 E' β),aAz⟩
theorem aA1 {E:Env} {β:bV} {k:IntKind}:∀ {l:List Int} {vs:List Value},RdL E β vs (D.flat (l.map (eInt k).d)) → vs=l.map (Value.int k)
 | [],vs,h=>by cases h; rfl
 | x :: l,vs,h=>by
   have h:RdL E β vs (.int k x :: D.flat (l.map (eInt k).d)):=h
   cases h with
   | cons h1 h2 =>
     rw [aA1 h2,jO h1]; rfl
theorem aBB (E:Env) (β:bV) (k:IntKind):∀ (l:List Int),RdL E β (l.map (Value.int k)) (D.flat (l.map (eInt k).d))
 | []=>.nil _
 | x :: l=>.cons (.int _ _ _) (aBB E β k l)
theorem aBh {w:World} {b:Nat} {e:TypeId} {zs:List Int} {sp:List Value} (hh:w.heap[b]? = some (.cells (List.toArray (zs.map (Value.int .i64) ++ sp)) e (0,0))):Holds (Value.int .i64) w b 0 zs.toArray:=fun j hj=>by
 have hj:j < zs.length:=by simpa using hj
 refine ⟨?_,by simp [World.frozen?,hh]⟩
 simp only [World.cell?,hh,Nat.zero_add,Option.isSome_none,Bool.false_eq_true,if_false,List.getElem?_toArray]
 rw [List.getElem?_append_left (by simpa using hj),List.getElem?_map,List.getElem?_eq_getElem hj]
 simp [hj]
theorem aCz {P:Program} {ρ:Shelf.Ren} (L:Proofs.Lays.n189 P ρ) {e:TypeId} (a0:List Int) (r:List Int) (h:aB0 a0=some r) :
 FnH P (ρ.f 189) [.osl 1000 (eInt .i64).sz a0.length] [(1000,.blk e (D.flat (a0.map (eInt .i64).d)))] (retD []) [(1000,.blk e (D.flat (r.map (eInt .i64).d)))]:=by
 obtain ⟨h1,rfl⟩:=sortI_e h
 refine aC1 [] (fun E β xs h=>by cases h; rfl) (fun h0=>?_) (fun E β b cap vs sp hv _ hh=>?_)
 · obtain rfl:=List.length_eq_zero_iff.1 h0
   refine ⟨rfl,fun p cap w=>(Proofs.Any.slices_Sort_int_none L p cap w).mono ?_⟩
   rintro e w' h
   exact ⟨h.1,by rw [h.2]; exact Below.refl _ _⟩
 · obtain rfl:=aA1 hv
   refine (Proofs.Any.slices_Sort_int L b 0 cap a0 E.w (aBh hh) (dI hh) h1).mono ?_
   rintro e w' ⟨rfl,n,os,rfl⟩
   rw [aAa]
   have hl:=(oU id a0).length_eq
   exact ⟨rfl,_,n,os,(oV id a0).map (Value.int .i64),rfl,uB _ sp hl,by simp [hl],fun E' β'=>aBB E' β' _ _⟩
theorem zP {E:Env} {β:bV}:∀ {d1 d2:List D} {vs:List Value},RdL E β vs (d1 ++ d2) → ∃ v1 v2,vs=v1 ++ v2 ∧ RdL E β v1 d1 ∧ RdL E β v2 d2
 | [],d2,vs,h=>⟨[],vs,rfl,.nil _,h⟩
 | d :: d1,d2,vs,h=>by
   cases h with
   | cons h1 h2 =>
     obtain ⟨v1,v2,rfl,h3,h4⟩:=zP h2
     exact ⟨_ :: v1,v2,rfl,.cons h1 h3,h4⟩
theorem aA2 {T:Type} {f:Enc T} {enc:T → List Value} (hrd:∀ E β x vs,RdL E β vs (f.d x).cells → vs=enc x) {E:Env} {β:bV}:∀ {l:List T} {vs:List Value},RdL E β vs (D.flat (l.map f.d)) → vs=l.flatMap enc
 | [],vs,h=>by cases h; rfl
 | x :: l,vs,h=>by
   obtain ⟨v1,v2,rfl,h1,h2⟩:=zP (show RdL E β vs ((f.d x).cells ++ D.flat (l.map f.d)) from h)
   rw [hrd E β x v1 h1,aA2 hrd h2]; rfl
theorem aBJ {T:Type} {f:Enc T} {enc:T → List Value} (hrd':∀ E β x,RdL E β (enc x) (f.d x).cells) (E:Env) (β:bV):∀ l:List T,RdL E β (l.flatMap enc) (D.flat (l.map f.d))
 | []=>.nil _
 | x :: l=>(hrd' E β x).append (aBJ hrd' E β l)
theorem aBH {α:Type} [Inhabited α] {enc:α → List Value} {k:Nat} (hk:∀ x,(enc x).length=k) (h0:0 < k):∀ (l:List α) (t:Nat),t < l.length * k → (l.flatMap enc)[t]! = (enc l[t / k]!)[t % k]!
 | [],t,h=>by simp at h
 | x :: l,t,h=>by
   rw [List.flatMap_cons]
   by_cases ht:t < k
   · rw [Nat.div_eq_of_lt ht,Nat.mod_eq_of_lt ht,getElem!_pos _ t (by rw [List.length_append,hk]; omega),List.getElem_append_left (by rw [hk]; exact ht)]
     rw [show (x :: l)[0]! = x from rfl,getElem!_pos (enc x) t (by rw [hk]; exact ht)]
   · have h2:t - k < l.length * k:=by rw [List.length_cons,Nat.add_mul,Nat.one_mul] at h; omega
     have hfl:(l.flatMap enc).length=l.length * k:=by
      rw [List.length_flatMap,List.map_congr_left (fun x _=>hk x),List.map_const',List.sum_replicate_nat]
     have ih:=aBH hk h0 l (t - k) h2
     rw [getElem!_pos _ (t - k) (by rw [hfl]; exact h2)] at ih
     rw [getElem!_pos _ t (by rw [List.length_append,hk,hfl]; omega),List.getElem_append_right (by rw [hk]; omega)]
     simp only [hk]
     have e1:t / k=(t - k) / k + 1:=Nat.div_eq_sub_div h0 (Nat.le_of_not_lt ht)
     have e2:t % k=(t - k) % k:=Nat.mod_eq_sub_mod (Nat.le_of_not_lt ht)
     rw [ih,e1,e2]
     rfl
theorem xR {α:Type} [Inhabited α] {enc:α → List Value} {k:Nat} (hk:∀ x,(enc x).length=k) (h0:0 < k) (l:List α):flatK enc k l.toArray=(l.flatMap enc).toArray:=by
 have hfl:(l.flatMap enc).length=l.length * k:=by
  rw [List.length_flatMap,List.map_congr_left (fun x _=>hk x),List.map_const',List.sum_replicate_nat]
 refine ext_get! (by simp [hfl]) fun t ht=>?_
 have ht:t < l.length * k:=by simpa using ht
 rw [get_flatK _ _ _ _ (by simpa using ht)]
 have:=aBH hk h0 l t ht
 have e1:(l.flatMap enc).toArray[t]! = (l.flatMap enc)[t]!:=by simp
 have e2:l.toArray[t / k]! = l[t / k]!:=by simp
 rw [e1,this,e2]
theorem aC0 {P:Program} {ρ:Shelf.Ren} (L:Proofs.SlLaysF0.n6 P ρ) {T:Type} [Inhabited T] (f:Enc T) (enc:T → List Value) (key:T → Int) (good:T → Bool) (hgd:good default=true)
 (aE:∀ w,(isAgg (ρ.t 24)).run P w = .ok true w) (zE:∀ w,(Go.sizeOf (ρ.t 24)).run P w = .ok f.sz w) (hk:∀ x,(enc x).length=f.sz) (h1:∀ x,∀ v ∈ enc x,v.oneCell'=true)
 (hrd:∀ E β x vs,RdL E β vs (f.d x).cells → vs=enc x) (hrd':∀ E β x,RdL E β (enc x) (f.d x).cells) {g:Nat} (eg:∀ args w,(callFunc g args).run P w = .ok (.enter g args) w)
 (hcmp:∀ (x y:T) (W:World),good x=true → good y=true → Calls P g #[.agg (enc x).toArray,.agg (enc y).toArray] W fun e w'=>e = .returned (.int .i64 (key x - key y)) ∧ ∃ q os',w'=grow (W.drewN q) os')
 {e:TypeId} (a0 r:List T) (h:aAZ key good a0=some r) :
 FnH P (ρ.f 6) [.osl 1000 f.sz a0.length,.fn g []] [(1000,.blk e (D.flat (a0.map f.d)))] (retD []) [(1000,.blk e (D.flat (r.map f.d)))]:=by
 obtain ⟨hlen,hg,hnd,rfl⟩:=sortK_e h
 refine aC1 [.func (.func g) #[] #[]] (fun E β xs h=>?_) (fun h0=>?_) (fun E β b cap vs sp hv _ hh=>?_)
 · cases h with
   | cons h2 h3 =>
     cases h3
     obtain ⟨us,rfl,h4⟩:=aBT h2
     cases h4; rfl
 · obtain rfl:=List.length_eq_zero_iff.1 h0
   refine ⟨rfl,fun p cap w=>(Proofs.AnyF.slices_SortFunc_none L p cap _ w).mono ?_⟩
   rintro e w' h
   exact ⟨h.1,by rw [h.2]; exact Below.refl _ _⟩
 · obtain rfl:=aA2 hrd hv
   let α:={ x:T // good x=true }
   letI:Inhabited α:=⟨⟨default,hgd⟩⟩
   let enc':α → List Value:=fun x=>enc x.1
   let cf:α → α → Int:=fun x y=>key x.1 - key y.1
   let l:List α:=a0.attachWith (fun x=>good x=true) hg
   have hk':∀ x:α,(enc' x).length=f.sz:=fun x=>hk x.1
   have hfm:∀ m:List α,m.flatMap enc'=(m.map (·.1)).flatMap enc:=fun m=>by rw [List.flatMap_map]
   have hval:l.map (·.1)=a0:=by
    show (a0.attachWith _ hg).map (fun i=>id i.1)=_
    rw [List.attachWith_map_val]; exact List.map_id _
   have hll:l.toArray.size=a0.length:=by
    rw [List.size_toArray,← hval,List.length_map]
   have hO:SWO (Proofs.ltOf cf):={
    irrefl:=fun x=>by show decide (key x.1 - key x.1 < 0)=false; exact decide_eq_false (by omega)
    trans:=fun x y z h1 h2=>by
     have h1:=of_decide_eq_true (show decide (key x.1 - key y.1 < 0)=true from h1)
     have h2:=of_decide_eq_true (show decide (key y.1 - key z.1 < 0)=true from h2)
     show decide (key x.1 - key z.1 < 0)=true
     exact decide_eq_true (by omega)
    ntrans:=fun x y z h1 h2=>by
     have h1:=of_decide_eq_false (show decide (key x.1 - key y.1 < 0)=false from h1)
     have h2:=of_decide_eq_false (show decide (key y.1 - key z.1 < 0)=false from h2)
     show decide (key x.1 - key z.1 < 0)=false
     exact decide_eq_false (by omega) }
   have hH:HoldsK enc' f.sz E.w b 0 l.toArray:=by
    unfold HoldsK
    rw [xR hk' f.pos,hfm,hval]
    intro j hj
    have hj:j < (a0.flatMap enc).length:=by simpa using hj
    refine ⟨?_,by simp [World.frozen?,hh]⟩
    simp only [World.cell?,hh,Nat.zero_add,Option.isSome_none,Bool.false_eq_true,if_false,List.getElem?_toArray]
    rw [List.getElem?_append_left hj]
    simp [List.getElem?_eq_getElem hj]
   have hC:=Proofs.AnyQ.slices_SortFunc L f.sz aE zE enc' hk' (fun x=>h1 x.1) cf hO g #[] b 0 cap l.toArray E.w eg (fun m os dk _ x y=>hcmp x.1 y.1 _ x.2 y.2) hH (dI hh) (by rw [hll]; exact hlen)
   rw [hll] at hC
   refine hC.mono ?_
   rintro e' w' ⟨rfl,d',n,os,hp,hs,rfl⟩
   have hsz:d'.size=a0.length:=hp.1.trans hll
   have hperm:(d'.toList.map (·.1)).Perm a0:=by
    have:=hp.2.2
    rw [Array.extract_eq_self_of_le (by rw [hsz]; exact Nat.le_refl _),Array.extract_eq_self_of_le (by rw [hll]; exact Nat.le_refl _)] at this
    have:=this.map (·.1)
    rwa [show l.toArray.toList=l from rfl,hval] at this
   have hsort:(d'.toList.map (·.1)).Pairwise (fun a b=>key a ≤ key b):=by
    rw [List.pairwise_map,List.pairwise_iff_getElem]
    intro i j hi hj hij
    have hj':j < d'.size:=by simpa using hj
    have h9:=hs i j (Nat.zero_le _) hij (by rw [← hsz]; exact hj')
    have h9:=of_decide_eq_false (show decide (key (d'[j]!).1 - key (d'[i]!).1 < 0)=false from h9)
    rw [getElem!_pos d' j hj',getElem!_pos d' i (by omega)] at h9
    show key (d'.toList[i]).1 ≤ key (d'.toList[j]).1
    rw [Array.getElem_toList,Array.getElem_toList]
    omega
   have hr:oV key a0=d'.toList.map (·.1):=aAD key hperm (uI hnd) hsort
   have hl:((oV key a0).flatMap enc).length=(a0.flatMap enc).length:=((oU key a0).flatMap_right enc).length_eq
   refine ⟨rfl,_,n,os,(oV key a0).flatMap enc,rfl,?_,hl,fun E' β'=>aBJ hrd' E' β' _⟩
   have e1:flatK enc' f.sz d'=((oV key a0).flatMap enc).toArray:=by
    rw [hr,← hfm,← xR hk' f.pos]
   rw [e1]
   have:=uB id sp hl
   rw [List.map_id,List.map_id] at this
   exact this
end Go.IL
open Go Go.IL
namespace Go.Fn
structure dD where
 Kind:Int
 ID:Int
 Dep:Int
 Weight:Int
 Only:Bool
 deriving DecidableEq,Inhabited
def hG:Enc dD:=⟨⟨fun x=>.agg [.int .u8 x.Kind,.int .i64 x.ID,.int .i64 x.Dep,.int .i64 x.Weight,.bool x.Only],5,by decide,fun _=>⟨rfl,rfl⟩⟩,fun _=>rfl⟩

structure aH where
 ID:Int
 Parent:Int
 Weight:Int
 Closed:Bool
 deriving DecidableEq,Inhabited
def aC:Enc aH:=⟨⟨fun x=>.agg [.int .i64 x.ID,.int .i64 x.Parent,.int .i64 x.Weight,.bool x.Closed],4,by decide,fun _=>⟨rfl,rfl⟩⟩,fun _=>rfl⟩

structure aV where
 Room:Int
 Keep:Int
 Nodes:(List aH)
 Ended:(List Int)
 deriving DecidableEq,Inhabited
def dE (a0:(List aH)):Option (List aH) :=
 zD a0 (
  some ([]:(List aH))
 ) (
   bno (app 32 ([]:(List aH)) a0) fun x3 =>
   some x3
 )

def gS (a0:(List Int)):Option (List Int) :=
 zD a0 (
  some ([]:(List Int))
 ) (
   bno (app 8 ([]:(List Int)) a0) fun x3 =>
   some x3
 )

def lU (a0:aV):Option (Int × Int × (List aH) × (List Int)) :=
 bno (dE a0.Nodes) fun x1 =>
 bno (gS a0.Ended) fun x2 =>
 some (a0.Room,a0.Keep,x1,x2)

def oK (a0:aH):Option Bool :=
 bnd (decide (a0.ID < 1)) fun x1 =>
 bnd (decide (1048576 < a0.ID)) fun x2 =>
 bnd (x1 || x2) fun x3 =>
 bnd (decide (a0.Weight < 1)) fun x4 =>
 bnd (x3 || x4) fun x5 =>
 bnd (decide (256 < a0.Weight)) fun x6 =>
 bnd (x5 || x6) fun x7 =>
 some x7

def cF (a0:(List aH)):Nat → Int → Option Int
 | 0,_=>none
 | n0 + 1,v7 =>
   bnd (decide (v7 < (a0.length:Int))) fun x14 =>
   bif x14 then (
    bno (gix a0 v7) fun x16 =>
    bno (oK x16) fun x17 =>
    bif x17 then (
     some v7
    ) else (
      bnd (IntKind.wrap .i64 (v7 + 1)) fun x19 =>
      (cF a0 n0) x19
    )
   ) else (
     some (-1)
   )
def dU (a0:(List aH)):Option Int :=
 cF a0 fuel 0

def cH (a0:(List aH)):Option Bool :=
 bno (dU a0) fun x1 =>
 bnd (decide (0 ≤ x1)) fun x2 =>
 some x2

def hD (a0:aH) (a1:Int):Option Int :=
 bnd (IntKind.wrap .i64 (a0.ID - a1)) fun x1 =>
 some x1

def bF (a0:(List aH)) (a1:Int):Nat → Int → Int → Option (Int × Bool)
 | 0,_,_=>none
 | n0 + 1,v12,v13 =>
   bnd (decide (v12 < v13)) fun x25 =>
   bif x25 then (
    bnd (IntKind.wrap .i64 (v12 + v13)) fun x27 =>
    bnd (IntKind.wrap .u64 x27) fun x28 =>
    bno (shrI .u64 x28 1) fun x29 =>
    bnd (IntKind.wrap .i64 x29) fun x30 =>
    bno (gix a0 x30) fun x31 =>
    bno (hD x31 a1) fun x32 =>
    bnd (decide (x32 < 0)) fun x33 =>
    bif x33 then (
     bnd (IntKind.wrap .i64 (x30 + 1)) fun x35 =>
     (bF a0 a1 n0) x35 v13
    ) else (
      (bF a0 a1 n0) v12 x30
    )
   ) else (
     bnd (decide (v12 < (a0.length:Int))) fun x36 =>
     bno (gd (x36 == true) (gix a0 v12) default) fun x37 =>
     bno (gd (x36 == true) (hD x37 a1) default) fun x38 =>
     bnd (decide (x38=0)) fun x39 =>
     bnd (x36 && x39) fun x40 =>
     some (v12,x40)
   )
def cD (a0:(List aH)) (a1:Int):Option (Int × Bool) :=
 bF a0 a1 fuel 0 (a0.length:Int)

def dA (a0:aV) (a1:Int):Option (Int × Bool) :=
 bno (cD a0.Nodes a1) fun x1 =>
 some (x1.1,x1.2)

def mJ (a0:aV) (a1:aH):Option Bool :=
 bno (dA a0 a1.Parent) fun x1 =>
 bnd (!decide (a1.Parent=0)) fun x2 =>
 bnd (x2 && (!x1.2)) fun x3 =>
 some x3

def cI (a0:(List aH)) (a1:aV):Nat → Int → Option Int
 | 0,_=>none
 | n0 + 1,v7 =>
   bnd (decide (v7 < (a0.length:Int))) fun x14 =>
   bif x14 then (
    bno (gix a0 v7) fun x16 =>
    bno (mJ a1 x16) fun x17 =>
    bif x17 then (
     some v7
    ) else (
      bnd (IntKind.wrap .i64 (v7 + 1)) fun x19 =>
      (cI a0 a1 n0) x19
    )
   ) else (
     some (-1)
   )
def eB (a0:(List aH)) (a1:aV):Option Int :=
 cI a0 a1 fuel 0

def bY (a0:(List aH)) (a1:aV):Option Bool :=
 bno (eB a0 a1) fun x1 =>
 bnd (decide (0 ≤ x1)) fun x2 =>
 some x2

def fT (a0:aV):Nat → Int → (List Int) → Int → Option (List Int)
 | 0,_,_,_=>none
 | n0 + 1,v11,v12,v13 =>
   bnd (decide (v13 < (a0.Nodes.length:Int))) fun x24 =>
   bif x24 then (
    bno (dA a0 v11) fun x26 =>
    bno (gd ((!x26.2) == false) (gix a0.Nodes x26.1) default) fun x27 =>
    bnd (decide (x27.Parent=0)) fun x28 =>
    bnd ((!x26.2) || x28) fun x29 =>
    bif x29 then (
     some v12
    ) else (
      bno (gix a0.Nodes x26.1) fun x31 =>
      bno (app 8 v12 ([x31.Parent]:(List Int))) fun x32 =>
      bnd (IntKind.wrap .i64 (v13 + 1)) fun x33 =>
      (fT a0 n0) x31.Parent x32 x33
    )
   ) else (
     some v12
   )
def iS (a0:aV) (a1:Int):Option (List Int) :=
 fT a0 fuel a1 ([]:(List Int)) 0

def dL (a0:(List Int)) (a1:Int):Nat → Int → Option Int
 | 0,_=>none
 | n0 + 1,v7 =>
   bnd (decide (v7 < (a0.length:Int))) fun x14 =>
   bif x14 then (
    bno (gix a0 v7) fun x16 =>
    bnd (decide (a1=x16)) fun x17 =>
    bif x17 then (
     some v7
    ) else (
      bnd (IntKind.wrap .i64 (v7 + 1)) fun x19 =>
      (dL a0 a1 n0) x19
    )
   ) else (
     some (-1)
   )
def jG (a0:(List Int)) (a1:Int):Option Int :=
 dL a0 a1 fuel 0

def cX (a0:(List Int)) (a1:Int):Option Bool :=
 bno (jG a0 a1) fun x1 =>
 bnd (decide (0 ≤ x1)) fun x2 =>
 some x2

def lT (a0:aV) (a1:aH):Option Bool :=
 bno (iS a0 a1.ID) fun x1 =>
 bno (cX x1 a1.ID) fun x2 =>
 some x2

def cG (a0:(List aH)) (a1:aV):Nat → Int → Option Int
 | 0,_=>none
 | n0 + 1,v7 =>
   bnd (decide (v7 < (a0.length:Int))) fun x14 =>
   bif x14 then (
    bno (gix a0 v7) fun x16 =>
    bno (lT a1 x16) fun x17 =>
    bif x17 then (
     some v7
    ) else (
      bnd (IntKind.wrap .i64 (v7 + 1)) fun x19 =>
      (cG a0 a1 n0) x19
    )
   ) else (
     some (-1)
   )
def dV (a0:(List aH)) (a1:aV):Option Int :=
 cG a0 a1 fuel 0

def bX (a0:(List aH)) (a1:aV):Option Bool :=
 bno (dV a0 a1) fun x1 =>
 bnd (decide (0 ≤ x1)) fun x2 =>
 some x2

def iU (a0:aV) (v14:Int) (kk0:Int → Int → Option Bool) (x29:aH) (v32:Int):Option Bool :=
 bno (cX a0.Ended x29.ID) fun x33 =>
 bnd (!(x29.Closed == x33)) fun x34 =>
 bif x34 then (
  some false
 ) else (
   bnd (IntKind.wrap .i64 (v14 + 1)) fun x36 =>
   kk0 v32 x36
 )
def dS (a0:aV):Nat → Int → Int → Option Bool
 | 0,_,_=>none
 | n0 + 1,v13,v14 =>
   bnd (decide (v14 < (a0.Nodes.length:Int))) fun x27 =>
   bif x27 then (
    bno (gix a0.Nodes v14) fun x29 =>
    bif x29.Closed then (
     bnd (IntKind.wrap .i64 (v13 + 1)) fun x38 =>
     iU a0 v14 (dS a0 n0) x29 x38
    ) else (
      iU a0 v14 (dS a0 n0) x29 v13
    )
   ) else (
     bnd (decide (v13=(a0.Ended.length:Int))) fun x39 =>
     some x39
   )
def kO (a0:aV):Option Bool :=
 dS a0 fuel 0 0

def iX (a0 : aV):Nat → Int → Option Int
 | 0,_=>none
 | n0 + 1, v23 =>
   bnd (decide (v23 < (a0.Nodes.length:Int))) fun x32 =>
   bif x32 then (
    bnd (IntKind.wrap .i64 (v23 - 1)) fun x34 =>
    bno (gix a0.Nodes x34) fun x35 =>
    bno (gix a0.Nodes v23) fun x36 =>
    bnd (decide (x36.ID ≤ x35.ID)) fun x37 =>
    bif x37 then (
     some 10
    ) else (
      bnd (IntKind.wrap .i64 (v23 + 1)) fun x39 =>
      (iX a0 n0) x39
    )
   ) else (
     bno (bY a0.Nodes a0) fun x40 =>
     bif x40 then (
      some 6
     ) else (
       bno (bX a0.Nodes a0) fun x42 =>
       bif x42 then (
        some 4
       ) else (
         bno (kO a0) fun x44 =>
         bif (!x44) then (
          some 9
         ) else (
           some 0
         )
       )
     )
   )
def jR (a0:aV):Option Int :=
 bnd (decide (a0.Room < 1)) fun x1 =>
 bnd (decide (24 < a0.Room)) fun x2 =>
 bnd (x1 || x2) fun x3 =>
 bnd (decide (a0.Keep < 0)) fun x4 =>
 bnd (x3 || x4) fun x5 =>
 bnd (decide (a0.Room < a0.Keep)) fun x6 =>
 bnd (x5 || x6) fun x7 =>
 bno (gd (x7 == false) (cH a0.Nodes) default) fun x8 =>
 bnd (x7 || x8) fun x9 =>
 bif x9 then (
  some 8
 ) else (
   bnd (decide (a0.Room < (a0.Nodes.length:Int))) fun x11 =>
   bnd (decide (a0.Keep < (a0.Ended.length:Int))) fun x12 =>
   bnd (x11 || x12) fun x13 =>
   bif x13 then (
    some 7
   ) else (
     iX a0 fuel 1
   )
 )

def eS (a0:Int) (a1:Int) (a3:(List aH)) (a4:(List Int)):Nat → Int → (List Int) → Int → Option (List Int)
 | 0,_,_,_=>none
 | n0 + 1,v13,v14,v15 =>
   bnd (decide (v15 < (a3.length:Int))) fun x28 =>
   bif x28 then (
    bno (dA (⟨a0,a1,a3,a4⟩:aV) v13) fun x30 =>
    bno (gd ((!x30.2) == false) (gix a3 x30.1) default) fun x31 =>
    bno (gd ((!x30.2) == false) (a3[(x30.1:Int).toNat]?) default) fun x32 =>
    bnd (decide (x32.Parent=0)) fun x33 =>
    bnd ((!x30.2) || x33) fun x34 =>
    bif x34 then (
     some v14
    ) else (
      bno (gix a3 x30.1) fun x36 =>
      bno (a3[(x30.1:Int).toNat]?) fun x37 =>
      bno (app 8 v14 ([x37.Parent]:(List Int))) fun x38 =>
      bnd (IntKind.wrap .i64 (v15 + 1)) fun x39 =>
      (eS a0 a1 a3 a4 n0) x37.Parent x38 x39
    )
   ) else (
     some v14
   )
def lI (a0:Int) (a1:Int) (a2:Int) (a3:(List aH)) (a4:(List Int)):Option (List Int) :=
 eS a0 a1 a3 a4 fuel a2 ([]:(List Int)) 0

def fA (a0:Int) (a1:Int) (a2:dD) (a4:(List Int)) (v6:Int) (v7:Int) (v8:Bool) (x9:(Int × Bool)) (v21:(List aH)):Nat → Int → (List aH) → Option (Int × Int × (List aH) × (List Int))
 | 0,_,_=>none
 | n2 + 1,v36,v37 =>
   bnd (decide (v36 < (v21.length:Int))) fun x52 =>
   bif x52 then (
    bno (gix v37 v36) fun x54 =>
    bno (gd (v8 == true) (v37[(v36:Int).toNat]?) default) fun x55 =>
    bnd (decide (x55.Parent=v6)) fun x56 =>
    bnd (v8 && x56) fun x57 =>
    bno (gd (x57 == true) (v37[(v36:Int).toNat]?) default) fun x58 =>
    bnd (!decide (x58.ID=a2.ID)) fun x59 =>
    bnd (x57 && x59) fun x60 =>
    bif x60 then (
     bno (v37[(v36:Int).toNat]?) fun x62 =>
     bnd (v37.set ((v36:Int).toNat) (⟨x62.ID,a2.ID,x62.Weight,x62.Closed⟩:aH)) fun x63 =>
     bnd (IntKind.wrap .i64 (v36 + 1)) fun x64 =>
     (fA a0 a1 a2 a4 v6 v7 v8 x9 v21 n2) x64 x63
    ) else (
      bnd (IntKind.wrap .i64 (v36 + 1)) fun x65 =>
      (fA a0 a1 a2 a4 v6 v7 v8 x9 v21 n2) x65 v37
    )
   ) else (
     bno (gix v37 x9.1) fun x66 =>
     bno (v37[(x9.1:Int).toNat]?) fun x67 =>
     bnd (v37.set ((x9.1:Int).toNat) (⟨x67.ID,v6,x67.Weight,x67.Closed⟩:aH)) fun x68 =>
     bno (gix x68 x9.1) fun x69 =>
     bno (x68[(x9.1:Int).toNat]?) fun x70 =>
     bnd (x68.set ((x9.1:Int).toNat) (⟨x70.ID,x70.Parent,v7,x70.Closed⟩:aH)) fun x71 =>
     some (a0,a1,x71,a4)
   )
def gO (a0:Int) (a1:Int) (a2:dD) (a4:(List Int)) (v6:Int) (v7:Int) (v8:Bool) (x9:(Int × Bool)) (v21:(List aH)):Option (Int × Int × (List aH) × (List Int)) :=
 fA a0 a1 a2 a4 v6 v7 v8 x9 v21 fuel 0 v21
def gP (a0:Int) (a1:Int) (a2:dD) (a3:(List aH)) (a4:(List Int)) (x1:(Int × Bool)) (v5:Int) (v6:Int) (v7:Int) (v8:Bool):Option (Int × Int × (List aH) × (List Int)) :=
 bno (dA (⟨a0,a1,a3,a4⟩:aV) a2.ID) fun x9 =>
 bif x1.2 then (
  bno (lI a0 a1 v6 a3 a4) fun x73 =>
  bno (cX x73 a2.ID) fun x74 =>
  bnd (bif x1.2 then x74 else false) fun x75 =>
  bif x75 then (
   bno (gix a3 x9.1) fun x77 =>
   bno (a3[(x9.1:Int).toNat]?) fun x78 =>
   bno (gix a3 x1.1) fun x79 =>
   bno (a3[(x1.1:Int).toNat]?) fun x80 =>
   bnd (a3.set ((x1.1:Int).toNat) (⟨x80.ID,x78.Parent,x80.Weight,x80.Closed⟩:aH)) fun x81 =>
   gO a0 a1 a2 a4 v6 v7 v8 x9 x81
  ) else (
    gO a0 a1 a2 a4 v6 v7 v8 x9 a3
  )
 ) else (
   bnd (x1.2 && false) fun x82 =>
   gO a0 a1 a2 a4 v6 v7 v8 x9 a3
 )
def iT (a0:Int) (a1:Int) (a2:dD) (a3:(List aH)) (a4:(List Int)):Option (Int × Int × (List aH) × (List Int)) :=
 bno (dA (⟨a0,a1,a3,a4⟩:aV) a2.Dep) fun x1 =>
 bnd (!decide (a2.Dep=0)) fun x83 =>
 bnd ((!x1.2) && x83) fun x84 =>
 bif x84 then (
  gP a0 a1 a2 a3 a4 x1 0 0 16 false
 ) else (
   gP a0 a1 a2 a3 a4 x1 a2.Kind a2.Dep a2.Weight a2.Only
 )

def eZ (a0:Int) (a1:Int) (a2:(List aH)):Option (List aH):=delS a2 a0 a1

def gJ (a0:aV) (a1:Int):Nat → Int → Int → Option Int
 | 0,_,_=>none
 | n0 + 1,v9,v10 =>
   bnd (decide (v10 < (a0.Nodes.length:Int))) fun x19 =>
   bif x19 then (
    bno (gix a0.Nodes v10) fun x21 =>
    bnd (decide (x21.Parent=a1)) fun x22 =>
    bif x22 then (
     bnd (IntKind.wrap .i64 (v9 + x21.Weight)) fun x24 =>
     bnd (IntKind.wrap .i64 (v10 + 1)) fun x25 =>
     (gJ a0 a1 n0) x24 x25
    ) else (
      bnd (IntKind.wrap .i64 (v10 + 1)) fun x26 =>
      (gJ a0 a1 n0) v9 x26
    )
   ) else (
     some v9
   )
def mW (a0:aV) (a1:Int):Option Int :=
 gJ a0 a1 fuel 0 0

def lV (a0:Int) (a1:Int):Option Bool :=
 bnd (decide (a0=a1)) fun x1 =>
 some x1

def dP (a0:(List Int)) (a1:Int):Nat → Int → Option Int
 | 0,_=>none
 | n0 + 1,v7 =>
   bnd (decide (v7 < (a0.length:Int))) fun x14 =>
   bif x14 then (
    bno (gix a0 v7) fun x16 =>
    bno (lV x16 a1) fun x17 =>
    bif x17 then (
     some v7
    ) else (
      bnd (IntKind.wrap .i64 (v7 + 1)) fun x19 =>
      (dP a0 a1 n0) x19
    )
   ) else (
     some (-1)
   )
def jA (a0:(List Int)) (a1:Int):Option Int :=
 dP a0 a1 fuel 0

def cR (a1:Int):Nat → (List Int) → Int → Int → Option (List Int)
 | 0,_,_,_=>none
 | n0 + 1,v17,v18,v19 =>
   bnd (decide (v19 < (v17.length:Int))) fun x32 =>
   bif x32 then (
    bno (gix v17 v19) fun x34 =>
    bno (v17[(v19:Int).toNat]?) fun x35 =>
    bno (lV x35 a1) fun x36 =>
    bif (!x36) then (
     bno (gix v17 v18) fun x38 =>
     bno (v17[(v18:Int).toNat]?) fun x39 =>
     bnd (v17.set ((v18:Int).toNat) x35) fun x40 =>
     bnd (IntKind.wrap .i64 (v18 + 1)) fun x41 =>
     bnd (IntKind.wrap .i64 (v19 + 1)) fun x42 =>
     (cR a1 n0) x40 x41 x42
    ) else (
      bnd (IntKind.wrap .i64 (v19 + 1)) fun x43 =>
      (cR a1 n0) v17 v18 x43
    )
   ) else (
     bno (cut v17 0 v18) fun x44 =>
     bno (cut x44 0 v18) fun x45 =>
     some x45
   )
def eO (a0:(List Int)) (a1:Int):Option (List Int) :=
 bno (jA a0 a1) fun x1 =>
 bnd (decide (x1=(-1))) fun x2 =>
 bif x2 then (
  some a0
 ) else (
   bnd (IntKind.wrap .i64 (x1 + 1)) fun x4 =>
   cR a1 fuel a0 x1 x4
 )

def fL (a0:Int) (a1:Int) (a2:Int) (a4:(List Int)) (x3:aH) (x5:(List aH)) (x6:Int):Nat → Int → (List aH) → Option (Int × Int × (List aH) × (List Int))
 | 0,_,_=>none
 | n0 + 1,v23,v24 =>
   bnd (decide (v23 < (x5.length:Int))) fun x41 =>
   bif x41 then (
    bno (gix v24 v23) fun x43 =>
    bno (v24[(v23:Int).toNat]?) fun x44 =>
    bnd (decide (x44.Parent=a2)) fun x45 =>
    bif x45 then (
     bno (v24[(v23:Int).toNat]?) fun x47 =>
     bnd (IntKind.wrap .i64 (x3.Weight * x47.Weight)) fun x48 =>
     bno (quoI .i64 x48 x6) fun x49 =>
     bnd (max x49 1) fun x50 =>
     bno (v24[(v23:Int).toNat]?) fun x51 =>
     bnd (v24.set ((v23:Int).toNat) (⟨x51.ID,x3.Parent,x51.Weight,x51.Closed⟩:aH)) fun x52 =>
     bno (x52[(v23:Int).toNat]?) fun x53 =>
     bnd (x52.set ((v23:Int).toNat) (⟨x53.ID,x53.Parent,x50,x53.Closed⟩:aH)) fun x54 =>
     bnd (IntKind.wrap .i64 (v23 + 1)) fun x55 =>
     (fL a0 a1 a2 a4 x3 x5 x6 n0) x55 x54
    ) else (
      bnd (IntKind.wrap .i64 (v23 + 1)) fun x56 =>
      (fL a0 a1 a2 a4 x3 x5 x6 n0) x56 v24
    )
   ) else (
     bno (eO a4 a2) fun x57 =>
     some (a0,a1,v24,x57)
   )
def fN (a0:Int) (a1:Int) (a2:Int) (a3:(List aH)) (a4:(List Int)):Option (Int × Int × (List aH) × (List Int)) :=
 bno (dA (⟨a0,a1,a3,a4⟩:aV) a2) fun x1 =>
 bno (gix a3 x1.1) fun x2 =>
 bno (a3[(x1.1:Int).toNat]?) fun x3 =>
 bnd (IntKind.wrap .i64 (x1.1 + 1)) fun x4 =>
 bno (eZ x1.1 x4 a3) fun x5 =>
 bno (mW (⟨a0,a1,x5,a4⟩:aV) a2) fun x6 =>
 fL a0 a1 a2 a4 x3 x5 x6 fuel 0 x5

def eY (a0:Int) (a1:(List aH)) (a2:(List aH)):Option (List aH):=insS 32 a2 a0 a1

def fJ (a2:dD) (v22:Int) (v23:Int) (v24:(List aH)) (v25:(List Int)):Option (Int × Int × (List aH) × (List Int) × Int) :=
 bno (dA (⟨v22,v23,v24,v25⟩:aV) a2.ID) fun x26 =>
 bno (eY x26.1 ([(⟨a2.ID,a2.ID,16,false⟩:aH)]:(List aH)) v24) fun x27 =>
 bno (iT v22 v23 a2 x27 v25) fun x28 =>
 some (x28.1,x28.2.1,x28.2.2.1,x28.2.2.2,0)
def dC (a0:Int) (a1:Int) (a2:dD) (a3:(List aH)) (a4:(List Int)) (v6:Bool):Option (Int × Int × (List aH) × (List Int) × Int) :=
 bif v6 then (
  some (a0,a1,a3,a4,8)
 ) else (
   bnd (decide (a2.ID=a2.Dep)) fun x8 =>
   bif x8 then (
    some (a0,a1,a3,a4,4)
   ) else (
     bno (dA (⟨a0,a1,a3,a4⟩:aV) a2.ID) fun x10 =>
     bif x10.2 then (
      bnd (decide (a2.Kind=0)) fun x12 =>
      bif x12 then (
       some (a0,a1,a3,a4,13)
      ) else (
        bno (iT a0 a1 a2 a3 a4) fun x14 =>
        some (x14.1,x14.2.1,x14.2.2.1,x14.2.2.2,0)
      )
     ) else (
       bnd (decide (a0 ≤ (a3.length:Int))) fun x29 =>
       bif x29 then (
        bnd (decide ((a4.length:Int)=0)) fun x31 =>
        bif x31 then (
         some (a0,a1,a3,a4,7)
        ) else (
          bno (gix a4 0) fun x33 =>
          bno (a4[(0:Int).toNat]?) fun x34 =>
          bno (fN a0 a1 x34 a3 a4) fun x35 =>
          fJ a2 x35.1 x35.2.1 x35.2.2.1 x35.2.2.2
        )
       ) else (
         fJ a2 a0 a1 a3 a4
       )
     )
   )
 )
def fF (a0:Int) (a1:Int) (a2:dD) (a3:(List aH)) (a4:(List Int)):Option (Int × Int × (List aH) × (List Int) × Int) :=
 bno (oK (⟨a2.ID,0,a2.Weight,false⟩:aH)) fun x36 =>
 bif x36 then (
  dC a0 a1 a2 a3 a4 x36
 ) else (
   bnd (decide (a2.Dep < 0)) fun x38 =>
   bif x38 then (
    dC a0 a1 a2 a3 a4 x38
   ) else (
     bnd (decide (1048576 < a2.Dep)) fun x40 =>
     dC a0 a1 a2 a3 a4 x40
   )
 )

def gZ (a0:Int) (a1:Int) (a2:Int) (a3:(List aH)) (a4:(List Int)):Option (Int × Int × (List aH) × (List Int) × Int) :=
 bno (dA (⟨a0,a1,a3,a4⟩:aV) a2) fun x1 =>
 bif (!x1.2) then (
  some (a0,a1,a3,a4,6)
 ) else (
   bno (gix a3 x1.1) fun x3 =>
   bno (a3[(x1.1:Int).toNat]?) fun x4 =>
   bif x4.Closed then (
    some (a0,a1,a3,a4,9)
   ) else (
     bno (gix a3 x1.1) fun x6 =>
     bno (a3[(x1.1:Int).toNat]?) fun x7 =>
     bnd (a3.set ((x1.1:Int).toNat) (⟨x7.ID,x7.Parent,x7.Weight,true⟩:aH)) fun x8 =>
     bno (app 8 a4 ([a2]:(List Int))) fun x9 =>
     bnd (decide (a1 < (x9.length:Int))) fun x10 =>
     bif x10 then (
      bno (gix x9 0) fun x12 =>
      bno (x9[(0:Int).toNat]?) fun x13 =>
      bno (fN a0 a1 x13 x8 x9) fun x14 =>
      some (x14.1,x14.2.1,x14.2.2.1,x14.2.2.2,0)
     ) else (
       some (a0,a1,x8,x9,0)
     )
   )
 )

def nG (a1:dD) (x1:(Int × Int × (List aH) × (List Int))) (v8:Bool):Option (aV × Int) :=
 bif v8 then (
  bno (fF x1.1 x1.2.1 a1 x1.2.2.1 x1.2.2.2) fun x10 =>
  some ((⟨x10.1,x10.2.1,x10.2.2.1,x10.2.2.2.1⟩:aV),x10.2.2.2.2)
 ) else (
   bnd (decide (a1.Kind=2)) fun x11 =>
   bif x11 then (
    bno (gZ x1.1 x1.2.1 a1.ID x1.2.2.1 x1.2.2.2) fun x13 =>
    some ((⟨x13.1,x13.2.1,x13.2.2.1,x13.2.2.2.1⟩:aV),x13.2.2.2.2)
   ) else (
     bnd (decide (a1.Kind=3)) fun x14 =>
     bif x14 then (
      bno (dA (⟨x1.1,x1.2.1,x1.2.2.1,x1.2.2.2⟩:aV) a1.ID) fun x16 =>
      bif (!x16.2) then (
       some ((⟨x1.1,x1.2.1,x1.2.2.1,x1.2.2.2⟩:aV),6)
      ) else (
        bno (fN x1.1 x1.2.1 a1.ID x1.2.2.1 x1.2.2.2) fun x18 =>
        some ((⟨x18.1,x18.2.1,x18.2.2.1,x18.2.2.2⟩:aV),0)
      )
     ) else (
       some ((⟨x1.1,x1.2.1,x1.2.2.1,x1.2.2.2⟩:aV),12)
     )
   )
 )
def tW (a0:aV) (a1:dD):Option (aV × Int) :=
 bno (lU a0) fun x1 =>
 bno (jR a0) fun x2 =>
 bnd (!decide (x2=0)) fun x3 =>
 bif x3 then (
  some ((⟨x1.1,x1.2.1,x1.2.2.1,x1.2.2.2⟩:aV),x2)
 ) else (
   bnd (decide (a1.Kind=0)) fun x19 =>
   bif x19 then (
    nG a1 x1 x19
   ) else (
     bnd (decide (a1.Kind=1)) fun x21 =>
     nG a1 x1 x21
   )
 )

def oY (a1:(List dD)):Nat → (List Int) → Int → Int → Int → (List aH) → (List Int) → Option (aV × (List Int))
 | 0,_,_,_,_,_,_=>none
 | n0 + 1,v7,v8,v9,v10,v11,v12 =>
   bnd (decide (v8 < (a1.length:Int))) fun x19 =>
   bif x19 then (
    bno (gix a1 v8) fun x21 =>
    bno (tW (⟨v9,v10,v11,v12⟩:aV) x21) fun x22 =>
    bno (app 8 v7 ([x22.2]:(List Int))) fun x23 =>
    bnd (IntKind.wrap .i64 (v8 + 1)) fun x24 =>
    (oY a1 n0) x23 x24 x22.1.Room x22.1.Keep x22.1.Nodes x22.1.Ended
   ) else (
     some ((⟨v9,v10,v11,v12⟩:aV),v7)
   )
def yZ (a0:aV) (a1:(List dD)):Option (aV × (List Int)) :=
 oY a1 fuel ([]:(List Int)) 0 a0.Room a0.Keep a0.Nodes a0.Ended

def jF (a0:aV) (a1:Int):Option Bool :=
 bno (dA a0 a1) fun x1 =>
 bno (gd (x1.2 == true) (jR a0) default) fun x2 =>
 bnd (decide (x2=0)) fun x3 =>
 bnd (x1.2 && x3) fun x4 =>
 some x4

def rI (a0:aV) (a1:Int):Option Int :=
 bno (jF a0 a1) fun x1 =>
 bif (!x1) then (
  some 0
 ) else (
   bno (iS a0 a1) fun x3 =>
   bnd (IntKind.wrap .i64 ((x3.length:Int) + 1)) fun x4 =>
   some x4
 )

def oD (x6:(List Int)) (x8:(List Int)):Nat → Int → Option Int
 | 0,_=>none
 | n0 + 1,v16 =>
   bnd (decide (v16 < (x8.length:Int))) fun x24 =>
   bif x24 then (
    bno (gix x8 v16) fun x26 =>
    bno (x8[(v16:Int).toNat]?) fun x27 =>
    bno (cX x6 x27) fun x28 =>
    bif x28 then (
     some x27
    ) else (
      bnd (IntKind.wrap .i64 (v16 + 1)) fun x30 =>
      (oD x6 x8 n0) x30
    )
   ) else (
     some 0
   )
def tC (a0:aV) (a1:Int) (a2:Int):Option Int :=
 bno (jF a0 a1) fun x1 =>
 bno (gd ((!x1) == false) (jF a0 a2) default) fun x2 =>
 bnd ((!x1) || (!x2)) fun x3 =>
 bif x3 then (
  some 0
 ) else (
   bno (iS a0 a2) fun x5 =>
   bno (app 8 x5 ([a2]:(List Int))) fun x6 =>
   bno (iS a0 a1) fun x7 =>
   bno (app 8 ([a1]:(List Int)) x7) fun x8 =>
   oD x6 x8 fuel 0
 )

def iE (rec0:Int → aV → (List Int) → Option (List Int)) (a0:Int) (a1:aV):Nat → Int → (List Int) → Option (List Int)
 | 0,_,_=>none
 | n0 + 1,v10,v11 =>
   bnd (decide (v10 < (a1.Nodes.length:Int))) fun x21 =>
   bif x21 then (
    bno (gix a1.Nodes v10) fun x23 =>
    bnd (decide (x23.Parent=a0)) fun x24 =>
    bif x24 then (
     bno (app 8 v11 ([x23.ID]:(List Int))) fun x26 =>
     bno (rec0 x23.ID a1 x26) fun x27 =>
     bnd (IntKind.wrap .i64 (v10 + 1)) fun x28 =>
     (iE rec0 a0 a1 n0) x28 x27
    ) else (
      bnd (IntKind.wrap .i64 (v10 + 1)) fun x29 =>
      (iE rec0 a0 a1 n0) x29 v11
    )
   ) else (
     some v11
   )
def nC (rec0:Int → aV → (List Int) → Option (List Int)) (a0:Int) (a1:aV) (a2:(List Int)):Option (List Int) :=
 iE rec0 a0 a1 fuel 0 a2
def lO:Nat → Int → aV → (List Int) → Option (List Int)
 | 0,_,_,_=>none
 | nr + 1,a0,a1,a2=>nC (lO nr) a0 a1 a2

def jS (a0:Int) (a1:aV):Nat → Int → (List Int) → Option (List Int)
 | 0,_,_=>none
 | n0 + 1,v10,v11 =>
   bnd (decide (v10 < (a1.Nodes.length:Int))) fun x21 =>
   bif x21 then (
    bno (gix a1.Nodes v10) fun x23 =>
    bnd (decide (x23.Parent=a0)) fun x24 =>
    bif x24 then (
     bno (app 8 v11 ([x23.ID]:(List Int))) fun x26 =>
     bno (lO fuel x23.ID a1 x26) fun x27 =>
     bnd (IntKind.wrap .i64 (v10 + 1)) fun x28 =>
     (jS a0 a1 n0) x28 x27
    ) else (
      bnd (IntKind.wrap .i64 (v10 + 1)) fun x29 =>
      (jS a0 a1 n0) x29 v11
    )
   ) else (
     some v11
   )
def pK (a0:Int) (a1:aV):Option (List Int) :=
 jS a0 a1 fuel 0 ([]:(List Int))

def eP (a0:(List Int)) (a1:(List Int)):Nat → Int → Option Bool
 | 0,_=>none
 | n0 + 1,v10 =>
   bnd (decide (v10 < (a0.length:Int))) fun x18 =>
   bif x18 then (
    bno (gix a0 v10) fun x20 =>
    bno (gix a1 v10) fun x21 =>
    bnd (!decide (x20=x21)) fun x22 =>
    bif x22 then (
     some false
    ) else (
      bnd (IntKind.wrap .i64 (v10 + 1)) fun x24 =>
      (eP a0 a1 n0) x24
    )
   ) else (
     some true
   )
def gM (a0:(List Int)) (a1:(List Int)):Option Bool :=
 bnd (!decide ((a0.length:Int)=(a1.length:Int))) fun x1 =>
 bif x1 then (
  some false
 ) else (
   eP a0 a1 fuel 0
 )

def yY (a0:aV) (a1:Int):Option Int :=
 bno (jR a0) fun x1 =>
 bnd (!decide (x1=0)) fun x2 =>
 bnd (!decide (a1=0)) fun x3 =>
 bno (gd ((x2 == false) && (x3 == true)) (jF a0 a1) default) fun x4 =>
 bnd (x3 && (!x4)) fun x5 =>
 bnd (x2 || x5) fun x6 =>
 bif x6 then (
  some 0
 ) else (
   bno (mW a0 a1) fun x8 =>
   some x8
 )

def dX (a0:(List aH)) (a1:(List aH)):Nat → Int → Option Bool
 | 0,_=>none
 | n0 + 1,v10 =>
   bnd (decide (v10 < (a0.length:Int))) fun x18 =>
   bif x18 then (
    bno (gix a0 v10) fun x20 =>
    bno (gix a1 v10) fun x21 =>
    bnd ((decide (x20.ID=x21.ID) && (decide (x20.Parent=x21.Parent) && (decide (x20.Weight=x21.Weight) && ((x20.Closed == x21.Closed) && true))))) fun x22 =>
    bif (!x22) then (
     some false
    ) else (
      bnd (IntKind.wrap .i64 (v10 + 1)) fun x24 =>
      (dX a0 a1 n0) x24
    )
   ) else (
     some true
   )
def iA (a0:(List aH)) (a1:(List aH)):Option Bool :=
 bnd (!decide ((a0.length:Int)=(a1.length:Int))) fun x1 =>
 bif x1 then (
  some false
 ) else (
   dX a0 a1 fuel 0
 )

def iB (a0:(List Int)) (a1:(List Int)):Nat → Int → Option Bool
 | 0,_=>none
 | n0 + 1,v10 =>
   bnd (decide (v10 < (a0.length:Int))) fun x18 =>
   bif x18 then (
    bno (gix a0 v10) fun x20 =>
    bno (gix a1 v10) fun x21 =>
    bnd (!decide (x20=x21)) fun x22 =>
    bif x22 then (
     some false
    ) else (
      bnd (IntKind.wrap .i64 (v10 + 1)) fun x24 =>
      (iB a0 a1 n0) x24
    )
   ) else (
     some true
   )
def mS (a0:(List Int)) (a1:(List Int)):Option Bool :=
 bnd (!decide ((a0.length:Int)=(a1.length:Int))) fun x1 =>
 bif x1 then (
  some false
 ) else (
   iB a0 a1 fuel 0
 )

def tB (a0:aV) (a1:aV):Option Bool :=
 bnd (decide (a0.Room=a1.Room)) fun x1 =>
 bnd (decide (a0.Keep=a1.Keep)) fun x2 =>
 bnd (x1 && x2) fun x3 =>
 bno (gd (x3 == true) (iA a0.Nodes a1.Nodes) default) fun x4 =>
 bnd (x3 && x4) fun x5 =>
 bno (gd (x5 == true) (mS a0.Ended a1.Ended) default) fun x6 =>
 bnd (x5 && x6) fun x7 =>
 some x7

end Go.Fn
open Go Go.IL
namespace Go.Fn


end Go.Fn
open Go Go.IL
namespace Go.Fn
structure aW where
 Room:Int
 Keep:Int
 L:(List aH)
 Closed:(List Int)
 deriving DecidableEq,Inhabited
def eE (a0:aW) (a1:Int):Nat → Int → Option Int
 | 0,_=>none
 | n0 + 1,v7 =>
   bnd (decide (v7 < (a0.L.length:Int))) fun x14 =>
   bif x14 then (
    bno (gix a0.L v7) fun x16 =>
    bnd (decide (x16.ID=a1)) fun x17 =>
    bif x17 then (
     some v7
    ) else (
      bnd (IntKind.wrap .i64 (v7 + 1)) fun x19 =>
      (eE a0 a1 n0) x19
    )
   ) else (
     some (-1)
   )
def bR (a0:aW) (a1:Int):Option Int :=
 eE a0 a1 fuel 0

def gW (a0:aW) (v18:Int) (kk0:(List Int) → Int → Int → Option (List Int)) (x37:aH) (v41:(List Int)):Option (List Int) :=
 bno (bR a0 x37.Parent) fun x42 =>
 bnd (IntKind.wrap .i64 (v18 + 1)) fun x43 =>
 kk0 v41 x42 x43
def fB (a0:aW):Nat → (List Int) → Int → Int → Option (List Int)
 | 0,_,_,_=>none
 | n0 + 1,v16,v17,v18 =>
   bnd (decide (v18 ≤ (a0.L.length:Int))) fun x33 =>
   bnd (decide (0 ≤ v17)) fun x34 =>
   bnd (x33 && x34) fun x35 =>
   bif x35 then (
    bno (gix a0.L v17) fun x37 =>
    bnd (!decide (x37.Parent=0)) fun x44 =>
    bif x44 then (
     bno (app 8 v16 ([x37.Parent]:(List Int))) fun x46 =>
     gW a0 v18 (fB a0 n0) x37 x46
    ) else (
      gW a0 v18 (fB a0 n0) x37 v16
    )
   ) else (
     some v16
   )
def lZ (a0:aW) (a1:Int):Option (List Int) :=
 bno (bR a0 a1) fun x1 =>
 fB a0 fuel ([]:(List Int)) x1 0

def lJ (a0:(List Int)) (a1:Int):Nat → Int → Option Bool
 | 0,_=>none
 | n0 + 1,v7 =>
   bnd (decide (v7 < (a0.length:Int))) fun x14 =>
   bif x14 then (
    bno (gix a0 v7) fun x16 =>
    bnd (decide (x16=a1)) fun x17 =>
    bif x17 then (
     some true
    ) else (
      bnd (IntKind.wrap .i64 (v7 + 1)) fun x19 =>
      (lJ a0 a1 n0) x19
    )
   ) else (
     some false
   )
def pH (a0:(List Int)) (a1:Int):Option Bool :=
 lJ a0 a1 fuel 0

def mK (a0:Int) (a1:Int) (a2:Int):Option Int :=
 bnd (decide (a0 < 1)) fun x1 =>
 bnd (decide (1048576 < a0)) fun x2 =>
 bnd (x1 || x2) fun x3 =>
 bnd (decide (a1 < 0)) fun x4 =>
 bnd (x3 || x4) fun x5 =>
 bnd (decide (1048576 < a1)) fun x6 =>
 bnd (x5 || x6) fun x7 =>
 bnd (decide (a2 < 1)) fun x8 =>
 bnd (x7 || x8) fun x9 =>
 bnd (decide (256 < a2)) fun x10 =>
 bnd (x9 || x10) fun x11 =>
 bif x11 then (
  some 8
 ) else (
   bnd (decide (a0=a1)) fun x13 =>
   bif x13 then (
    some 4
   ) else (
     some 0
   )
 )

def fW (a0:aW) (a1:Int):Nat → (List Int) → Int → Option (List Int)
 | 0,_,_=>none
 | n0 + 1,v10,v11 =>
   bnd (decide (v11 < (a0.L.length:Int))) fun x21 =>
   bif x21 then (
    bno (gix a0.L v11) fun x23 =>
    bnd (decide (x23.Parent=a1)) fun x24 =>
    bif x24 then (
     bno (gix a0.L v11) fun x26 =>
     bno (app 8 v10 ([x26.ID]:(List Int))) fun x27 =>
     bnd (IntKind.wrap .i64 (v11 + 1)) fun x28 =>
     (fW a0 a1 n0) x27 x28
    ) else (
      bnd (IntKind.wrap .i64 (v11 + 1)) fun x29 =>
      (fW a0 a1 n0) v10 x29
    )
   ) else (
     some v10
   )
def mA (a0:aW) (a1:Int):Option (List Int) :=
 fW a0 a1 fuel ([]:(List Int)) 0

def eD (a0:aW) (a1:aH):Option aW :=
 bno (app 32 ([]:(List aH)) a0.L) fun x1 =>
 bno (bR a0 a1.ID) fun x2 =>
 bno (gix x1 x2) fun x3 =>
 bno (x1[(x2:Int).toNat]?) fun x4 =>
 bnd (x1.set ((x2:Int).toNat) a1) fun x5 =>
 some (⟨a0.Room,a0.Keep,x5,a0.Closed⟩:aW)

def gT (a0:(List Int)) (a1:Int):Nat → (List Int) → Int → Option (List Int)
 | 0,_,_=>none
 | n0 + 1,v10,v11 =>
   bnd (decide (v11 < (a0.length:Int))) fun x21 =>
   bif x21 then (
    bno (gix a0 v11) fun x23 =>
    bnd (!decide (x23=a1)) fun x24 =>
    bif x24 then (
     bno (gix a0 v11) fun x26 =>
     bno (app 8 v10 ([x26]:(List Int))) fun x27 =>
     bnd (IntKind.wrap .i64 (v11 + 1)) fun x28 =>
     (gT a0 a1 n0) x27 x28
    ) else (
      bnd (IntKind.wrap .i64 (v11 + 1)) fun x29 =>
      (gT a0 a1 n0) v10 x29
    )
   ) else (
     some v10
   )
def lQ (a0:(List Int)) (a1:Int):Option (List Int) :=
 gT a0 a1 fuel ([]:(List Int)) 0

def gG (a1:Int) (v38:Int) (v39:Int) (v40:(List aH)) (v41:(List Int)):Nat → (List aH) → Int → Option aW
 | 0,_,_=>none
 | n2 + 1,v71,v72 =>
   bnd (decide (v72 < (v40.length:Int))) fun x82 =>
   bif x82 then (
    bno (gix v40 v72) fun x84 =>
    bnd (!decide (x84.ID=a1)) fun x85 =>
    bif x85 then (
     bno (gix v40 v72) fun x87 =>
     bno (app 32 v71 ([x87]:(List aH))) fun x88 =>
     bnd (IntKind.wrap .i64 (v72 + 1)) fun x89 =>
     (gG a1 v38 v39 v40 v41 n2) x88 x89
    ) else (
      bnd (IntKind.wrap .i64 (v72 + 1)) fun x90 =>
      (gG a1 v38 v39 v40 v41 n2) v71 x90
    )
   ) else (
     bno (lQ v41 a1) fun x91 =>
     some (⟨v38,v39,v71,x91⟩:aW)
   )
def gH (a1:Int) (x2:aH) (x3:(List Int)) (v11:Int):Nat → Int → Int → Int → (List aH) → (List Int) → Option aW
 | 0,_,_,_,_,_=>none
 | n1 + 1,v37,v38,v39,v40,v41 =>
   bnd (decide (v37 < (x3.length:Int))) fun x52 =>
   bif x52 then (
    bno (gix x3 v37) fun x54 =>
    bno (bR (⟨v38,v39,v40,v41⟩:aW) x54) fun x55 =>
    bno (gix v40 x55) fun x56 =>
    bnd (IntKind.wrap .i64 (x2.Weight * x56.Weight)) fun x57 =>
    bno (quoI .i64 x57 v11) fun x58 =>
    bnd (max 1 x58) fun x59 =>
    bno (eD (⟨v38,v39,v40,v41⟩:aW) (⟨x56.ID,x2.Parent,x59,x56.Closed⟩:aH)) fun x60 =>
    bnd (IntKind.wrap .i64 (v37 + 1)) fun x61 =>
    (gH a1 x2 x3 v11 n1) x61 x60.Room x60.Keep x60.L x60.Closed
   ) else (
     gG a1 v38 v39 v40 v41 fuel ([]:(List aH)) 0
   )
def iC (a0:aW) (a1:Int) (x2:aH) (x3:(List Int)):Nat → Int → Int → Option aW
 | 0,_,_=>none
 | n0 + 1,v11,v12 =>
   bnd (decide (v12 < (x3.length:Int))) fun x20 =>
   bif x20 then (
    bno (gix x3 v12) fun x22 =>
    bno (bR a0 x22) fun x23 =>
    bno (gix a0.L x23) fun x24 =>
    bnd (IntKind.wrap .i64 (v11 + x24.Weight)) fun x25 =>
    bnd (IntKind.wrap .i64 (v12 + 1)) fun x26 =>
    (iC a0 a1 x2 x3 n0) x25 x26
   ) else (
     gH a1 x2 x3 v11 fuel 0 a0.Room a0.Keep a0.L a0.Closed
   )
def dJ (a0:aW) (a1:Int):Option aW :=
 bno (bR a0 a1) fun x1 =>
 bno (gix a0.L x1) fun x2 =>
 bno (mA a0 a1) fun x3 =>
 iC a0 a1 x2 x3 fuel 0 0

def gF (a1:Int) (v6:Int) (v7:Int) (v8:Bool) (x10:aH) (x22:(List Int)):Nat → Int → Int → Int → (List aH) → (List Int) → Option aW
 | 0,_,_,_,_,_=>none
 | n2 + 1,v31,v32,v33,v34,v35 =>
   bnd (decide (v31 < (x22.length:Int))) fun x44 =>
   bnd (x44 && v8) fun x45 =>
   bif x45 then (
    bno (gix x22 v31) fun x47 =>
    bno (bR (⟨v32,v33,v34,v35⟩:aW) x47) fun x48 =>
    bno (gix v34 x48) fun x49 =>
    bno (eD (⟨v32,v33,v34,v35⟩:aW) (⟨x49.ID,a1,x49.Weight,x49.Closed⟩:aH)) fun x50 =>
    bnd (IntKind.wrap .i64 (v31 + 1)) fun x51 =>
    (gF a1 v6 v7 v8 x10 x22 n2) x51 x50.Room x50.Keep x50.L x50.Closed
   ) else (
     bno (eD (⟨v32,v33,v34,v35⟩:aW) (⟨x10.ID,v6,v7,x10.Closed⟩:aH)) fun x52 =>
     some x52
   )
def jK (a1:Int) (v6:Int) (v7:Int) (v8:Bool) (x10:aH) (v17:Int) (v18:Int) (v19:(List aH)) (v20:(List Int)):Option aW :=
 bno (mA (⟨v17,v18,v19,v20⟩:aW) v6) fun x21 =>
 bno (lQ x21 a1) fun x22 =>
 gF a1 v6 v7 v8 x10 x22 fuel 0 v17 v18 v19 v20
def jL (a0:aW) (a1:Int) (v6:Int) (v7:Int) (v8:Bool):Option aW :=
 bno (bR a0 a1) fun x9 =>
 bno (gix a0.L x9) fun x10 =>
 bno (lZ a0 v6) fun x53 =>
 bno (pH x53 a1) fun x54 =>
 bif x54 then (
  bno (bR a0 v6) fun x56 =>
  bno (gix a0.L x56) fun x57 =>
  bno (eD a0 (⟨x57.ID,x10.Parent,x57.Weight,x57.Closed⟩:aH)) fun x58 =>
  jK a1 v6 v7 v8 x10 x58.Room x58.Keep x58.L x58.Closed
 ) else (
   jK a1 v6 v7 v8 x10 a0.Room a0.Keep a0.L a0.Closed
 )
def dY (a0:aW) (a1:Int) (a2:Int) (a3:Int) (a4:Bool):Option aW :=
 bnd (!decide (a2=0)) fun x59 =>
 bno (gd (x59 == true) (bR a0 a2) default) fun x60 =>
 bnd (decide (x60 < 0)) fun x61 =>
 bnd (x59 && x61) fun x62 =>
 bif x62 then (
  jL a0 a1 0 16 false
 ) else (
   jL a0 a1 a2 a3 a4
 )

def gL (a1:Int) (a2:Int) (a3:Int) (a4:Bool) (v15:Int) (v16:Int) (v17:(List aH)) (v18:(List Int)):Nat → Int → Option (aW × Int)
 | 0,_=>none
 | n1 + 1,v25 =>
   bnd (decide (v25 < (v17.length:Int))) fun x32 =>
   bno (gd (x32 == true) (gix v17 v25) default) fun x33 =>
   bnd (decide (x33.ID < a1)) fun x34 =>
   bnd (x32 && x34) fun x35 =>
   bif x35 then (
    bnd (IntKind.wrap .i64 (v25 + 1)) fun x37 =>
    (gL a1 a2 a3 a4 v15 v16 v17 v18 n1) x37
   ) else (
     bno (cut v17 0 v25) fun x38 =>
     bno (app 32 ([]:(List aH)) x38) fun x39 =>
     bno (app 32 x39 (([(⟨a1,(-1),16,false⟩:aH)]:(List aH)))) fun x40 =>
     bno (cut v17 v25 (v17.length:Int)) fun x41 =>
     bno (app 32 x40 x41) fun x42 =>
     bno (dY (⟨v15,v16,x42,v18⟩:aW) a1 a2 a3 a4) fun x43 =>
     some (x43,0)
   )
def dT (a1:Int) (a2:Int) (a3:Int) (a4:Bool) (v15:Int) (v16:Int) (v17:(List aH)) (v18:(List Int)):Option (aW × Int) :=
 gL a1 a2 a3 a4 v15 v16 v17 v18 fuel 0
def dM (a0:aW) (a1:Int) (a2:Int) (a3:Int) (a4:Bool):Option (aW × Int) :=
 bno (mK a1 a2 a3) fun x1 =>
 bnd (!decide (x1=0)) fun x2 =>
 bif x2 then (
  some (a0,x1)
 ) else (
   bno (bR a0 a1) fun x4 =>
   bnd (decide (0 ≤ x4)) fun x5 =>
   bif x5 then (
    some (a0,13)
   ) else (
     bnd (decide (a0.Room ≤ (a0.L.length:Int))) fun x7 =>
     bnd (decide ((a0.Closed.length:Int)=0)) fun x8 =>
     bnd (x7 && x8) fun x9 =>
     bif x9 then (
      some (a0,7)
     ) else (
       bnd (decide (a0.Room ≤ (a0.L.length:Int))) fun x44 =>
       bif x44 then (
        bno (gix a0.Closed 0) fun x46 =>
        bno (dJ a0 x46) fun x47 =>
        dT a1 a2 a3 a4 x47.Room x47.Keep x47.L x47.Closed
       ) else (
         dT a1 a2 a3 a4 a0.Room a0.Keep a0.L a0.Closed
       )
     )
   )
 )

def gA (a0:aW) (a1:Int) (a2:Int) (a3:Int) (a4:Bool):Option (aW × Int) :=
 bno (mK a1 a2 a3) fun x1 =>
 bnd (!decide (x1=0)) fun x2 =>
 bif x2 then (
  some (a0,x1)
 ) else (
   bno (bR a0 a1) fun x4 =>
   bnd (decide (x4 < 0)) fun x5 =>
   bif x5 then (
    bno (dM a0 a1 a2 a3 a4) fun x7 =>
    some (x7.1,x7.2)
   ) else (
     bno (dY a0 a1 a2 a3 a4) fun x8 =>
     some (x8,0)
   )
 )

def iI (a0:aW) (a1:Int):Option (aW × Int) :=
 bno (bR a0 a1) fun x1 =>
 bnd (decide (x1 < 0)) fun x2 =>
 bif x2 then (
  some (a0,6)
 ) else (
   bno (gix a0.L x1) fun x4 =>
   bif x4.Closed then (
    some (a0,9)
   ) else (
     bno (eD a0 (⟨x4.ID,x4.Parent,x4.Weight,true⟩:aH)) fun x6 =>
     bno (app 8 ([]:(List Int)) x6.Closed) fun x7 =>
     bno (app 8 x7 ([a1]:(List Int))) fun x8 =>
     bnd (decide (x6.Keep < (x8.length:Int))) fun x9 =>
     bif x9 then (
      bno (gix x8 0) fun x11 =>
      bno (dJ (⟨x6.Room,x6.Keep,x6.L,x8⟩:aW) x11) fun x12 =>
      some (x12,0)
     ) else (
       some ((⟨x6.Room,x6.Keep,x6.L,x8⟩:aW),0)
     )
   )
 )

def jM (a0:aW) (a1:Int):Option (aW × Int) :=
 bno (bR a0 a1) fun x1 =>
 bnd (decide (x1 < 0)) fun x2 =>
 bif x2 then (
  some (a0,6)
 ) else (
   bno (dJ a0 a1) fun x4 =>
   some (x4,0)
 )

def fQ (a0:(List aH)):Nat → (List aH) → Int → Option (List aH)
 | 0,_,_=>none
 | n0 + 1,v6,v7 =>
   bnd (decide (v7 < (a0.length:Int))) fun x13 =>
   bif x13 then (
    bno (gix a0 v7) fun x15 =>
    bno (app 32 v6 ([x15]:(List aH))) fun x16 =>
    bnd (IntKind.wrap .i64 (v7 + 1)) fun x17 =>
    (fQ a0 n0) x16 x17
   ) else (
     some v6
   )
def lK (a0:(List aH)):Option (List aH) :=
 fQ a0 fuel ([]:(List aH)) 0

def eJ (a0:(List aH)) (a1:(List aH)):Nat → Int → Option Bool
 | 0,_=>none
 | n0 + 1,v10 =>
   bnd (decide (v10 < (a0.length:Int))) fun x18 =>
   bif x18 then (
    bno (gix a0 v10) fun x20 =>
    bno (gix a1 v10) fun x21 =>
    bnd ((decide (x20.ID=x21.ID) && (decide (x20.Parent=x21.Parent) && (decide (x20.Weight=x21.Weight) && ((x20.Closed == x21.Closed) && true))))) fun x22 =>
    bif (!x22) then (
     some false
    ) else (
      bnd (IntKind.wrap .i64 (v10 + 1)) fun x24 =>
      (eJ a0 a1 n0) x24
    )
   ) else (
     some true
   )
def jB (a0:(List aH)) (a1:(List aH)):Option Bool :=
 bnd (!decide ((a0.length:Int)=(a1.length:Int))) fun x1 =>
 bif x1 then (
  some false
 ) else (
   eJ a0 a1 fuel 0
 )

end Go.Fn
open Go Go.IL
namespace Go.Fn



end Go.Fn
open Go Go.IL
namespace Go.Fn
structure aBl where
 Kind:Int
 ID:Int
 Dep:Int
 Weight:Int
 Only:Bool
 deriving DecidableEq,Inhabited
structure aK where
 Live:Bool
 Value:Int
 Link:Int
 deriving DecidableEq,Inhabited
def aZ:Enc aK:=⟨⟨fun x=>.agg [.bool x.Live,.int .i64 x.Value,.int .i64 x.Link],3,by decide,fun _=>⟨rfl,rfl⟩⟩,fun _=>rfl⟩

structure bH where
 Cells:(List aK)
 Free:Int
 Used:Int
 deriving DecidableEq,Inhabited
structure aJ where
 id:Int
 up:Int
 first:Int
 next:Int
 weight:Int
 closed:Bool
 deriving DecidableEq,Inhabited
def aB:Enc aJ:=⟨⟨fun x=>.agg [.int .i64 x.id,.int .i64 x.up,.int .i64 x.first,.int .i64 x.next,.int .i64 x.weight,.bool x.closed],6,by decide,fun _=>⟨rfl,rfl⟩⟩,fun _=>rfl⟩

structure gE where
 dep:Int
 weight:Int
 only:Bool
 deriving DecidableEq,Inhabited
def oH (a0:Int) (a1:Int) (a2:Int):Option Bool :=
 bnd (decide (a1 ≤ a0)) fun x1 =>
 bnd (decide (a0 ≤ a2)) fun x2 =>
 bnd (x1 && x2) fun x3 =>
 some x3

def wO  : Option bH :=
 some (⟨[],(-1),0⟩:bH)

def iM (a0:gE) (a1:Int) (v6:Bool):Option Int :=
 bif v6 then (
  some 8
 ) else (
   bnd (decide (a1=a0.dep)) fun x8 =>
   bif x8 then (
    some 4
   ) else (
     some 0
   )
 )
def kN (a0:gE) (a1:Int):Option Int :=
 bno (oH a1 1 1048576) fun x10 =>
 bif (!x10) then (
  iM a0 a1 (!x10)
 ) else (
   bno (oH a0.dep 0 1048576) fun x12 =>
   bif (!x12) then (
    iM a0 a1 (!x12)
   ) else (
     bno (oH a0.weight 1 256) fun x14 =>
     iM a0 a1 (!x14)
   )
 )

def iV (a0:bH) (a1:Int):Option Bool :=
 bnd (decide ((-1) ≤ a1)) fun x1 =>
 bnd (decide (a1 < (a0.Cells.length:Int))) fun x2 =>
 bnd (x1 && x2) fun x3 =>
 some x3

def kW (a0:bH) (a1:aK):Option Bool :=
 bno (gd ((!a1.Live) == true) (iV a0 a1.Link) default) fun x1 =>
 bnd ((!a1.Live) && (!x1)) fun x2 =>
 some x2

def bN (a0:(List aK)) (a1:bH):Nat → Int → Option Int
 | 0,_=>none
 | n0 + 1,v7 =>
   bnd (decide (v7 < (a0.length:Int))) fun x14 =>
   bif x14 then (
    bno (gix a0 v7) fun x16 =>
    bno (kW a1 x16) fun x17 =>
    bif x17 then (
     some v7
    ) else (
      bnd (IntKind.wrap .i64 (v7 + 1)) fun x19 =>
      (bN a0 a1 n0) x19
    )
   ) else (
     some (-1)
   )
def dQ (a0:(List aK)) (a1:bH):Option Int :=
 bN a0 a1 fuel 0

def dF (a0:(List aK)) (a1:bH):Option Bool :=
 bno (dQ a0 a1) fun x1 =>
 bnd (decide (0 ≤ x1)) fun x2 =>
 some x2

def rE (a0:aK):Option Bool :=
 bif a0.Live then (
  bnd (!decide (a0.Link=0)) fun x2 =>
  some x2
 ) else (
   bnd (!decide (a0.Value=0)) fun x3 =>
   some x3
 )

def bS (a0:(List aK)):Nat → Int → Option Int
 | 0,_=>none
 | n0 + 1,v7 =>
   bnd (decide (v7 < (a0.length:Int))) fun x14 =>
   bif x14 then (
    bno (gix a0 v7) fun x16 =>
    bno (rE x16) fun x17 =>
    bif x17 then (
     some v7
    ) else (
      bnd (IntKind.wrap .i64 (v7 + 1)) fun x19 =>
      (bS a0 n0) x19
    )
   ) else (
     some (-1)
   )
def eI (a0:(List aK)):Option Int :=
 bS a0 fuel 0

def dR (a0:(List aK)):Option Bool :=
 bno (eI a0) fun x1 =>
 bnd (decide (0 ≤ x1)) fun x2 =>
 some x2

def fU (a0:bH):Nat → (List Int) → Int → Option ((List Int) × Bool)
 | 0,_,_=>none
 | n0 + 1,v9,v10 =>
   bnd (decide (v10=(-1))) fun x19 =>
   bif x19 then (
    some (v9,true)
   ) else (
     bno (gix a0.Cells v10) fun x21 =>
     bno (gd (x21.Live == false) (cX v9 v10) default) fun x22 =>
     bnd (x21.Live || x22) fun x23 =>
     bif x23 then (
      some (v9,false)
     ) else (
       bno (app 8 v9 ([v10]:(List Int))) fun x25 =>
       bno (gix a0.Cells v10) fun x26 =>
       (fU a0 n0) x25 x26.Link
     )
   )
def mP (a0:bH):Option ((List Int) × Bool) :=
 fU a0 fuel ([]:(List Int)) a0.Free

def iZ (a0:bH):Nat → Int → Int → Option Int
 | 0,_,_=>none
 | n1 + 1,v17,v18 =>
   bnd (decide (v18 < (a0.Cells.length:Int))) fun x26 =>
   bif x26 then (
    bno (gix a0.Cells v18) fun x28 =>
    bif x28.Live then (
     bnd (IntKind.wrap .i64 (v17 + 1)) fun x30 =>
     bnd (IntKind.wrap .i64 (v18 + 1)) fun x31 =>
     (iZ a0 n1) x30 x31
    ) else (
      bnd (IntKind.wrap .i64 (v18 + 1)) fun x32 =>
      (iZ a0 n1) v17 x32
    )
   ) else (
     bno (mP a0) fun x33 =>
     bnd (!decide (v17=a0.Used)) fun x34 =>
     bnd ((!x33.2) || x34) fun x35 =>
     bnd (IntKind.wrap .i64 (v17 + (x33.1.length:Int))) fun x36 =>
     bnd (!decide (x36=(a0.Cells.length:Int))) fun x37 =>
     bnd (x35 || x37) fun x38 =>
     bif x38 then (
      some 10
     ) else (
       some 0
     )
   )
def mX (a0:bH) (v6:Bool):Option Int :=
 bif v6 then (
  some 8
 ) else (
   bno (dR a0.Cells) fun x8 =>
   bif x8 then (
    some 4
   ) else (
     iZ a0 fuel 0 0
   )
 )
def nF (a0:bH):Option Int :=
 bnd (decide (64 < (a0.Cells.length:Int))) fun x1 =>
 bif x1 then (
  some 5
 ) else (
   bno (iV a0 a0.Free) fun x40 =>
   bif (!x40) then (
    mX a0 (!x40)
   ) else (
     bno (dF a0.Cells a0) fun x42 =>
     mX a0 x42
   )
 )

def jN (a0:bH):Nat → (List Int) → Int → Option (List Int)
 | 0,_,_=>none
 | n0 + 1,v11,v12 =>
   bnd (decide (v12 < (a0.Cells.length:Int))) fun x20 =>
   bif x20 then (
    bno (gix a0.Cells v12) fun x22 =>
    bif x22.Live then (
     bno (app 8 v11 ([v12]:(List Int))) fun x24 =>
     bnd (IntKind.wrap .i64 (v12 + 1)) fun x25 =>
     (jN a0 n0) x24 x25
    ) else (
      bnd (IntKind.wrap .i64 (v12 + 1)) fun x26 =>
      (jN a0 n0) v11 x26
    )
   ) else (
     some v11
   )
def oL (a0:bH):Option (List Int) :=
 bno (nF a0) fun x1 =>
 bnd (!decide (x1=0)) fun x2 =>
 bif x2 then (
  some []
 ) else (
   jN a0 fuel ([]:(List Int)) 0
 )

def fR (a0:Int) (a6:(List aJ)) (x1:(List Int)):Nat → Int → Option Int
 | 0,_=>none
 | n0 + 1,v11 =>
   bnd (decide (v11 < (x1.length:Int))) fun x21 =>
   bif x21 then (
    bno (gix x1 v11) fun x23 =>
    bno (gix a6 x23) fun x24 =>
    chk (a6.length=64)<|bno (a6[(x23:Int).toNat]?) fun x26 =>
    bnd (decide (x26.id=a0)) fun x27 =>
    bif x27 then (
     some x23
    ) else (
      bnd (IntKind.wrap .i64 (v11 + 1)) fun x29 =>
      (fR a0 a6 x1 n0) x29
    )
   ) else (
     some (-1)
   )
def eH (a0:Int) (a1:Int) (a2:Int) (a3:(List aK)) (a4:Int) (a5:Int) (a6:(List aJ)) (a7:Int) (a8:(List Int)):Option Int :=
 bno (oL (⟨a3,a4,a5⟩:bH)) fun x1 =>
 fR a0 a6 x1 fuel 0

def mZ (a0:Int) (a1:Int) (a2:(List aK)) (a3:Int) (a4:Int) (a5:(List aJ)) (a6:Int) (a7:(List Int)):Option Int :=
 some a4

def eW (a0:Int) (a1:Int) (a2:Int) (a3:(List aK)) (a4:Int) (a5:Int) (a6:(List aJ)) (a7:Int) (a8:(List Int)):Nat → Nat → Option (Int × Int × (List aK) × Int × Int × (List aJ) × Int × (List Int))
 | 0,_=>none
 | n0 + 1,v14 =>
   bno (a6[v14]?) fun x20 =>
   bnd (!decide (x20.next=a0)) fun x21 =>
   bif x21 then (
    bno (a6[v14]?) fun x23 =>
    bno (gix a6 x23.next) fun x24 =>
    (eW a0 a1 a2 a3 a4 a5 a6 a7 a8 n0) ((x23.next:Int).toNat)
   ) else (
     bno (gix a6 a0) fun x25 =>
     bno (a6[(a0:Int).toNat]?) fun x26 =>
     bno (a6[v14]?) fun x27 =>
     bnd (a6.set v14 (⟨x27.id,x27.up,x27.first,x26.next,x27.weight,x27.closed⟩:aJ)) fun x28 =>
     some (a1,a2,a3,a4,a5,x28,a7,a8)
   )
def eV (a0:Int) (a1:Int) (a2:Int) (a3:(List aK)) (a4:Int) (a5:Int) (a6:(List aJ)) (a7:Int) (a8:(List Int)):Nat → Nat → Option (Int × Int × (List aK) × Int × Int × (List aJ) × Int × (List Int))
 | 0,_=>none
 | n1 + 1,v42 =>
   bno (a6[v42]?) fun x48 =>
   bnd (!decide (x48.next=a0)) fun x49 =>
   bif x49 then (
    bno (a6[v42]?) fun x51 =>
    bno (gix a6 x51.next) fun x52 =>
    (eV a0 a1 a2 a3 a4 a5 a6 a7 a8 n1) ((x51.next:Int).toNat)
   ) else (
     bno (gix a6 a0) fun x53 =>
     bno (a6[(a0:Int).toNat]?) fun x54 =>
     bno (a6[v42]?) fun x55 =>
     bnd (a6.set v42 (⟨x55.id,x55.up,x55.first,x54.next,x55.weight,x55.closed⟩:aJ)) fun x56 =>
     some (a1,a2,a3,a4,a5,x56,a7,a8)
   )
def gV (a0:Int) (a1:Int) (a2:Int) (a3:(List aK)) (a4:Int) (a5:Int) (a6:(List aJ)) (a7:Int) (a8:(List Int)):Option (Int × Int × (List aK) × Int × Int × (List aJ) × Int × (List Int)) :=
 bno (gix a6 a0) fun x1 =>
 chk (a6.length=64)<|bno (a6[(a0:Int).toNat]?) fun x3 =>
 bnd (decide (x3.up=(-1))) fun x4 =>
 bif x4 then (
  bnd (!decide (a7=a0)) fun x6 =>
  bif x6 then (
   bno (gix a6 a7) fun x8 =>
   eW a0 a1 a2 a3 a4 a5 a6 a7 a8 fuel ((a7:Int).toNat)
  ) else (
    bno (gix a6 a0) fun x29 =>
    bno (a6[(a0:Int).toNat]?) fun x30 =>
    some (a1,a2,a3,a4,a5,a6,x30.next,a8)
  )
 ) else (
   bno (gix a6 x3.up) fun x31 =>
   bno (a6[(x3.up:Int).toNat]?) fun x32 =>
   bnd (!decide (x32.first=a0)) fun x33 =>
   bif x33 then (
    bno (a6[(x3.up:Int).toNat]?) fun x35 =>
    bno (gix a6 x35.first) fun x36 =>
    eV a0 a1 a2 a3 a4 a5 a6 a7 a8 fuel ((x35.first:Int).toNat)
   ) else (
     bno (gix a6 a0) fun x57 =>
     bno (a6[(a0:Int).toNat]?) fun x58 =>
     bno (a6[(x3.up:Int).toNat]?) fun x59 =>
     bnd (a6.set ((x3.up:Int).toNat) (⟨x59.id,x59.up,x58.next,x59.next,x59.weight,x59.closed⟩:aJ)) fun x60 =>
     some (a1,a2,a3,a4,a5,x60,a7,a8)
   )
 )

def gI (a0:Int) (a1:Int) (a2:Int) (a3:Int) (a4:(List aK)) (a5:Int) (a6:Int) (a7:(List aJ)) (a8:Int) (a9:(List Int)):Option (Int × Int × (List aK) × Int × Int × (List aJ) × Int × (List Int)) :=
 bnd (decide (a1=(-1))) fun x1 =>
 bif x1 then (
  chk (a7.length=64)<|bno (gix a7 a0) fun x4 =>
  bno (a7[(a0:Int).toNat]?) fun x5 =>
  bnd (a7.set ((a0:Int).toNat) (⟨x5.id,a1,x5.first,x5.next,x5.weight,x5.closed⟩:aJ)) fun x6 =>
  bno (gix x6 a0) fun x7 =>
  bno (x6[(a0:Int).toNat]?) fun x8 =>
  bnd (x6.set ((a0:Int).toNat) (⟨x8.id,x8.up,x8.first,a8,x8.weight,x8.closed⟩:aJ)) fun x9 =>
  some (a2,a3,a4,a5,a6,x9,a0,a9)
 ) else (
   bno (gix a7 a1) fun x10 =>
   chk (a7.length=64)<|bno (a7[(a1:Int).toNat]?) fun x12 =>
   bno (gix a7 a0) fun x13 =>
   bno (a7[(a0:Int).toNat]?) fun x14 =>
   bnd (a7.set ((a0:Int).toNat) (⟨x14.id,a1,x14.first,x14.next,x14.weight,x14.closed⟩:aJ)) fun x15 =>
   bno (gix x15 a0) fun x16 =>
   bno (x15[(a0:Int).toNat]?) fun x17 =>
   bnd (x15.set ((a0:Int).toNat) (⟨x17.id,x17.up,x17.first,x12.first,x17.weight,x17.closed⟩:aJ)) fun x18 =>
   bno (x18[(a1:Int).toNat]?) fun x19 =>
   bnd (x18.set ((a1:Int).toNat) (⟨x19.id,x19.up,a0,x19.next,x19.weight,x19.closed⟩:aJ)) fun x20 =>
   some (a2,a3,a4,a5,a6,x20,a8,a9)
 )

def eN (a0:Int) (a1:Int) (a2:Int) (a3:Int) (a4:(List aK)) (a5:Int) (a6:Int) (a7:(List aJ)) (a8:Int) (a9:(List Int)):Option (Int × Int × (List aK) × Int × Int × (List aJ) × Int × (List Int)) :=
 bno (gV a0 a2 a3 a4 a5 a6 a7 a8 a9) fun x1 =>
 bno (gI a0 a1 x1.1 x1.2.1 x1.2.2.1 x1.2.2.2.1 x1.2.2.2.2.1 x1.2.2.2.2.2.1 x1.2.2.2.2.2.2.1 x1.2.2.2.2.2.2.2) fun x2 =>
 some (x2.1,x2.2.1,x2.2.2.1,x2.2.2.2.1,x2.2.2.2.2.1,x2.2.2.2.2.2.1,x2.2.2.2.2.2.2.1,x2.2.2.2.2.2.2.2)

def eC (a0:(List aK)):Option (List aK) :=
 zD a0 (
  some ([]:(List aK))
 ) (
   bno (app 24 ([]:(List aK)) a0) fun x3 =>
   some x3
 )

def jT (a0:bH):Option ((List aK) × Int × Int) :=
 bno (eC a0.Cells) fun x1 =>
 some (x1,a0.Free,a0.Used)

def lW (a0:bH) (a1:Int):Option Bool :=
 bnd (decide (0 ≤ a1)) fun x1 =>
 bnd (decide (a1 < (a0.Cells.length:Int))) fun x2 =>
 bnd (x1 && x2) fun x3 =>
 bno (gd (x3 == true) (gix a0.Cells a1) default) fun x4 =>
 bnd (x3 && x4.Live) fun x5 =>
 some x5

def nW (a0:bH) (a1:Int):Option (bH × Int) :=
 bno (jT a0) fun x1 =>
 bno (nF a0) fun x2 =>
 bnd (!decide (x2=0)) fun x3 =>
 bif x3 then (
  some ((⟨x1.1,x1.2.1,x1.2.2⟩:bH),x2)
 ) else (
   bno (lW a0 a1) fun x5 =>
   bif (!x5) then (
    some ((⟨x1.1,x1.2.1,x1.2.2⟩:bH),6)
   ) else (
     bno (gix x1.1 a1) fun x7 =>
     bno (x1.1[(a1:Int).toNat]?) fun x8 =>
     bnd (x1.1.set ((a1:Int).toNat) (⟨false,0,x1.2.1⟩:aK)) fun x9 =>
     bnd (IntKind.wrap .i64 (x1.2.2 - 1)) fun x10 =>
     some ((⟨x9,a1,x10⟩:bH),0)
   )
 )

def lS (a0:Int) (a1:Int):Option Bool :=
 bnd (decide (a0=a1)) fun x1 =>
 some x1

def dG (a0:(List Int)) (a1:Int):Nat → Int → Option Int
 | 0,_=>none
 | n0 + 1,v7 =>
   bnd (decide (v7 < (a0.length:Int))) fun x14 =>
   bif x14 then (
    bno (gix a0 v7) fun x16 =>
    bno (lS x16 a1) fun x17 =>
    bif x17 then (
     some v7
    ) else (
      bnd (IntKind.wrap .i64 (v7 + 1)) fun x19 =>
      (dG a0 a1 n0) x19
    )
   ) else (
     some (-1)
   )
def iG (a0:(List Int)) (a1:Int):Option Int :=
 dG a0 a1 fuel 0

def cL (a1:Int):Nat → (List Int) → Int → Int → Option (List Int)
 | 0,_,_,_=>none
 | n0 + 1,v17,v18,v19 =>
   bnd (decide (v19 < (v17.length:Int))) fun x32 =>
   bif x32 then (
    bno (gix v17 v19) fun x34 =>
    bno (v17[(v19:Int).toNat]?) fun x35 =>
    bno (lS x35 a1) fun x36 =>
    bif (!x36) then (
     bno (gix v17 v18) fun x38 =>
     bno (v17[(v18:Int).toNat]?) fun x39 =>
     bnd (v17.set ((v18:Int).toNat) x35) fun x40 =>
     bnd (IntKind.wrap .i64 (v18 + 1)) fun x41 =>
     bnd (IntKind.wrap .i64 (v19 + 1)) fun x42 =>
     (cL a1 n0) x40 x41 x42
    ) else (
      bnd (IntKind.wrap .i64 (v19 + 1)) fun x43 =>
      (cL a1 n0) v17 v18 x43
    )
   ) else (
     bno (cut v17 0 v18) fun x44 =>
     bno (cut x44 0 v18) fun x45 =>
     some x45
   )
def dH (a0:(List Int)) (a1:Int):Option (List Int) :=
 bno (iG a0 a1) fun x1 =>
 bnd (decide (x1=(-1))) fun x2 =>
 bif x2 then (
  some a0
 ) else (
   bnd (IntKind.wrap .i64 (x1 + 1)) fun x4 =>
   cL a1 fuel a0 x1 x4
 )

def jW (a0:Int) (v53:Int) (v63:(List Int)):Nat → Int → Int → Int → (List aK) → Int → Int → (List aJ) → Int → (List Int) → Option (Int × Int × (List aK) × Int × Int × (List aJ) × Int × (List Int))
 | 0,_,_,_,_,_,_,_,_,_=>none
 | n4 + 1,v92,v93,v94,v95,v96,v97,v98,v99,v100 =>
   bnd (decide (v92 < (v63.length:Int))) fun x120 =>
   bif x120 then (
    bno (gix v63 v92) fun x122 =>
    bno (v63[(v92:Int).toNat]?) fun x123 =>
    bno (gix v98 a0) fun x124 =>
    chk (v98.length=64)<|bno (v98[(a0:Int).toNat]?) fun x126 =>
    bno (gix v98 x123) fun x127 =>
    bno (v98[(x123:Int).toNat]?) fun x128 =>
    bnd (IntKind.wrap .i64 (x126.weight * x128.weight)) fun x129 =>
    bno (quoI .i64 x129 v53) fun x130 =>
    bnd (max x130 1) fun x131 =>
    bno (gix v98 x123) fun x132 =>
    bno (v98[(x123:Int).toNat]?) fun x133 =>
    bnd (v98.set ((x123:Int).toNat) (⟨x133.id,x133.up,x133.first,x133.next,x131,x133.closed⟩:aJ)) fun x134 =>
    bno (gix x134 a0) fun x135 =>
    bno (x134[(a0:Int).toNat]?) fun x136 =>
    bno (eN x123 x136.up v93 v94 v95 v96 v97 x134 v99 v100) fun x137 =>
    bnd (IntKind.wrap .i64 (v92 + 1)) fun x138 =>
    (jW a0 v53 v63 n4) x138 x137.1 x137.2.1 x137.2.2.1 x137.2.2.2.1 x137.2.2.2.2.1 x137.2.2.2.2.2.1 x137.2.2.2.2.2.2.1 x137.2.2.2.2.2.2.2
   ) else (
     bno (gV a0 v93 v94 v95 v96 v97 v98 v99 v100) fun x139 =>
     bno (nW (⟨x139.2.2.1,x139.2.2.2.1,x139.2.2.2.2.1⟩:bH) a0) fun x140 =>
     chk (x139.2.2.2.2.2.1.length=64)<|bno (dH x139.2.2.2.2.2.2.2 a0) fun x142 =>
     some (x139.1,x139.2.1,x140.1.Cells,x140.1.Free,x140.1.Used,x139.2.2.2.2.2.1,x139.2.2.2.2.2.2.1,x142)
   )
def jX (a0:Int) (a1:Int) (a2:Int) (a3:(List aK)) (a4:Int) (a5:Int) (a6:(List aJ)) (a7:Int) (a8:(List Int)) (v53:Int):Nat → Int → (List Int) → Option (Int × Int × (List aK) × Int × Int × (List aJ) × Int × (List Int))
 | 0,_,_=>none
 | n3 + 1,v62,v63 =>
   bnd (!decide (v62=(-1))) fun x69 =>
   bif x69 then (
    bno (gix a6 v62) fun x71 =>
    bno (a6[(v62:Int).toNat]?) fun x72 =>
    bno (app 8 v63 ([v62]:(List Int))) fun x73 =>
    (jX a0 a1 a2 a3 a4 a5 a6 a7 a8 v53 n3) x72.next x73
   ) else (
     jW a0 v53 v63 fuel 0 a1 a2 a3 a4 a5 a6 a7 a8
   )
def cY (a0:Int) (v53:Int) (v152:(List Int)):Nat → Int → Int → Int → (List aK) → Int → Int → (List aJ) → Int → (List Int) → Option (Int × Int × (List aK) × Int × Int × (List aJ) × Int × (List Int))
 | 0,_,_,_,_,_,_,_,_,_=>none
 | n6 + 1,v181,v182,v183,v184,v185,v186,v187,v188,v189 =>
   bnd (decide (v181 < (v152.length:Int))) fun x209 =>
   bif x209 then (
    bno (gix v152 v181) fun x211 =>
    bno (v152[(v181:Int).toNat]?) fun x212 =>
    bno (gix v187 a0) fun x213 =>
    chk (v187.length=64)<|bno (v187[(a0:Int).toNat]?) fun x215 =>
    bno (gix v187 x212) fun x216 =>
    bno (v187[(x212:Int).toNat]?) fun x217 =>
    bnd (IntKind.wrap .i64 (x215.weight * x217.weight)) fun x218 =>
    bno (quoI .i64 x218 v53) fun x219 =>
    bnd (max x219 1) fun x220 =>
    bno (gix v187 x212) fun x221 =>
    bno (v187[(x212:Int).toNat]?) fun x222 =>
    bnd (v187.set ((x212:Int).toNat) (⟨x222.id,x222.up,x222.first,x222.next,x220,x222.closed⟩:aJ)) fun x223 =>
    bno (gix x223 a0) fun x224 =>
    bno (x223[(a0:Int).toNat]?) fun x225 =>
    bno (eN x212 x225.up v182 v183 v184 v185 v186 x223 v188 v189) fun x226 =>
    bnd (IntKind.wrap .i64 (v181 + 1)) fun x227 =>
    (cY a0 v53 v152 n6) x227 x226.1 x226.2.1 x226.2.2.1 x226.2.2.2.1 x226.2.2.2.2.1 x226.2.2.2.2.2.1 x226.2.2.2.2.2.2.1 x226.2.2.2.2.2.2.2
   ) else (
     bno (gV a0 v182 v183 v184 v185 v186 v187 v188 v189) fun x228 =>
     bno (nW (⟨x228.2.2.1,x228.2.2.2.1,x228.2.2.2.2.1⟩:bH) a0) fun x229 =>
     chk (x228.2.2.2.2.2.1.length=64)<|bno (dH x228.2.2.2.2.2.2.2 a0) fun x231 =>
     some (x228.1,x228.2.1,x229.1.Cells,x229.1.Free,x229.1.Used,x228.2.2.2.2.2.1,x228.2.2.2.2.2.2.1,x231)
   )
def gC (a0:Int) (a1:Int) (a2:Int) (a3:(List aK)) (a4:Int) (a5:Int) (a6:(List aJ)) (a7:Int) (a8:(List Int)) (v53:Int):Nat → Int → (List Int) → Option (Int × Int × (List aK) × Int × Int × (List aJ) × Int × (List Int))
 | 0,_,_=>none
 | n5 + 1,v151,v152 =>
   bnd (!decide (v151=(-1))) fun x158 =>
   bif x158 then (
    bno (gix a6 v151) fun x160 =>
    bno (a6[(v151:Int).toNat]?) fun x161 =>
    bno (app 8 v152 ([v151]:(List Int))) fun x162 =>
    (gC a0 a1 a2 a3 a4 a5 a6 a7 a8 v53 n5) x161.next x162
   ) else (
     cY a0 v53 v152 fuel 0 a1 a2 a3 a4 a5 a6 a7 a8
   )
def iN (a0:Int) (a1:Int) (a2:Int) (a3:(List aK)) (a4:Int) (a5:Int) (a6:(List aJ)) (a7:Int) (a8:(List Int)) (v53:Int):Option (Int × Int × (List aK) × Int × Int × (List aJ) × Int × (List Int)) :=
 bnd (decide (a0=(-1))) fun x54 =>
 bif x54 then (
  chk (a6.length=64)<|jX a0 a1 a2 a3 a4 a5 a6 a7 a8 v53 fuel a7 ([]:(List Int))
 ) else (
   bno (gix a6 a0) fun x143 =>
   chk (a6.length=64)<|bno (a6[(a0:Int).toNat]?) fun x145 =>
   gC a0 a1 a2 a3 a4 a5 a6 a7 a8 v53 fuel x145.first ([]:(List Int))
 )
def jV (a0:Int) (a1:Int) (a2:Int) (a3:(List aK)) (a4:Int) (a5:Int) (a6:(List aJ)) (a7:Int) (a8:(List Int)):Nat → Int → Int → Option (Int × Int × (List aK) × Int × Int × (List aJ) × Int × (List Int))
 | 0,_,_=>none
 | n7 + 1,v242,v243 =>
   bnd (!decide (v242=(-1))) fun x251 =>
   bif x251 then (
    bno (gix a6 v242) fun x253 =>
    bno (a6[(v242:Int).toNat]?) fun x254 =>
    bno (gix a6 v242) fun x255 =>
    bno (a6[(v242:Int).toNat]?) fun x256 =>
    bnd (IntKind.wrap .i64 (v243 + x256.weight)) fun x257 =>
    (jV a0 a1 a2 a3 a4 a5 a6 a7 a8 n7) x254.next x257
   ) else (
     iN a0 a1 a2 a3 a4 a5 a6 a7 a8 v243
   )
def gB (a0:Int) (a1:Int) (a2:Int) (a3:(List aK)) (a4:Int) (a5:Int) (a6:(List aJ)) (a7:Int) (a8:(List Int)):Nat → Int → Int → Option (Int × Int × (List aK) × Int × Int × (List aJ) × Int × (List Int))
 | 0,_,_=>none
 | n8 + 1,v268,v269 =>
   bnd (!decide (v268=(-1))) fun x277 =>
   bif x277 then (
    bno (gix a6 v268) fun x279 =>
    bno (a6[(v268:Int).toNat]?) fun x280 =>
    bno (gix a6 v268) fun x281 =>
    bno (a6[(v268:Int).toNat]?) fun x282 =>
    bnd (IntKind.wrap .i64 (v269 + x282.weight)) fun x283 =>
    (gB a0 a1 a2 a3 a4 a5 a6 a7 a8 n8) x280.next x283
   ) else (
     iN a0 a1 a2 a3 a4 a5 a6 a7 a8 v269
   )
def fM (a0:Int) (a1:Int) (a2:Int) (a3:(List aK)) (a4:Int) (a5:Int) (a6:(List aJ)) (a7:Int) (a8:(List Int)):Option (Int × Int × (List aK) × Int × Int × (List aJ) × Int × (List Int)) :=
 bnd (decide (a0=(-1))) fun x232 =>
 bif x232 then (
  chk (a6.length=64)<|jV a0 a1 a2 a3 a4 a5 a6 a7 a8 fuel a7 0
 ) else (
   bno (gix a6 a0) fun x258 =>
   chk (a6.length=64)<|bno (a6[(a0:Int).toNat]?) fun x260 =>
   gB a0 a1 a2 a3 a4 a5 a6 a7 a8 fuel x260.first 0
 )

def nV (a0:bH) (a1:Int):Option (bH × Int × Int) :=
 bno (jT a0) fun x1 =>
 bno (nF a0) fun x2 =>
 bnd (!decide (x2=0)) fun x3 =>
 bif x3 then (
  some ((⟨x1.1,x1.2.1,x1.2.2⟩:bH),0,x2)
 ) else (
   bnd (decide (64 ≤ a0.Used)) fun x5 =>
   bif x5 then (
    some ((⟨x1.1,x1.2.1,x1.2.2⟩:bH),0,7)
   ) else (
     bnd (IntKind.wrap .i64 (x1.2.2 + 1)) fun x7 =>
     bnd (decide (x1.2.1=(-1))) fun x8 =>
     bif x8 then (
      bno (app 24 x1.1 (([(⟨true,a1,0⟩:aK)]:(List aK)))) fun x10 =>
      some (((⟨x10,x1.2.1,x7⟩:bH),(a0.Cells.length:Int),0))
     ) else (
       bno (gix x1.1 x1.2.1) fun x11 =>
       bno (x1.1[(x1.2.1:Int).toNat]?) fun x12 =>
       bno (gix x1.1 x1.2.1) fun x13 =>
       bno (x1.1[(x1.2.1:Int).toNat]?) fun x14 =>
       bnd (x1.1.set ((x1.2.1:Int).toNat) (⟨true,a1,0⟩:aK)) fun x15 =>
       some ((⟨x15,x12.Link,x7⟩:bH),x1.2.1,0)
     )
   )
 )

def eR (a1:Int) (a7:(List aJ)):Nat → Int → Option Bool
 | 0,_=>none
 | n0 + 1,v8 =>
   bnd (!decide (v8=(-1))) fun x16 =>
   bif x16 then (
    bno (gix a7 v8) fun x18 =>
    chk (a7.length=64)<|bno (a7[(v8:Int).toNat]?) fun x20 =>
    bnd (decide (x20.up=a1)) fun x21 =>
    bif x21 then (
     some true
    ) else (
      (eR a1 a7 n0) x20.up
    )
   ) else (
     some false
   )
def kQ (a0:Int) (a1:Int) (a2:Int) (a3:Int) (a4:(List aK)) (a5:Int) (a6:Int) (a7:(List aJ)) (a8:Int) (a9:(List Int)):Option Bool :=
 eR a1 a7 fuel a0

def eG (a0:Int) (v39:(List Int)):Nat → Int → Int → Int → (List aK) → Int → Int → (List aJ) → Int → (List Int) → Option (Int × Int × (List aK) × Int × Int × (List aJ) × Int × (List Int))
 | 0,_,_,_,_,_,_,_,_,_=>none
 | n3 + 1,v59,v60,v61,v62,v63,v64,v65,v66,v67 =>
   bnd (decide (v59 < (v39.length:Int))) fun x77 =>
   bif x77 then (
    bno (gix v39 v59) fun x79 =>
    bno (v39[(v59:Int).toNat]?) fun x80 =>
    bnd (!decide (x80=a0)) fun x81 =>
    bif x81 then (
     bno (eN x80 a0 v60 v61 v62 v63 v64 v65 v66 v67) fun x83 =>
     bnd (IntKind.wrap .i64 (v59 + 1)) fun x84 =>
     (eG a0 v39 n3) x84 x83.1 x83.2.1 x83.2.2.1 x83.2.2.2.1 x83.2.2.2.2.1 x83.2.2.2.2.2.1 x83.2.2.2.2.2.2.1 x83.2.2.2.2.2.2.2
    ) else (
      bnd (IntKind.wrap .i64 (v59 + 1)) fun x85 =>
      (eG a0 v39 n3) x85 v60 v61 v62 v63 v64 v65 v66 v67
    )
   ) else (
     some (v60,v61,v62,v63,v64,v65,v66,v67)
   )
def fH (a0:Int) (x25:(Int × Int × (List aK) × Int × Int × (List aJ) × Int × (List Int))) (x29:(List aJ)):Nat → Int → (List Int) → Option (Int × Int × (List aK) × Int × Int × (List aJ) × Int × (List Int))
 | 0,_,_=>none
 | n2 + 1,v38,v39 =>
   bnd (!decide (v38=(-1))) fun x45 =>
   bif x45 then (
    bno (gix x29 v38) fun x47 =>
    bno (x29[(v38:Int).toNat]?) fun x48 =>
    bno (app 8 v39 ([v38]:(List Int))) fun x49 =>
    (fH a0 x25 x29 n2) x48.next x49
   ) else (
     eG a0 v39 fuel 0 x25.1 x25.2.1 x25.2.2.1 x25.2.2.2.1 x25.2.2.2.2.1 x29 x25.2.2.2.2.2.2.1 x25.2.2.2.2.2.2.2
   )
def eF (a0:Int) (v94:(List Int)):Nat → Int → Int → Int → (List aK) → Int → Int → (List aJ) → Int → (List Int) → Option (Int × Int × (List aK) × Int × Int × (List aJ) × Int × (List Int))
 | 0,_,_,_,_,_,_,_,_,_=>none
 | n5 + 1,v114,v115,v116,v117,v118,v119,v120,v121,v122 =>
   bnd (decide (v114 < (v94.length:Int))) fun x132 =>
   bif x132 then (
    bno (gix v94 v114) fun x134 =>
    bno (v94[(v114:Int).toNat]?) fun x135 =>
    bnd (!decide (x135=a0)) fun x136 =>
    bif x136 then (
     bno (eN x135 a0 v115 v116 v117 v118 v119 v120 v121 v122) fun x138 =>
     bnd (IntKind.wrap .i64 (v114 + 1)) fun x139 =>
     (eF a0 v94 n5) x139 x138.1 x138.2.1 x138.2.2.1 x138.2.2.2.1 x138.2.2.2.2.1 x138.2.2.2.2.2.1 x138.2.2.2.2.2.2.1 x138.2.2.2.2.2.2.2
    ) else (
      bnd (IntKind.wrap .i64 (v114 + 1)) fun x140 =>
      (eF a0 v94 n5) x140 v115 v116 v117 v118 v119 v120 v121 v122
    )
   ) else (
     some (v115,v116,v117,v118,v119,v120,v121,v122)
   )
def fG (a0:Int) (x25:(Int × Int × (List aK) × Int × Int × (List aJ) × Int × (List Int))) (x29:(List aJ)):Nat → Int → (List Int) → Option (Int × Int × (List aK) × Int × Int × (List aJ) × Int × (List Int))
 | 0,_,_=>none
 | n4 + 1,v93,v94 =>
   bnd (!decide (v93=(-1))) fun x100 =>
   bif x100 then (
    bno (gix x29 v93) fun x102 =>
    bno (x29[(v93:Int).toNat]?) fun x103 =>
    bno (app 8 v94 ([v93]:(List Int))) fun x104 =>
    (fG a0 x25 x29 n4) x103.next x104
   ) else (
     eF a0 v94 fuel 0 x25.1 x25.2.1 x25.2.2.1 x25.2.2.2.1 x25.2.2.2.2.1 x29 x25.2.2.2.2.2.2.1 x25.2.2.2.2.2.2.2
   )
def gX (a0:Int) (x1:Int) (v7:Int) (v8:Bool) (v17:Int) (v18:Int) (v19:(List aK)) (v20:Int) (v21:Int) (v22:(List aJ)) (v23:Int) (v24:(List Int)):Option (Int × Int × (List aK) × Int × Int × (List aJ) × Int × (List Int)) :=
 bno (eN a0 x1 v17 v18 v19 v20 v21 v22 v23 v24) fun x25 =>
 bno (gix x25.2.2.2.2.2.1 a0) fun x26 =>
 chk (x25.2.2.2.2.2.1.length=64)<|bno (x25.2.2.2.2.2.1[(a0:Int).toNat]?) fun x28 =>
 bnd (x25.2.2.2.2.2.1.set ((a0:Int).toNat) (⟨x28.id,x28.up,x28.first,x28.next,v7,x28.closed⟩:aJ)) fun x29 =>
 bif (!v8) then (
  some (x25.1,x25.2.1,x25.2.2.1,x25.2.2.2.1,x25.2.2.2.2.1,x29,x25.2.2.2.2.2.2.1,x25.2.2.2.2.2.2.2)
 ) else (
   bnd (decide (x1=(-1))) fun x31 =>
   bif x31 then (
    fH a0 x25 x29 fuel x25.2.2.2.2.2.2.1 ([]:(List Int))
   ) else (
     bno (gix x29 x1) fun x86 =>
     bno (x29[(x1:Int).toNat]?) fun x87 =>
     fG a0 x25 x29 fuel x87.first ([]:(List Int))
   )
 )
def gY (a0:Int) (a2:Int) (a3:Int) (a4:(List aK)) (a5:Int) (a6:Int) (a7:(List aJ)) (a8:Int) (a9:(List Int)) (x1:Int) (v6:Int) (v7:Int) (v8:Bool):Option (Int × Int × (List aK) × Int × Int × (List aJ) × Int × (List Int)) :=
 bnd (!decide (x1=(-1))) fun x141 =>
 bno (gd (x141 == true) (kQ x1 a0 a2 a3 a4 a5 a6 a7 a8 a9) default) fun x142 =>
 bnd (x141 && x142) fun x143 =>
 bif x143 then (
  bno (gix a7 a0) fun x145 =>
  chk (a7.length=64)<|bno (a7[(a0:Int).toNat]?) fun x147 =>
  bno (eN x1 x147.up a2 a3 a4 a5 a6 a7 a8 a9) fun x148 =>
  gX a0 x1 v7 v8 x148.1 x148.2.1 x148.2.2.1 x148.2.2.2.1 x148.2.2.2.2.1 x148.2.2.2.2.2.1 x148.2.2.2.2.2.2.1 x148.2.2.2.2.2.2.2
 ) else (
   gX a0 x1 v7 v8 a2 a3 a4 a5 a6 a7 a8 a9
 )
def gQ (a0:Int) (a1:gE) (a2:Int) (a3:Int) (a4:(List aK)) (a5:Int) (a6:Int) (a7:(List aJ)) (a8:Int) (a9:(List Int)):Option (Int × Int × (List aK) × Int × Int × (List aJ) × Int × (List Int)) :=
 bno (eH a1.dep a2 a3 a4 a5 a6 a7 a8 a9) fun x1 =>
 bnd (decide (x1=(-1))) fun x149 =>
 bnd (!decide (a1.dep=0)) fun x150 =>
 bnd (x149 && x150) fun x151 =>
 bif x151 then (
  gY a0 a2 a3 a4 a5 a6 a7 a8 a9 x1 0 16 false
 ) else (
   gY a0 a2 a3 a4 a5 a6 a7 a8 a9 x1 a1.dep a1.weight a1.only
 )

def fV (a0:Int) (a1:gE) (v10:Int) (v11:Int) (v12:(List aK)) (v13:Int) (v14:Int) (v15:(List aJ)) (v16:Int) (v17:(List Int)):Option (Int × Int × Int × (List aK) × Int × Int × (List aJ) × Int × (List Int)) :=
 bno (nV (⟨v12,v13,v14⟩:bH) a0) fun x18 =>
 bnd (!decide (x18.2.2=0)) fun x19 =>
 bif x19 then (
  some (x18.2.2,v10,v11,v12,v13,v14,v15,v16,v17)
 ) else (
   bno (gix v15 x18.2.1) fun x21 =>
   chk (v15.length=64)<|bno (v15[(x18.2.1:Int).toNat]?) fun x23 =>
   bnd (v15.set ((x18.2.1:Int).toNat) (⟨a0,0,(-1),(-1),16,false⟩:aJ)) fun x24 =>
   bno (gI x18.2.1 (-1) v10 v11 x18.1.Cells x18.1.Free x18.1.Used x24 v16 v17) fun x25 =>
   bno (gQ x18.2.1 a1 x25.1 x25.2.1 x25.2.2.1 x25.2.2.2.1 x25.2.2.2.2.1 x25.2.2.2.2.2.1 x25.2.2.2.2.2.2.1 x25.2.2.2.2.2.2.2) fun x26 =>
   some (0,x26.1,x26.2.1,x26.2.2.1,x26.2.2.2.1,x26.2.2.2.2.1,x26.2.2.2.2.2.1,x26.2.2.2.2.2.2.1,x26.2.2.2.2.2.2.2)
 )
def iO (a0:Int) (a1:gE) (a2:Int) (a3:Int) (a4:(List aK)) (a5:Int) (a6:Int) (a7:(List aJ)) (a8:Int) (a9:(List Int)):Option (Int × Int × Int × (List aK) × Int × Int × (List aJ) × Int × (List Int)) :=
 bno (mZ a2 a3 a4 a5 a6 a7 a8 a9) fun x27 =>
 bnd (decide (a2 ≤ x27)) fun x28 =>
 bif x28 then (
  chk (a7.length=64)<|bnd (decide ((a9.length:Int)=0)) fun x31 =>
  bif x31 then (
   some (7,a2,a3,a4,a5,a6,a7,a8,a9)
  ) else (
    bno (gix a9 0) fun x33 =>
    bno (a9[(0:Int).toNat]?) fun x34 =>
    bno (fM x34 a2 a3 a4 a5 a6 a7 a8 a9) fun x35 =>
    fV a0 a1 x35.1 x35.2.1 x35.2.2.1 x35.2.2.2.1 x35.2.2.2.2.1 x35.2.2.2.2.2.1 x35.2.2.2.2.2.2.1 x35.2.2.2.2.2.2.2
  )
 ) else (
   fV a0 a1 a2 a3 a4 a5 a6 a7 a8 a9
 )

def kB (a0:Int) (a1:Int) (a2:Int) (a3:Bool) (a4:Int) (a5:Int) (a6:(List aK)) (a7:Int) (a8:Int) (a9:(List aJ)) (a10:Int) (a11:(List Int)):Option (Int × Int × Int × (List aK) × Int × Int × (List aJ) × Int × (List Int)) :=
 bno (kN (⟨a1,a2,a3⟩:gE) a0) fun x1 =>
 bnd (!decide (x1=0)) fun x2 =>
 bif x2 then (
  some (x1,a4,a5,a6,a7,a8,a9,a10,a11)
 ) else (
   bno (eH a0 a4 a5 a6 a7 a8 a9 a10 a11) fun x4 =>
   bnd (!decide (x4=(-1))) fun x5 =>
   bif x5 then (
    some (13,a4,a5,a6,a7,a8,a9,a10,a11)
   ) else (
     bno (iO a0 (⟨a1,a2,a3⟩:gE) a4 a5 a6 a7 a8 a9 a10 a11) fun x7 =>
     some (x7.1,x7.2.1,x7.2.2.1,x7.2.2.2.1,x7.2.2.2.2.1,x7.2.2.2.2.2.1,x7.2.2.2.2.2.2.1,x7.2.2.2.2.2.2.2.1,x7.2.2.2.2.2.2.2.2)
   )
 )

def lL (a0:Int) (a1:Int) (a2:Int) (a3:Bool) (a4:Int) (a5:Int) (a6:(List aK)) (a7:Int) (a8:Int) (a9:(List aJ)) (a10:Int) (a11:(List Int)):Option (Int × Int × Int × (List aK) × Int × Int × (List aJ) × Int × (List Int)) :=
 bno (kN (⟨a1,a2,a3⟩:gE) a0) fun x1 =>
 bnd (!decide (x1=0)) fun x2 =>
 bif x2 then (
  some (x1,a4,a5,a6,a7,a8,a9,a10,a11)
 ) else (
   bno (eH a0 a4 a5 a6 a7 a8 a9 a10 a11) fun x4 =>
   bnd (decide (x4=(-1))) fun x5 =>
   bif x5 then (
    bno (iO a0 (⟨a1,a2,a3⟩:gE) a4 a5 a6 a7 a8 a9 a10 a11) fun x7 =>
    some (x7.1,x7.2.1,x7.2.2.1,x7.2.2.2.1,x7.2.2.2.2.1,x7.2.2.2.2.2.1,x7.2.2.2.2.2.2.1,x7.2.2.2.2.2.2.2.1,x7.2.2.2.2.2.2.2.2)
   ) else (
     bno (gQ x4 (⟨a1,a2,a3⟩:gE) a4 a5 a6 a7 a8 a9 a10 a11) fun x8 =>
     some (0,x8.1,x8.2.1,x8.2.2.1,x8.2.2.2.1,x8.2.2.2.2.1,x8.2.2.2.2.2.1,x8.2.2.2.2.2.2.1,x8.2.2.2.2.2.2.2)
   )
 )

def jY (a0:Int) (a1:Int) (a2:Int) (a3:(List aK)) (a4:Int) (a5:Int) (a6:(List aJ)) (a7:Int) (a8:(List Int)):Option Int :=
 bnd (decide (a0=(-1))) fun x1 =>
 bif x1 then (
  some 0
 ) else (
   bno (gix a6 a0) fun x3 =>
   chk (a6.length=64)<|bno (a6[(a0:Int).toNat]?) fun x5 =>
   some x5.id
 )

def dK (a0:(List aH)):Option (List aH):=aAZ (fun x=>x.ID) (fun x=>decide (0 ≤ x.ID) && decide (x.ID ≤ 1048576)) a0

def fI (a0:Int) (a1:Int) (a2:(List aK)) (a3:Int) (a4:Int) (a5:(List aJ)) (a6:Int) (a7:(List Int)) (x1:(List Int)):Nat → (List aH) → Int → Option (List aH)
 | 0,_,_=>none
 | n0 + 1,v11,v12 =>
   bnd (decide (v12 < (x1.length:Int))) fun x22 =>
   bif x22 then (
    bno (gix x1 v12) fun x24 =>
    bno (gix a5 x24) fun x25 =>
    chk (a5.length=64)<|bno (a5[(x24:Int).toNat]?) fun x27 =>
    bno (jY x27.up a0 a1 a2 a3 a4 a5 a6 a7) fun x28 =>
    bno (app 32 v11 (([(⟨x27.id,x28,x27.weight,x27.closed⟩:aH)]:(List aH)))) fun x29 =>
    bnd (IntKind.wrap .i64 (v12 + 1)) fun x30 =>
    (fI a0 a1 a2 a3 a4 a5 a6 a7 x1 n0) x29 x30
   ) else (
     bno (dK v11) fun x31 =>
     chk (x31.length=v11.length)<|some x31
   )
def kR (a0:Int) (a1:Int) (a2:(List aK)) (a3:Int) (a4:Int) (a5:(List aJ)) (a6:Int) (a7:(List Int)):Option (List aH) :=
 bno (oL (⟨a2,a3,a4⟩:bH)) fun x1 =>
 fI a0 a1 a2 a3 a4 a5 a6 a7 x1 fuel ([]:(List aH)) 0

def nL (a0:(List Int)):Option (List Int):=aB0 a0

def kS (a0:Int) (a1:Int) (a2:Int) (a3:(List aK)) (a4:Int) (a5:Int) (a6:(List aJ)) (a7:Int) (a8:(List Int)):Option (Int × Int × Int × (List aK) × Int × Int × (List aJ) × Int × (List Int)) :=
 bno (eH a0 a1 a2 a3 a4 a5 a6 a7 a8) fun x1 =>
 bnd (decide (x1=(-1))) fun x2 =>
 bif x2 then (
  some (6,a1,a2,a3,a4,a5,a6,a7,a8)
 ) else (
   bno (gix a6 x1) fun x4 =>
   chk (a6.length=64)<|bno (a6[(x1:Int).toNat]?) fun x6 =>
   bif x6.closed then (
    some (9,a1,a2,a3,a4,a5,a6,a7,a8)
   ) else (
     bno (gix a6 x1) fun x8 =>
     bno (a6[(x1:Int).toNat]?) fun x9 =>
     bnd (a6.set ((x1:Int).toNat) (⟨x9.id,x9.up,x9.first,x9.next,x9.weight,true⟩:aJ)) fun x10 =>
     bno (app 8 a8 ([x1]:(List Int))) fun x11 =>
     bnd (decide (a2 < (x11.length:Int))) fun x12 =>
     bif x12 then (
      bno (gix x11 0) fun x14 =>
      bno (x11[(0:Int).toNat]?) fun x15 =>
      bno (fM x15 a1 a2 a3 a4 a5 x10 a7 x11) fun x16 =>
      some (0,x16.1,x16.2.1,x16.2.2.1,x16.2.2.2.1,x16.2.2.2.2.1,x16.2.2.2.2.2.1,x16.2.2.2.2.2.2.1,x16.2.2.2.2.2.2.2)
     ) else (
       some (0,a1,a2,a3,a4,a5,x10,a7,x11)
     )
   )
 )

def jZ (a0:Int) (a1:Int) (a2:Int) (a3:(List aK)) (a4:Int) (a5:Int) (a6:(List aJ)) (a7:Int) (a8:(List Int)):Option (Int × Int × Int × (List aK) × Int × Int × (List aJ) × Int × (List Int)) :=
 bno (eH a0 a1 a2 a3 a4 a5 a6 a7 a8) fun x1 =>
 bnd (decide (x1=(-1))) fun x2 =>
 bif x2 then (
  some (6,a1,a2,a3,a4,a5,a6,a7,a8)
 ) else (
   bno (fM x1 a1 a2 a3 a4 a5 a6 a7 a8) fun x4 =>
   some (0,x4.1,x4.2.1,x4.2.2.1,x4.2.2.2.1,x4.2.2.2.2.1,x4.2.2.2.2.2.1,x4.2.2.2.2.2.2.1,x4.2.2.2.2.2.2.2)
 )

def eX (a0:Int) (a1:Int) (a2:(List aK)) (a3:Int) (a4:Int) (a5:(List aJ)) (a6:Int) (a7:(List Int)):Nat → (List Int) → Int → Option (List Int)
 | 0,_,_=>none
 | n0 + 1,v9,v10 =>
   bnd (decide (v10 < (a7.length:Int))) fun x18 =>
   bif x18 then (
    bno (gix a7 v10) fun x20 =>
    bno (a7[(v10:Int).toNat]?) fun x21 =>
    bno (jY x21 a0 a1 a2 a3 a4 a5 a6 a7) fun x22 =>
    bno (app 8 v9 ([x22]:(List Int))) fun x23 =>
    bnd (IntKind.wrap .i64 (v10 + 1)) fun x24 =>
    (eX a0 a1 a2 a3 a4 a5 a6 a7 n0) x23 x24
   ) else (
     some v9
   )
def kC (a0:Int) (a1:Int) (a2:(List aK)) (a3:Int) (a4:Int) (a5:(List aJ)) (a6:Int) (a7:(List Int)):Option (List Int) :=
 chk (a5.length=64)<|eX a0 a1 a2 a3 a4 a5 a6 a7 fuel ([]:(List Int)) 0

end Go.Fn
open Go Go.IL
namespace Go.Fn
structure T_anon22 where
 c0:Int
 c1:Int
 deriving DecidableEq,Inhabited
end Go.Fn
open Go Go.IL
namespace Go.Fn
structure pY where
 c0:Int
 c1:Int
 deriving DecidableEq,Inhabited
def aDE:Enc pY:=⟨⟨fun x=>.agg [.int .u8 x.c0,.int .u8 x.c1],2,by decide,fun _=>⟨rfl,rfl⟩⟩,fun _=>rfl⟩


def pG (a0:aV) (a1:Int):Option (List Int) :=
 bno (jR a0) fun x1 =>
 bnd (!decide (x1=0)) fun x2 =>
 bnd (!decide (a1=0)) fun x3 =>
 bno (gd ((x2 == false) && (x3 == true)) (jF a0 a1) default) fun x4 =>
 bnd (x3 && (!x4)) fun x5 =>
 bnd (x2 || x5) fun x6 =>
 bif x6 then (
  some []
 ) else (
   bno (pK a1 a0) fun x8 =>
   bno (nL x8) fun x9 =>
   chk (x9.length=x8.length)<|some x9
 )

def jU  : Option Bool :=
 bno (yZ (⟨8,1,[],[]⟩:aV) ([(⟨0,1,0,16,false⟩:dD),(⟨0,3,1,5,false⟩:dD),(⟨0,5,1,7,false⟩:dD),(⟨2,3,0,0,false⟩:dD),(⟨9,0,0,0,false⟩:dD),(⟨1,5,0,2,false⟩:dD)]:(List dD))) fun x1 =>
 bnd (!decide ((x1.2.length:Int)=6)) fun x2 =>
 bif x2 then (
  some false
 ) else (
   bno (gix x1.2 0) fun x4 =>
   bnd (decide (x4=0)) fun x5 =>
   bno (gd (x5 == true) (gix x1.2 3) default) fun x6 =>
   bnd (decide (x6=0)) fun x7 =>
   bnd (x5 && x7) fun x8 =>
   bno (gd (x8 == true) (gix x1.2 4) default) fun x9 =>
   bnd (decide (x9=12)) fun x10 =>
   bnd (x8 && x10) fun x11 =>
   bnd (decide ((x1.1.Nodes.length:Int)=3)) fun x12 =>
   bnd (x11 && x12) fun x13 =>
   bno (gd (x13 == true) (gix x1.1.Nodes 1) default) fun x14 =>
   bnd (x13 && x14.Closed) fun x15 =>
   bno (gd (x15 == true) (rI x1.1 3) default) fun x16 =>
   bnd (decide (x16=2)) fun x17 =>
   bnd (x15 && x17) fun x18 =>
   bno (gd (x18 == true) (rI x1.1 5) default) fun x19 =>
   bnd (decide (x19=1)) fun x20 =>
   bnd (x18 && x20) fun x21 =>
   bno (gd (x21 == true) (tC x1.1 1 3) default) fun x22 =>
   bnd (decide (x22=1)) fun x23 =>
   bnd (x21 && x23) fun x24 =>
   bno (gd (x24 == true) (tC x1.1 5 3) default) fun x25 =>
   bnd (decide (x25=0)) fun x26 =>
   bnd (x24 && x26) fun x27 =>
   bno (gd (x27 == true) (pG x1.1 1) default) fun x28 =>
   bno (gd (x27 == true) (gM x28 ([3]:(List Int))) default) fun x29 =>
   bnd (x27 && x29) fun x30 =>
   bno (gd (x30 == true) (pG x1.1 0) default) fun x31 =>
   bno (gd (x30 == true) (gM x31 ([1,3,5]:(List Int))) default) fun x32 =>
   bnd (x30 && x32) fun x33 =>
   bno (gd (x33 == true) (yY x1.1 0) default) fun x34 =>
   bnd (decide (x34=18)) fun x35 =>
   bnd (x33 && x35) fun x36 =>
   bno (gd (x36 == true) (jR x1.1) default) fun x37 =>
   bnd (decide (x37=0)) fun x38 =>
   bnd (x36 && x38) fun x39 =>
   bno (gd (x39 == true) (jR (⟨0,0,[],[]⟩:aV)) default) fun x40 =>
   bnd (decide (x40=8)) fun x41 =>
   bnd (x39 && x41) fun x42 =>
   bno (gd (x42 == true) (tB x1.1 (⟨0,0,[],[]⟩:aV)) default) fun x43 =>
   bnd (x42 && (!x43)) fun x44 =>
   bno (gd (x44 == true) (tB x1.1 x1.1) default) fun x45 =>
   bnd (x44 && x45) fun x46 =>
   bnd (bif x46 then true else false) fun x47 =>
   bnd (bif x47 then true else false) fun x48 =>
   bnd (bif x48 then true else false) fun x49 =>
   some x49
 )

def eQ (v68:Int) (kk0:Int → Int → Int → (List aK) → Int → Int → (List aJ) → Int → (List Int) → Int → Int → (List aH) → (List Int) → Option Bool) (x133:(aV × Int)) (v144:Int) (v145:Int) (v146:Int) (v147:(List aK)) (v148:Int) (v149:Int) (v150:(List aJ)) (v151:Int) (v152:(List Int)):Option Bool :=
 bnd (!decide (x133.2=v144)) fun x153 =>
 bno (gd (x153 == false) (jR x133.1) default) fun x154 =>
 bnd (!decide (x154=0)) fun x155 =>
 bnd (x153 || x155) fun x156 =>
 bno (gd (x156 == false) (lK x133.1.Nodes) default) fun x157 =>
 bno (gd (x156 == false) (kR v145 v146 v147 v148 v149 v150 v151 v152) default) fun x158 =>
 bno (gd (x156 == false) (lK x158) default) fun x159 =>
 bno (gd (x156 == false) (jB x157 x159) default) fun x160 =>
 bnd (x156 || (!x160)) fun x161 =>
 bno (gd (x161 == false) (kC v145 v146 v147 v148 v149 v150 v151 v152) default) fun x162 =>
 bno (gd (x161 == false) (gM x133.1.Ended x162) default) fun x163 =>
 bnd (x161 || (!x163)) fun x164 =>
 bif x164 then (
  some false
 ) else (
   bnd (IntKind.wrap .i64 (v68 + 1)) fun x166 =>
   kk0 x166 v145 v146 v147 v148 v149 v150 v151 v152 x133.1.Room x133.1.Keep x133.1.Nodes x133.1.Ended
 )
def cS (a1:(List dD)):Nat → Int → Int → Int → (List aK) → Int → Int → (List aJ) → Int → (List Int) → Int → Int → (List aH) → (List Int) → Option Bool
 | 0,_,_,_,_,_,_,_,_,_,_,_,_,_=>none
 | n0 + 1,v68,v69,v70,v71,v72,v73,v74,v75,v76,v77,v78,v79,v80 =>
   bnd (decide (v68 < (a1.length:Int))) fun x129 =>
   bif x129 then (
    bno (gix a1 v68) fun x131 =>
    bno (remI x131.Kind 4) fun x132 =>
    bno (tW (⟨v77,v78,v79,v80⟩:aV) (⟨x132,x131.ID,x131.Dep,x131.Weight,x131.Only⟩:dD)) fun x133 =>
    bnd (decide (x132=0)) fun x167 =>
    bif x167 then (
     bno (kB x131.ID x131.Dep x131.Weight x131.Only v69 v70 v71 v72 v73 v74 v75 v76) fun x169 =>
     eQ v68 (cS a1 n0) x133 x169.1 x169.2.1 x169.2.2.1 x169.2.2.2.1 x169.2.2.2.2.1 x169.2.2.2.2.2.1 x169.2.2.2.2.2.2.1 x169.2.2.2.2.2.2.2.1 x169.2.2.2.2.2.2.2.2
    ) else (
      bnd (decide (x132=1)) fun x170 =>
      bif x170 then (
       bno (lL x131.ID x131.Dep x131.Weight x131.Only v69 v70 v71 v72 v73 v74 v75 v76) fun x172 =>
       eQ v68 (cS a1 n0) x133 x172.1 x172.2.1 x172.2.2.1 x172.2.2.2.1 x172.2.2.2.2.1 x172.2.2.2.2.2.1 x172.2.2.2.2.2.2.1 x172.2.2.2.2.2.2.2.1 x172.2.2.2.2.2.2.2.2
      ) else (
        bnd (decide (x132=2)) fun x173 =>
        bif x173 then (
         bno (kS x131.ID v69 v70 v71 v72 v73 v74 v75 v76) fun x175 =>
         eQ v68 (cS a1 n0) x133 x175.1 x175.2.1 x175.2.2.1 x175.2.2.2.1 x175.2.2.2.2.1 x175.2.2.2.2.2.1 x175.2.2.2.2.2.2.1 x175.2.2.2.2.2.2.2.1 x175.2.2.2.2.2.2.2.2
        ) else (
          bno (jZ x131.ID v69 v70 v71 v72 v73 v74 v75 v76) fun x176 =>
          eQ v68 (cS a1 n0) x133 x176.1 x176.2.1 x176.2.2.1 x176.2.2.2.1 x176.2.2.2.2.1 x176.2.2.2.2.2.1 x176.2.2.2.2.2.2.1 x176.2.2.2.2.2.2.2.1 x176.2.2.2.2.2.2.2.2
        )
      )
    )
   ) else (
     bno (jU) fun x177 =>
     some x177
   )
def jH (a0:pY) (a1:(List dD)):Option Bool :=
 bnd (decide (60 < (a1.length:Int))) fun x1 =>
 bif x1 then (
  bno (jU) fun x3 =>
  some x3
 ) else (
   bno (remI a0.c0 24) fun x4 =>
   bnd (IntKind.wrap .i64 x4) fun x5 =>
   bnd (IntKind.wrap .i64 (1 + x5)) fun x6 =>
   bnd (IntKind.wrap .i64 a0.c1) fun x7 =>
   bnd (IntKind.wrap .i64 (x6 + 1)) fun x8 =>
   bno (remI x7 x8) fun x9 =>
   bno (oH x6 1 24) fun x10 =>
   bno (gd ((!x10) == false) (oH x9 0 x6) default) fun x11 =>
   bnd ((!x10) || (!x11)) fun x12 =>
   bif x12 then (
    bnd (!decide (8=0)) fun x14 =>
    bnd (x14 || true) fun x15 =>
    some false
   ) else (
     bno (wO) fun x16 =>
     bnd (!decide (0=0)) fun x17 =>
     bnd (x17 || false) fun x18 =>
     bif x18 then (
      some false
     ) else (
       cS a1 fuel 0 x6 x9 x16.Cells x16.Free x16.Used ((List.replicate 64 (⟨0,0,0,0,0,false⟩:aJ):(List aJ))) (-1) ([]:(List Int)) x6 x9 ([]:(List aH)) ([]:(List Int))
     )
   )
 )
end Go.Fn
