/-
  A part of the proof: rules and plain facts. No condition.
-/
import Derived.Test.YtdnjagkihgjpcaaGreatIlSo
import Derived.Shelf.Sort.Plain
import Derived.Shelf.Slices.In.SortNone
import Derived.Shelf.SlSortCmp.WholeK
import Derived.Shelf.SlSortCmp.NoneTotal
set_option linter.all false
open Go.RowKit (Below)
open Go.Sort
namespace Go.IL
def OH (E:Env) (β:bW) (H0:List (Nat × Ent)):cC:=⟨E.w,E.X,oE β H0,β,none,fun _=>[],fun _=>0,fun _=>[],fun _=>(#[],.skip,.skip)⟩
theorem sD {α:Type} [Inhabited α] (enc:α → Value) {zs zs':List α} (sp:List Value) (hl:zs'.length=zs.length):putCells enc 0 zs'.toArray (zs.map enc ++ sp).toArray=(zs'.map enc ++ sp).toArray:=by
 apply Array.ext_getElem?
 intro i
 unfold putCells
 rw [Array.getElem?_mapIdx,List.getElem?_toArray,List.getElem?_toArray]
 by_cases hi:i < zs.length
 · have hi':i < zs'.length:=by omega
   rw [List.getElem?_append_left (by simpa using hi),List.getElem?_append_left (by simpa using hi'),List.getElem?_map,List.getElem?_map,List.getElem?_eq_getElem hi,List.getElem?_eq_getElem hi']
   simp [hi']
 · rw [List.getElem?_append_right (by simp; omega),List.getElem?_append_right (by simp; omega),List.length_map,List.length_map,hl]
   cases sp[i - zs.length]? with
   | none=>rfl
   | some v =>
     simp only [Option.map_some]
     rw [if_neg (by simp; omega)]
theorem aBF (h:Array Obj) (b:Nat) (f:Obj → Obj) (o:Obj) (e:h[b]? = some o):(h.modify b f)[b]? = some (f o):=by
 rw [Array.getElem?_modify,if_pos rfl,e]; rfl
theorem xG (h:Array Obj) {b k:Nat} (f:Obj → Obj) (hk:k ≠ b):(h.modify b f)[k]? = h[k]?:=by
 rw [Array.getElem?_modify,if_neg (Ne.symm hk)]
theorem aAu {E:Env} {β:bW} {e:TypeId} {ds ds':List D} {b n:Nat} {vs sp vs':List Value} {g:Array Value → Array Value} (os:Array Obj)
 (hok:HOk (OH E β [(1000,.blk e ds)]) E β (entL [(1000,.blk e ds)])) (hb:β 1000=some b) (hh:E.w.heap[b]? = some (.cells (List.toArray (vs ++ sp)) e (0,0))) (hX:∀ o,E.X b o)
 (hg:g (List.toArray (vs ++ sp))=List.toArray (vs' ++ sp)) (hl:vs'.length=vs.length) (hv:∀ E',RdL E' β vs' ds') :
 HOk (OH E β [(1000,.blk e ds)]) ⟨grow (mapBlock (Sort.ahead E.w n) b g) os,E.X⟩ β (entL [(1000,.blk e ds')]):=by
 have hlt:=dL hh
 have hown:(OH E β [(1000,.blk e ds)]).own b:=hok.own (j:=1000) rfl hb
 let E1:Env:=⟨mapBlock (Sort.ahead E.w n) b g,E.X⟩
 have hat:E1.w.heap[b]? = some (.cells (List.toArray (vs' ++ sp)) e (0,0)):=by
  show (E.w.heap.modify b (onCells g))[b]? = _
  rw [aBF _ _ _ _ hh]
  show some (Obj.cells (g _) e (0,0))=_
  rw [hg]
 have hs:Step (OH E β [(1000,.blk e ds)]) E E1 b:=⟨rfl,rfl,rfl,by show E.w.heap.size ≤ (E.w.heap.modify b (onCells g)).size; rw [Array.size_modify]; exact Nat.le_refl _,by show b < (E.w.heap.modify b (onCells g)).size; rw [Array.size_modify]; exact hlt,hown,fun k _ hk=>xG _ _ hk,fun _ _ _=>Iff.rfl,fun _ h=>by rw [hh] at h; cases h⟩
 have hle:E.le E1:=hs.le (fun o v _ h2=>absurd (hX o) h2) (fun c e' f h3=>by
  rw [hh] at h3; cases h3
  exact ⟨_,_,hat,by simp [hl]⟩)
 have hput:HOk (OH E β [(1000,.blk e ds)]) E1 β (entL [(1000,.blk e ds')]):=by
  refine HOk.put hok hs hle (bW.le.refl _) (id:=1000) ?_ ?_ hb ?_ (fun _ _=>trivial)
  · intro j hj; left; exact ⟨by simp [entL,aV,Ne.symm hj],rfl⟩
  · intro j hj hheld hbj
    have:(entL [(1000,Ent.blk e ds)] j).held=true:=by simpa [entL,aV,Ne.symm hj] using hheld
    exact hj (hok.inj j 1000 b this rfl hbj hb)
  · exact ⟨_,sp,hat,hX,hv _⟩
 exact hput.below ⟨rfl,rfl,rfl,by show E1.w.heap.size ≤ (E1.w.heap ++ os).size; rw [Array.size_append]; omega,fun k hk=>by
  show (E1.w.heap ++ os)[k]? = _
  rw [Array.getElem?_append_left hk]⟩
theorem zC {E:Env} {β:bW}:Rd E β (.tuple #[]) (retD []):=.tuple _ [] [] (.nil _)
theorem aBj {P:Program} {f:FuncId} {e:TypeId} {n sz:Nat} {ds ds' ar:List D} (us:List Value) (has:∀ E β xs,RdL E β xs ar → xs=us)
 (hnil:n=0 → ds'=ds ∧ ∀ (p:Option Addr) (cap:Nat) (w:World),Calls P f ((.slice p 0 cap) :: us).toArray w fun e w'=>e = .returned (.tuple #[]) ∧ Below w.heap.size w w')
 (hrow:∀ (E:Env) (β:bW) (b cap:Nat) (vs sp:List Value) ,RdL E β vs ds → E.good → E.w.heap[b]? = some (.cells (List.toArray (vs ++ sp)) e (0,0)) →
   Calls P f ((.slice (some ⟨b,0,none⟩) n cap) :: us).toArray E.w fun e w'=>e = .returned (.tuple #[]) ∧ ∃ g k os vs',w'=grow (mapBlock (Sort.ahead E.w k) b g) os ∧ g (List.toArray (vs ++ sp))=List.toArray (vs' ++ sp) ∧ vs'.length=vs.length ∧ ∀ E' β',RdL E' β' vs' ds') :
 FnH P f (.osl 1000 sz n :: ar) [(1000,.blk e ds)] (retD []) [(1000,.blk e ds')]:=by
 intro E β xs hX hβ hok hvs
 cases hvs with
 | cons h1 h2 =>
   obtain rfl:=has _ _ _ h2
   cases h1 with
   | nosl =>
     obtain ⟨e1,h3⟩:=hnil rfl
     subst e1
     refine (h3 none 0 E.w).mono ?_
     rintro e' w' ⟨rfl,hb⟩
     exact ⟨_,rfl,⟨w',E.X⟩,β,rfl,hok.below hb,zC⟩
   | osl _ _ b _ cap _ hb hc hsz c e' fz hcap hcs hcm =>
     have hent:=hok.ent 1000
     obtain ⟨vs,sp,g1,g2,g3,g4⟩:=pR (show uN (OH E β [(1000,.blk e ds)]) E β 1000 (.blk e ds) from hent) hb
     refine (hrow E β b cap vs sp g4 hX g2).mono ?_
     rintro e'' w' ⟨rfl,g,k,os,vs',rfl,k1,k2,k3⟩
     exact ⟨_,rfl,⟨_,E.X⟩,β,rfl,aAu os hok hb g2 g3 k1 k2 (fun E'=>k3 E' β),zC⟩
theorem zI {E:Env} {β:bW} {k:IntKind}:∀ {l:List Int} {vs:List Value},RdL E β vs (D.flat (l.map (eInt k).d)) → vs=l.map (Value.int k)
 | [],vs,h=>by cases h; rfl
 | x :: l,vs,h=>by
   have h:RdL E β vs (.int k x :: D.flat (l.map (eInt k).d)):=h
   cases h with
   | cons h1 h2 =>
     rw [zI h2,kG h1]; rfl
theorem zW (E:Env) (β:bW) (k:IntKind):∀ (l:List Int),RdL E β (l.map (Value.int k)) (D.flat (l.map (eInt k).d))
 | []=>.nil _
 | x :: l=>.cons (.int _ _ _) (zW E β k l)
theorem aAZ {w:World} {b:Nat} {e:TypeId} {zs:List Int} {sp:List Value} (hh:w.heap[b]? = some (.cells (List.toArray (zs.map (Value.int .i64) ++ sp)) e (0,0))):Holds (Value.int .i64) w b 0 zs.toArray:=fun j hj=>by
 have hj:j < zs.length:=by simpa using hj
 refine ⟨?_,by simp [World.frozen?,hh]⟩
 simp only [World.cell?,hh,Nat.zero_add,Option.isSome_none,Bool.false_eq_true,if_false,List.getElem?_toArray]
 rw [List.getElem?_append_left (by simpa using hj),List.getElem?_map,List.getElem?_eq_getElem hj]
 simp [hj]
theorem aBh {P:Program} {ρ:Shelf.Ren} (L:Proofs.Lays.n189 P ρ) {e:TypeId} (a0:List Int) (r:List Int) (h:yE a0=some r) :
 FnH P (ρ.f 189) [.osl 1000 (eInt .i64).sz a0.length] [(1000,.blk e (D.flat (a0.map (eInt .i64).d)))] (retD []) [(1000,.blk e (D.flat (r.map (eInt .i64).d)))]:=by
 obtain ⟨h1,rfl⟩:=sortI_e h
 refine aBj [] (fun E β xs h=>by cases h; rfl) (fun h0=>?_) (fun E β b cap vs sp hv _ hh=>?_)
 · obtain rfl:=List.length_eq_zero_iff.1 h0
   refine ⟨rfl,fun p cap w=>(Proofs.Any.slices_Sort_int_none L p cap w).mono ?_⟩
   rintro e w' h
   exact ⟨h.1,by rw [h.2]; exact Below.refl _ _⟩
 · obtain rfl:=zI hv
   refine (Proofs.Any.slices_Sort_int L b 0 cap a0 E.w (aAZ hh) (dL hh) h1).mono ?_
   rintro e w' ⟨rfl,n,os,rfl⟩
   rw [yD]
   have hl:=(mN id a0).length_eq
   exact ⟨rfl,_,n,os,(nH id a0).map (Value.int .i64),rfl,sD _ sp hl,by simp [hl],fun E' β'=>zW E' β' _ _⟩
theorem wX {E:Env} {β:bW}:∀ {d1 d2:List D} {vs:List Value},RdL E β vs (d1 ++ d2) → ∃ v1 v2,vs=v1 ++ v2 ∧ RdL E β v1 d1 ∧ RdL E β v2 d2
 | [],d2,vs,h=>⟨[],vs,rfl,.nil _,h⟩
 | d :: d1,d2,vs,h=>by
   cases h with
   | cons h1 h2 =>
     obtain ⟨v1,v2,rfl,h3,h4⟩:=wX h2
     exact ⟨_ :: v1,v2,rfl,.cons h1 h3,h4⟩
theorem zJ {T:Type} {f:Enc T} {enc:T → List Value} (hrd:∀ E β x vs,RdL E β vs (f.d x).cells → vs=enc x) {E:Env} {β:bW}:∀ {l:List T} {vs:List Value},RdL E β vs (D.flat (l.map f.d)) → vs=l.flatMap enc
 | [],vs,h=>by cases h; rfl
 | x :: l,vs,h=>by
   obtain ⟨v1,v2,rfl,h1,h2⟩:=wX (show RdL E β vs ((f.d x).cells ++ D.flat (l.map f.d)) from h)
   rw [hrd E β x v1 h1,zJ hrd h2]; rfl
theorem aAD {T:Type} {f:Enc T} {enc:T → List Value} (hrd':∀ E β x,RdL E β (enc x) (f.d x).cells) (E:Env) (β:bW):∀ l:List T,RdL E β (l.flatMap enc) (D.flat (l.map f.d))
 | []=>.nil _
 | x :: l=>(hrd' E β x).append (aAD hrd' E β l)
theorem aAC {α:Type} [Inhabited α] {enc:α → List Value} {k:Nat} (hk:∀ x,(enc x).length=k) (h0:0 < k):∀ (l:List α) (t:Nat),t < l.length * k → (l.flatMap enc)[t]! = (enc l[t / k]!)[t % k]!
 | [],t,h=>by simp at h
 | x :: l,t,h=>by
   rw [List.flatMap_cons]
   by_cases ht:t < k
   · rw [Nat.div_eq_of_lt ht,Nat.mod_eq_of_lt ht,getElem!_pos _ t (by rw [List.length_append,hk]; omega),List.getElem_append_left (by rw [hk]; exact ht)]
     rw [show (x :: l)[0]! = x from rfl,getElem!_pos (enc x) t (by rw [hk]; exact ht)]
   · have h2:t - k < l.length * k:=by rw [List.length_cons,Nat.add_mul,Nat.one_mul] at h; omega
     have hfl:(l.flatMap enc).length=l.length * k:=by
      rw [List.length_flatMap,List.map_congr_left (fun x _=>hk x),List.map_const',List.sum_replicate_nat]
     have ih:=aAC hk h0 l (t - k) h2
     rw [getElem!_pos _ (t - k) (by rw [hfl]; exact h2)] at ih
     rw [getElem!_pos _ t (by rw [List.length_append,hk,hfl]; omega),List.getElem_append_right (by rw [hk]; omega)]
     simp only [hk]
     have e1:t / k=(t - k) / k + 1:=Nat.div_eq_sub_div h0 (Nat.le_of_not_lt ht)
     have e2:t % k=(t - k) % k:=Nat.mod_eq_sub_mod (Nat.le_of_not_lt ht)
     rw [ih,e1,e2]
     rfl
theorem vC {α:Type} [Inhabited α] {enc:α → List Value} {k:Nat} (hk:∀ x,(enc x).length=k) (h0:0 < k) (l:List α):flatK enc k l.toArray=(l.flatMap enc).toArray:=by
 have hfl:(l.flatMap enc).length=l.length * k:=by
  rw [List.length_flatMap,List.map_congr_left (fun x _=>hk x),List.map_const',List.sum_replicate_nat]
 refine ext_get! (by simp [hfl]) fun t ht=>?_
 have ht:t < l.length * k:=by simpa using ht
 rw [get_flatK _ _ _ _ (by simpa using ht)]
 have:=aAC hk h0 l t ht
 have e1:(l.flatMap enc).toArray[t]! = (l.flatMap enc)[t]!:=by simp
 have e2:l.toArray[t / k]! = l[t / k]!:=by simp
 rw [e1,this,e2]
theorem aBi {P:Program} {ρ:Shelf.Ren} (L:Proofs.SlLaysF0.n6 P ρ) {T:Type} [Inhabited T] (f:Enc T) (enc:T → List Value) (key:T → Int) (good:T → Bool) (hgd:good default=true)
 (aE:∀ w,(isAgg (ρ.t 24)).run P w = .ok true w) (zE:∀ w,(Go.sizeOf (ρ.t 24)).run P w = .ok f.sz w) (hk:∀ x,(enc x).length=f.sz) (h1:∀ x,∀ v ∈ enc x,v.oneCell'=true)
 (hrd:∀ E β x vs,RdL E β vs (f.d x).cells → vs=enc x) (hrd':∀ E β x,RdL E β (enc x) (f.d x).cells) {g:Nat} (eg:∀ args w,(callFunc g args).run P w = .ok (.enter g args) w)
 (hcmp:∀ (x y:T) (W:World),good x=true → good y=true → Calls P g #[.agg (enc x).toArray,.agg (enc y).toArray] W fun e w'=>e = .returned (.int .i64 (key x - key y)) ∧ ∃ q os',w'=grow (W.drewN q) os')
 {e:TypeId} (a0 r:List T) (h:yC key good a0=some r) :
 FnH P (ρ.f 6) [.osl 1000 f.sz a0.length,.fn g []] [(1000,.blk e (D.flat (a0.map f.d)))] (retD []) [(1000,.blk e (D.flat (r.map f.d)))]:=by
 obtain ⟨hlen,hg,hnd,rfl⟩:=sortK_e h
 refine aBj [.func (.func g) #[] #[]] (fun E β xs h=>?_) (fun h0=>?_) (fun E β b cap vs sp hv _ hh=>?_)
 · cases h with
   | cons h2 h3 =>
     cases h3
     obtain ⟨us,rfl,h4⟩:=aA1 h2
     cases h4; rfl
 · obtain rfl:=List.length_eq_zero_iff.1 h0
   refine ⟨rfl,fun p cap w=>(Proofs.AnyF.slices_SortFunc_none L p cap _ w).mono ?_⟩
   rintro e w' h
   exact ⟨h.1,by rw [h.2]; exact Below.refl _ _⟩
 · obtain rfl:=zJ hrd hv
   let α:={ x:T // good x=true }
   letI:Inhabited α:=⟨⟨default,hgd⟩⟩
   let enc':α → List Value:=fun x=>enc x.1
   let cf:α → α → Int:=fun x y=>key x.1 - key y.1
   let l:List α:=a0.attachWith (fun x=>good x=true) hg
   have hk':∀ x:α,(enc' x).length=f.sz:=fun x=>hk x.1
   have hfm:∀ m:List α,m.flatMap enc'=(m.map (·.1)).flatMap enc:=fun m=>by rw [List.flatMap_map]
   have hval:l.map (·.1)=a0:=by
    show (a0.attachWith _ hg).map (fun i=>id i.1)=_
    rw [List.attachWith_map_val]; exact List.map_id _
   have hll:l.toArray.size=a0.length:=by
    rw [List.size_toArray,← hval,List.length_map]
   have hO:SWO (Proofs.ltOf cf):={
    irrefl:=fun x=>by show decide (key x.1 - key x.1 < 0)=false; exact decide_eq_false (by omega)
    trans:=fun x y z h1 h2=>by
     have h1:=of_decide_eq_true (show decide (key x.1 - key y.1 < 0)=true from h1)
     have h2:=of_decide_eq_true (show decide (key y.1 - key z.1 < 0)=true from h2)
     show decide (key x.1 - key z.1 < 0)=true
     exact decide_eq_true (by omega)
    ntrans:=fun x y z h1 h2=>by
     have h1:=of_decide_eq_false (show decide (key x.1 - key y.1 < 0)=false from h1)
     have h2:=of_decide_eq_false (show decide (key y.1 - key z.1 < 0)=false from h2)
     show decide (key x.1 - key z.1 < 0)=false
     exact decide_eq_false (by omega) }
   have hH:HoldsK enc' f.sz E.w b 0 l.toArray:=by
    unfold HoldsK
    rw [vC hk' f.pos,hfm,hval]
    intro j hj
    have hj:j < (a0.flatMap enc).length:=by simpa using hj
    refine ⟨?_,by simp [World.frozen?,hh]⟩
    simp only [World.cell?,hh,Nat.zero_add,Option.isSome_none,Bool.false_eq_true,if_false,List.getElem?_toArray]
    rw [List.getElem?_append_left hj]
    simp [List.getElem?_eq_getElem hj]
   have hC:=Proofs.AnyQ.slices_SortFunc L f.sz aE zE enc' hk' (fun x=>h1 x.1) cf hO g #[] b 0 cap l.toArray E.w eg (fun m os dk _ x y=>hcmp x.1 y.1 _ x.2 y.2) hH (dL hh) (by rw [hll]; exact hlen)
   rw [hll] at hC
   refine hC.mono ?_
   rintro e' w' ⟨rfl,d',n,os,hp,hs,rfl⟩
   have hsz:d'.size=a0.length:=hp.1.trans hll
   have hperm:(d'.toList.map (·.1)).Perm a0:=by
    have:=hp.2.2
    rw [Array.extract_eq_self_of_le (by rw [hsz]; exact Nat.le_refl _),Array.extract_eq_self_of_le (by rw [hll]; exact Nat.le_refl _)] at this
    have:=this.map (·.1)
    rwa [show l.toArray.toList=l from rfl,hval] at this
   have hsort:(d'.toList.map (·.1)).Pairwise (fun a b=>key a ≤ key b):=by
    rw [List.pairwise_map,List.pairwise_iff_getElem]
    intro i j hi hj hij
    have hj':j < d'.size:=by simpa using hj
    have h9:=hs i j (Nat.zero_le _) hij (by rw [← hsz]; exact hj')
    have h9:=of_decide_eq_false (show decide (key (d'[j]!).1 - key (d'[i]!).1 < 0)=false from h9)
    rw [getElem!_pos d' j hj',getElem!_pos d' i (by omega)] at h9
    show key (d'.toList[i]).1 ≤ key (d'.toList[j]).1
    rw [Array.getElem_toList,Array.getElem_toList]
    omega
   have hr:nH key a0=d'.toList.map (·.1):=xK key hperm (sI hnd) hsort
   have hl:((nH key a0).flatMap enc).length=(a0.flatMap enc).length:=((mN key a0).flatMap_right enc).length_eq
   refine ⟨rfl,_,n,os,(nH key a0).flatMap enc,rfl,?_,hl,fun E' β'=>aAD hrd' E' β' _⟩
   have e1:flatK enc' f.sz d'=((nH key a0).flatMap enc).toArray:=by
    rw [hr,← hfm,← vC hk' f.pos]
   rw [e1]
   have:=sD id sp hl
   rw [List.map_id,List.map_id] at this
   exact this
end Go.IL
open Go Go.IL
namespace Go.Fn
structure T_fold_Op where
 Kind:Int
 ID:Int
 Dep:Int
 Weight:Int
 Only:Bool
 deriving DecidableEq,Inhabited
structure aN where
 ID:Int
 Parent:Int
 Weight:Int
 Closed:Bool
 deriving DecidableEq,Inhabited
def aM:Enc aN:=⟨⟨fun x=>.agg [.int .i64 x.ID,.int .i64 x.Parent,.int .i64 x.Weight,.bool x.Closed],4,by decide,fun _=>⟨rfl,rfl⟩⟩,fun _=>rfl⟩

structure xZ where
 Room:Int
 Keep:Int
 Nodes:(List aN)
 Ended:(List Int)
 deriving DecidableEq,Inhabited
def dT (a0:(List Int)) (a1:Int):Nat → Int → Option Int
 | 0,_=>none
 | n0 + 1,v7 =>
   bnd (decide (v7 < (a0.length:Int))) fun x14 =>
   bif x14 then (
    bno (gix a0 v7) fun x16 =>
    bnd (decide (a1=x16)) fun x17 =>
    bif x17 then (
     some v7
    ) else (
      bnd (IntKind.wrap .i64 (v7 + 1)) fun x19 =>
      (dT a0 a1 n0) x19
    )
   ) else (
     some (-1)
   )
def kC (a0:(List Int)) (a1:Int):Option Int :=
 dT a0 a1 fuel 0

def gU (a0:(List Int)) (a1:Int):Option Bool :=
 bno (kC a0 a1) fun x1 =>
 bnd (decide (0 ≤ x1)) fun x2 =>
 some x2

def eP (a0:(List Int)) (a1:(List Int)):Nat → Int → Option Bool
 | 0,_=>none
 | n0 + 1,v10 =>
   bnd (decide (v10 < (a0.length:Int))) fun x18 =>
   bif x18 then (
    bno (gix a0 v10) fun x20 =>
    bno (gix a1 v10) fun x21 =>
    bnd (!decide (x20=x21)) fun x22 =>
    bif x22 then (
     some false
    ) else (
      bnd (IntKind.wrap .i64 (v10 + 1)) fun x24 =>
      (eP a0 a1 n0) x24
    )
   ) else (
     some true
   )
def bO (a0:(List Int)) (a1:(List Int)):Option Bool :=
 bnd (!decide ((a0.length:Int)=(a1.length:Int))) fun x1 =>
 bif x1 then (
  some false
 ) else (
   eP a0 a1 fuel 0
 )

end Go.Fn
open Go Go.IL
namespace Go.Fn
structure aL where
 Room:Int
 Keep:Int
 L:(List aN)
 Closed:(List Int)
 deriving DecidableEq,Inhabited
def cS (a0:aL) (a1:Int):Nat → Int → Option Int
 | 0,_=>none
 | n0 + 1,v7 =>
   bnd (decide (v7 < (a0.L.length:Int))) fun x14 =>
   bif x14 then (
    bno (gix a0.L v7) fun x16 =>
    bnd (decide (x16.ID=a1)) fun x17 =>
    bif x17 then (
     some v7
    ) else (
      bnd (IntKind.wrap .i64 (v7 + 1)) fun x19 =>
      (cS a0 a1 n0) x19
    )
   ) else (
     some (-1)
   )
def bI (a0:aL) (a1:Int):Option Int :=
 cS a0 a1 fuel 0

def eW (a0:aL) (v18:Int) (kk0:(List Int) → Int → Int → Option (List Int)) (x37:aN) (v41:(List Int)):Option (List Int) :=
 bno (bI a0 x37.Parent) fun x42 =>
 bnd (IntKind.wrap .i64 (v18 + 1)) fun x43 =>
 kk0 v41 x42 x43
def cV (a0:aL):Nat → (List Int) → Int → Int → Option (List Int)
 | 0,_,_,_=>none
 | n0 + 1,v16,v17,v18 =>
   bnd (decide (v18 ≤ (a0.L.length:Int))) fun x33 =>
   bnd (decide (0 ≤ v17)) fun x34 =>
   bnd (x33 && x34) fun x35 =>
   bif x35 then (
    bno (gix a0.L v17) fun x37 =>
    bnd (!decide (x37.Parent=0)) fun x44 =>
    bif x44 then (
     bno (app 8 v16 ([x37.Parent]:(List Int))) fun x46 =>
     eW a0 v18 (cV a0 n0) x37 x46
    ) else (
      eW a0 v18 (cV a0 n0) x37 v16
    )
   ) else (
     some v16
   )
def dZ (a0:aL) (a1:Int):Option (List Int) :=
 bno (bI a0 a1) fun x1 =>
 cV a0 fuel ([]:(List Int)) x1 0

def gQ (a0:(List Int)) (a1:Int):Nat → Int → Option Bool
 | 0,_=>none
 | n0 + 1,v7 =>
   bnd (decide (v7 < (a0.length:Int))) fun x14 =>
   bif x14 then (
    bno (gix a0 v7) fun x16 =>
    bnd (decide (x16=a1)) fun x17 =>
    bif x17 then (
     some true
    ) else (
      bnd (IntKind.wrap .i64 (v7 + 1)) fun x19 =>
      (gQ a0 a1 n0) x19
    )
   ) else (
     some false
   )
def jW (a0:(List Int)) (a1:Int):Option Bool :=
 gQ a0 a1 fuel 0

def iX (a0:Int) (a1:Int) (a2:Int):Option Int :=
 bnd (decide (a0 < 1)) fun x1 =>
 bnd (decide (1048576 < a0)) fun x2 =>
 bnd (x1 || x2) fun x3 =>
 bnd (decide (a1 < 0)) fun x4 =>
 bnd (x3 || x4) fun x5 =>
 bnd (decide (1048576 < a1)) fun x6 =>
 bnd (x5 || x6) fun x7 =>
 bnd (decide (a2 < 1)) fun x8 =>
 bnd (x7 || x8) fun x9 =>
 bnd (decide (256 < a2)) fun x10 =>
 bnd (x9 || x10) fun x11 =>
 bif x11 then (
  some 8
 ) else (
   bnd (decide (a0=a1)) fun x13 =>
   bif x13 then (
    some 4
   ) else (
     some 0
   )
 )

def dP (a0:aL) (a1:Int):Nat → (List Int) → Int → Option (List Int)
 | 0,_,_=>none
 | n0 + 1,v10,v11 =>
   bnd (decide (v11 < (a0.L.length:Int))) fun x21 =>
   bif x21 then (
    bno (gix a0.L v11) fun x23 =>
    bnd (decide (x23.Parent=a1)) fun x24 =>
    bif x24 then (
     bno (gix a0.L v11) fun x26 =>
     bno (app 8 v10 ([x26.ID]:(List Int))) fun x27 =>
     bnd (IntKind.wrap .i64 (v11 + 1)) fun x28 =>
     (dP a0 a1 n0) x27 x28
    ) else (
      bnd (IntKind.wrap .i64 (v11 + 1)) fun x29 =>
      (dP a0 a1 n0) v10 x29
    )
   ) else (
     some v10
   )
def eZ (a0:aL) (a1:Int):Option (List Int) :=
 dP a0 a1 fuel ([]:(List Int)) 0

def dK (a0:aL) (a1:aN):Option aL :=
 bno (app 32 ([]:(List aN)) a0.L) fun x1 =>
 bno (bI a0 a1.ID) fun x2 =>
 bno (gix x1 x2) fun x3 =>
 bno (x1[(x2:Int).toNat]?) fun x4 =>
 bnd (x1.set ((x2:Int).toNat) a1) fun x5 =>
 some (⟨a0.Room,a0.Keep,x5,a0.Closed⟩:aL)

def eK (a0:(List Int)) (a1:Int):Nat → (List Int) → Int → Option (List Int)
 | 0,_,_=>none
 | n0 + 1,v10,v11 =>
   bnd (decide (v11 < (a0.length:Int))) fun x21 =>
   bif x21 then (
    bno (gix a0 v11) fun x23 =>
    bnd (!decide (x23=a1)) fun x24 =>
    bif x24 then (
     bno (gix a0 v11) fun x26 =>
     bno (app 8 v10 ([x26]:(List Int))) fun x27 =>
     bnd (IntKind.wrap .i64 (v11 + 1)) fun x28 =>
     (eK a0 a1 n0) x27 x28
    ) else (
      bnd (IntKind.wrap .i64 (v11 + 1)) fun x29 =>
      (eK a0 a1 n0) v10 x29
    )
   ) else (
     some v10
   )
def hZ (a0:(List Int)) (a1:Int):Option (List Int) :=
 eK a0 a1 fuel ([]:(List Int)) 0

def dV (a1:Int) (v38:Int) (v39:Int) (v40:(List aN)) (v41:(List Int)):Nat → (List aN) → Int → Option aL
 | 0,_,_=>none
 | n2 + 1,v71,v72 =>
   bnd (decide (v72 < (v40.length:Int))) fun x82 =>
   bif x82 then (
    bno (gix v40 v72) fun x84 =>
    bnd (!decide (x84.ID=a1)) fun x85 =>
    bif x85 then (
     bno (gix v40 v72) fun x87 =>
     bno (app 32 v71 ([x87]:(List aN))) fun x88 =>
     bnd (IntKind.wrap .i64 (v72 + 1)) fun x89 =>
     (dV a1 v38 v39 v40 v41 n2) x88 x89
    ) else (
      bnd (IntKind.wrap .i64 (v72 + 1)) fun x90 =>
      (dV a1 v38 v39 v40 v41 n2) v71 x90
    )
   ) else (
     bno (hZ v41 a1) fun x91 =>
     some (⟨v38,v39,v71,x91⟩:aL)
   )
def dW (a1:Int) (x2:aN) (x3:(List Int)) (v11:Int):Nat → Int → Int → Int → (List aN) → (List Int) → Option aL
 | 0,_,_,_,_,_=>none
 | n1 + 1,v37,v38,v39,v40,v41 =>
   bnd (decide (v37 < (x3.length:Int))) fun x52 =>
   bif x52 then (
    bno (gix x3 v37) fun x54 =>
    bno (bI (⟨v38,v39,v40,v41⟩:aL) x54) fun x55 =>
    bno (gix v40 x55) fun x56 =>
    bnd (IntKind.wrap .i64 (x2.Weight * x56.Weight)) fun x57 =>
    bno (quoI .i64 x57 v11) fun x58 =>
    bnd (max 1 x58) fun x59 =>
    bno (dK (⟨v38,v39,v40,v41⟩:aL) (⟨x56.ID,x2.Parent,x59,x56.Closed⟩:aN)) fun x60 =>
    bnd (IntKind.wrap .i64 (v37 + 1)) fun x61 =>
    (dW a1 x2 x3 v11 n1) x61 x60.Room x60.Keep x60.L x60.Closed
   ) else (
     dV a1 v38 v39 v40 v41 fuel ([]:(List aN)) 0
   )
def eO (a0:aL) (a1:Int) (x2:aN) (x3:(List Int)):Nat → Int → Int → Option aL
 | 0,_,_=>none
 | n0 + 1,v11,v12 =>
   bnd (decide (v12 < (x3.length:Int))) fun x20 =>
   bif x20 then (
    bno (gix x3 v12) fun x22 =>
    bno (bI a0 x22) fun x23 =>
    bno (gix a0.L x23) fun x24 =>
    bnd (IntKind.wrap .i64 (v11 + x24.Weight)) fun x25 =>
    bnd (IntKind.wrap .i64 (v12 + 1)) fun x26 =>
    (eO a0 a1 x2 x3 n0) x25 x26
   ) else (
     dW a1 x2 x3 v11 fuel 0 a0.Room a0.Keep a0.L a0.Closed
   )
def eM (a0:aL) (a1:Int):Option aL :=
 bno (bI a0 a1) fun x1 =>
 bno (gix a0.L x1) fun x2 =>
 bno (eZ a0 a1) fun x3 =>
 eO a0 a1 x2 x3 fuel 0 0

def dU (a1:Int) (v6:Int) (v7:Int) (v8:Bool) (x10:aN) (x22:(List Int)):Nat → Int → Int → Int → (List aN) → (List Int) → Option aL
 | 0,_,_,_,_,_=>none
 | n2 + 1,v31,v32,v33,v34,v35 =>
   bnd (decide (v31 < (x22.length:Int))) fun x44 =>
   bnd (x44 && v8) fun x45 =>
   bif x45 then (
    bno (gix x22 v31) fun x47 =>
    bno (bI (⟨v32,v33,v34,v35⟩:aL) x47) fun x48 =>
    bno (gix v34 x48) fun x49 =>
    bno (dK (⟨v32,v33,v34,v35⟩:aL) (⟨x49.ID,a1,x49.Weight,x49.Closed⟩:aN)) fun x50 =>
    bnd (IntKind.wrap .i64 (v31 + 1)) fun x51 =>
    (dU a1 v6 v7 v8 x10 x22 n2) x51 x50.Room x50.Keep x50.L x50.Closed
   ) else (
     bno (dK (⟨v32,v33,v34,v35⟩:aL) (⟨x10.ID,v6,v7,x10.Closed⟩:aN)) fun x52 =>
     some x52
   )
def gA (a1:Int) (v6:Int) (v7:Int) (v8:Bool) (x10:aN) (v17:Int) (v18:Int) (v19:(List aN)) (v20:(List Int)):Option aL :=
 bno (eZ (⟨v17,v18,v19,v20⟩:aL) v6) fun x21 =>
 bno (hZ x21 a1) fun x22 =>
 dU a1 v6 v7 v8 x10 x22 fuel 0 v17 v18 v19 v20
def gB (a0:aL) (a1:Int) (v6:Int) (v7:Int) (v8:Bool):Option aL :=
 bno (bI a0 a1) fun x9 =>
 bno (gix a0.L x9) fun x10 =>
 bno (dZ a0 v6) fun x53 =>
 bno (jW x53 a1) fun x54 =>
 bif x54 then (
  bno (bI a0 v6) fun x56 =>
  bno (gix a0.L x56) fun x57 =>
  bno (dK a0 (⟨x57.ID,x10.Parent,x57.Weight,x57.Closed⟩:aN)) fun x58 =>
  gA a1 v6 v7 v8 x10 x58.Room x58.Keep x58.L x58.Closed
 ) else (
   gA a1 v6 v7 v8 x10 a0.Room a0.Keep a0.L a0.Closed
 )
def dR (a0:aL) (a1:Int) (a2:Int) (a3:Int) (a4:Bool):Option aL :=
 bnd (!decide (a2=0)) fun x59 =>
 bno (gd (x59 == true) (bI a0 a2) default) fun x60 =>
 bnd (decide (x60 < 0)) fun x61 =>
 bnd (x59 && x61) fun x62 =>
 bif x62 then (
  gB a0 a1 0 16 false
 ) else (
   gB a0 a1 a2 a3 a4
 )

def dQ (a1:Int) (a2:Int) (a3:Int) (a4:Bool) (v15:Int) (v16:Int) (v17:(List aN)) (v18:(List Int)):Nat → Int → Option (aL × Int)
 | 0,_=>none
 | n1 + 1,v25 =>
   bnd (decide (v25 < (v17.length:Int))) fun x32 =>
   bno (gd (x32 == true) (gix v17 v25) default) fun x33 =>
   bnd (decide (x33.ID < a1)) fun x34 =>
   bnd (x32 && x34) fun x35 =>
   bif x35 then (
    bnd (IntKind.wrap .i64 (v25 + 1)) fun x37 =>
    (dQ a1 a2 a3 a4 v15 v16 v17 v18 n1) x37
   ) else (
     bno (cut v17 0 v25) fun x38 =>
     bno (app 32 ([]:(List aN)) x38) fun x39 =>
     bno (app 32 x39 (([(⟨a1,(-1),16,false⟩:aN)]:(List aN)))) fun x40 =>
     bno (cut v17 v25 (v17.length:Int)) fun x41 =>
     bno (app 32 x40 x41) fun x42 =>
     bno (dR (⟨v15,v16,x42,v18⟩:aL) a1 a2 a3 a4) fun x43 =>
     some (x43,0)
   )
def fE (a1:Int) (a2:Int) (a3:Int) (a4:Bool) (v15:Int) (v16:Int) (v17:(List aN)) (v18:(List Int)):Option (aL × Int) :=
 dQ a1 a2 a3 a4 v15 v16 v17 v18 fuel 0
def fF (a0:aL) (a1:Int) (a2:Int) (a3:Int) (a4:Bool):Option (aL × Int) :=
 bno (iX a1 a2 a3) fun x1 =>
 bnd (!decide (x1=0)) fun x2 =>
 bif x2 then (
  some (a0,x1)
 ) else (
   bno (bI a0 a1) fun x4 =>
   bnd (decide (0 ≤ x4)) fun x5 =>
   bif x5 then (
    some (a0,13)
   ) else (
     bnd (decide (a0.Room ≤ (a0.L.length:Int))) fun x7 =>
     bnd (decide ((a0.Closed.length:Int)=0)) fun x8 =>
     bnd (x7 && x8) fun x9 =>
     bif x9 then (
      some (a0,7)
     ) else (
       bnd (decide (a0.Room ≤ (a0.L.length:Int))) fun x44 =>
       bif x44 then (
        bno (gix a0.Closed 0) fun x46 =>
        bno (eM a0 x46) fun x47 =>
        fE a1 a2 a3 a4 x47.Room x47.Keep x47.L x47.Closed
       ) else (
         fE a1 a2 a3 a4 a0.Room a0.Keep a0.L a0.Closed
       )
     )
   )
 )

def gP (a0:aL) (a1:Int) (a2:Int) (a3:Int) (a4:Bool):Option (aL × Int) :=
 bno (iX a1 a2 a3) fun x1 =>
 bnd (!decide (x1=0)) fun x2 =>
 bif x2 then (
  some (a0,x1)
 ) else (
   bno (bI a0 a1) fun x4 =>
   bnd (decide (x4 < 0)) fun x5 =>
   bif x5 then (
    bno (fF a0 a1 a2 a3 a4) fun x7 =>
    some (x7.1,x7.2)
   ) else (
     bno (dR a0 a1 a2 a3 a4) fun x8 =>
     some (x8,0)
   )
 )

def hG (a0:aL) (a1:Int):Option (aL × Int) :=
 bno (bI a0 a1) fun x1 =>
 bnd (decide (x1 < 0)) fun x2 =>
 bif x2 then (
  some (a0,6)
 ) else (
   bno (gix a0.L x1) fun x4 =>
   bif x4.Closed then (
    some (a0,9)
   ) else (
     bno (dK a0 (⟨x4.ID,x4.Parent,x4.Weight,true⟩:aN)) fun x6 =>
     bno (app 8 ([]:(List Int)) x6.Closed) fun x7 =>
     bno (app 8 x7 ([a1]:(List Int))) fun x8 =>
     bnd (decide (x6.Keep < (x8.length:Int))) fun x9 =>
     bif x9 then (
      bno (gix x8 0) fun x11 =>
      bno (eM (⟨x6.Room,x6.Keep,x6.L,x8⟩:aL) x11) fun x12 =>
      some (x12,0)
     ) else (
       some ((⟨x6.Room,x6.Keep,x6.L,x8⟩:aL),0)
     )
   )
 )

def gV (a0:aL) (a1:Int):Option (aL × Int) :=
 bno (bI a0 a1) fun x1 =>
 bnd (decide (x1 < 0)) fun x2 =>
 bif x2 then (
  some (a0,6)
 ) else (
   bno (eM a0 a1) fun x4 =>
   some (x4,0)
 )

def fJ (a0:(List aN)):Nat → (List aN) → Int → Option (List aN)
 | 0,_,_=>none
 | n0 + 1,v6,v7 =>
   bnd (decide (v7 < (a0.length:Int))) fun x13 =>
   bif x13 then (
    bno (gix a0 v7) fun x15 =>
    bno (app 32 v6 ([x15]:(List aN))) fun x16 =>
    bnd (IntKind.wrap .i64 (v7 + 1)) fun x17 =>
    (fJ a0 n0) x16 x17
   ) else (
     some v6
   )
def iY (a0:(List aN)):Option (List aN) :=
 fJ a0 fuel ([]:(List aN)) 0

def eL (a0:(List aN)) (a1:(List aN)):Nat → Int → Option Bool
 | 0,_=>none
 | n0 + 1,v10 =>
   bnd (decide (v10 < (a0.length:Int))) fun x18 =>
   bif x18 then (
    bno (gix a0 v10) fun x20 =>
    bno (gix a1 v10) fun x21 =>
    bnd ((decide (x20.ID=x21.ID) && (decide (x20.Parent=x21.Parent) && (decide (x20.Weight=x21.Weight) && ((x20.Closed == x21.Closed) && true))))) fun x22 =>
    bif (!x22) then (
     some false
    ) else (
      bnd (IntKind.wrap .i64 (v10 + 1)) fun x24 =>
      (eL a0 a1 n0) x24
    )
   ) else (
     some true
   )
def fA (a0:(List aN)) (a1:(List aN)):Option Bool :=
 bnd (!decide ((a0.length:Int)=(a1.length:Int))) fun x1 =>
 bif x1 then (
  some false
 ) else (
   eL a0 a1 fuel 0
 )

end Go.Fn
open Go Go.IL
namespace Go.Fn


end Go.Fn
open Go Go.IL
namespace Go.Fn



end Go.Fn
open Go Go.IL
namespace Go.Fn
structure bT where
 Kind:Int
 ID:Int
 Dep:Int
 Weight:Int
 Only:Bool
 deriving DecidableEq,Inhabited
def bE:Enc bT:=⟨⟨fun x=>.agg [.int .u8 x.Kind,.int .i64 x.ID,.int .i64 x.Dep,.int .i64 x.Weight,.bool x.Only],5,by decide,fun _=>⟨rfl,rfl⟩⟩,fun _=>rfl⟩

structure aH where
 Live:Bool
 Value:Int
 Link:Int
 deriving DecidableEq,Inhabited
def aZ:Enc aH:=⟨⟨fun x=>.agg [.bool x.Live,.int .i64 x.Value,.int .i64 x.Link],3,by decide,fun _=>⟨rfl,rfl⟩⟩,fun _=>rfl⟩

structure bF where
 Cells:(List aH)
 Free:Int
 Used:Int
 deriving DecidableEq,Inhabited
structure aG where
 id:Int
 up:Int
 first:Int
 next:Int
 weight:Int
 closed:Bool
 deriving DecidableEq,Inhabited
def aB:Enc aG:=⟨⟨fun x=>.agg [.int .i64 x.id,.int .i64 x.up,.int .i64 x.first,.int .i64 x.next,.int .i64 x.weight,.bool x.closed],6,by decide,fun _=>⟨rfl,rfl⟩⟩,fun _=>rfl⟩

structure fX where
 dep:Int
 weight:Int
 only:Bool
 deriving DecidableEq,Inhabited
def lB (a0:Int) (a1:Int) (a2:Int):Option Bool :=
 bnd (decide (a1 ≤ a0)) fun x1 =>
 bnd (decide (a0 ≤ a2)) fun x2 =>
 bnd (x1 && x2) fun x3 =>
 some x3

def pT  : Option bF :=
 some (⟨[],(-1),0⟩:bF)

def iB (a0:fX) (a1:Int) (v6:Bool):Option Int :=
 bif v6 then (
  some 8
 ) else (
   bnd (decide (a1=a0.dep)) fun x8 =>
   bif x8 then (
    some 4
   ) else (
     some 0
   )
 )
def jP (a0:fX) (a1:Int):Option Int :=
 bno (lB a1 1 1048576) fun x10 =>
 bif (!x10) then (
  iB a0 a1 (!x10)
 ) else (
   bno (lB a0.dep 0 1048576) fun x12 =>
   bif (!x12) then (
    iB a0 a1 (!x12)
   ) else (
     bno (lB a0.weight 1 256) fun x14 =>
     iB a0 a1 (!x14)
   )
 )

def iG (a0:bF) (a1:Int):Option Bool :=
 bnd (decide ((-1) ≤ a1)) fun x1 =>
 bnd (decide (a1 < (a0.Cells.length:Int))) fun x2 =>
 bnd (x1 && x2) fun x3 =>
 some x3

def jV (a0:bF) (a1:aH):Option Bool :=
 bno (gd ((!a1.Live) == true) (iG a0 a1.Link) default) fun x1 =>
 bnd ((!a1.Live) && (!x1)) fun x2 =>
 some x2

def bP (a0:(List aH)) (a1:bF):Nat → Int → Option Int
 | 0,_=>none
 | n0 + 1,v7 =>
   bnd (decide (v7 < (a0.length:Int))) fun x14 =>
   bif x14 then (
    bno (gix a0 v7) fun x16 =>
    bno (jV a1 x16) fun x17 =>
    bif x17 then (
     some v7
    ) else (
      bnd (IntKind.wrap .i64 (v7 + 1)) fun x19 =>
      (bP a0 a1 n0) x19
    )
   ) else (
     some (-1)
   )
def dM (a0:(List aH)) (a1:bF):Option Int :=
 bP a0 a1 fuel 0

def dF (a0:(List aH)) (a1:bF):Option Bool :=
 bno (dM a0 a1) fun x1 =>
 bnd (decide (0 ≤ x1)) fun x2 =>
 some x2

def pS (a0:aH):Option Bool :=
 bif a0.Live then (
  bnd (!decide (a0.Link=0)) fun x2 =>
  some x2
 ) else (
   bnd (!decide (a0.Value=0)) fun x3 =>
   some x3
 )

def bU (a0:(List aH)):Nat → Int → Option Int
 | 0,_=>none
 | n0 + 1,v7 =>
   bnd (decide (v7 < (a0.length:Int))) fun x14 =>
   bif x14 then (
    bno (gix a0 v7) fun x16 =>
    bno (pS x16) fun x17 =>
    bif x17 then (
     some v7
    ) else (
      bnd (IntKind.wrap .i64 (v7 + 1)) fun x19 =>
      (bU a0 n0) x19
    )
   ) else (
     some (-1)
   )
def eG (a0:(List aH)):Option Int :=
 bU a0 fuel 0

def dO (a0:(List aH)):Option Bool :=
 bno (eG a0) fun x1 =>
 bnd (decide (0 ≤ x1)) fun x2 =>
 some x2

def fP (a0:bF):Nat → (List Int) → Int → Option ((List Int) × Bool)
 | 0,_,_=>none
 | n0 + 1,v9,v10 =>
   bnd (decide (v10=(-1))) fun x19 =>
   bif x19 then (
    some (v9,true)
   ) else (
     bno (gix a0.Cells v10) fun x21 =>
     bno (gd (x21.Live == false) (gU v9 v10) default) fun x22 =>
     bnd (x21.Live || x22) fun x23 =>
     bif x23 then (
      some (v9,false)
     ) else (
       bno (app 8 v9 ([v10]:(List Int))) fun x25 =>
       bno (gix a0.Cells v10) fun x26 =>
       (fP a0 n0) x25 x26.Link
     )
   )
def lG (a0:bF):Option ((List Int) × Bool) :=
 fP a0 fuel ([]:(List Int)) a0.Free

def iI (a0:bF):Nat → Int → Int → Option Int
 | 0,_,_=>none
 | n1 + 1,v17,v18 =>
   bnd (decide (v18 < (a0.Cells.length:Int))) fun x26 =>
   bif x26 then (
    bno (gix a0.Cells v18) fun x28 =>
    bif x28.Live then (
     bnd (IntKind.wrap .i64 (v17 + 1)) fun x30 =>
     bnd (IntKind.wrap .i64 (v18 + 1)) fun x31 =>
     (iI a0 n1) x30 x31
    ) else (
      bnd (IntKind.wrap .i64 (v18 + 1)) fun x32 =>
      (iI a0 n1) v17 x32
    )
   ) else (
     bno (lG a0) fun x33 =>
     bnd (!decide (v17=a0.Used)) fun x34 =>
     bnd ((!x33.2) || x34) fun x35 =>
     bnd (IntKind.wrap .i64 (v17 + (x33.1.length:Int))) fun x36 =>
     bnd (!decide (x36=(a0.Cells.length:Int))) fun x37 =>
     bnd (x35 || x37) fun x38 =>
     bif x38 then (
      some 10
     ) else (
       some 0
     )
   )
def lO (a0:bF) (v6:Bool):Option Int :=
 bif v6 then (
  some 8
 ) else (
   bno (dO a0.Cells) fun x8 =>
   bif x8 then (
    some 4
   ) else (
     iI a0 fuel 0 0
   )
 )
def lU (a0:bF):Option Int :=
 bnd (decide (64 < (a0.Cells.length:Int))) fun x1 =>
 bif x1 then (
  some 5
 ) else (
   bno (iG a0 a0.Free) fun x40 =>
   bif (!x40) then (
    lO a0 (!x40)
   ) else (
     bno (dF a0.Cells a0) fun x42 =>
     lO a0 x42
   )
 )

def iU (a0:bF):Nat → (List Int) → Int → Option (List Int)
 | 0,_,_=>none
 | n0 + 1,v11,v12 =>
   bnd (decide (v12 < (a0.Cells.length:Int))) fun x20 =>
   bif x20 then (
    bno (gix a0.Cells v12) fun x22 =>
    bif x22.Live then (
     bno (app 8 v11 ([v12]:(List Int))) fun x24 =>
     bnd (IntKind.wrap .i64 (v12 + 1)) fun x25 =>
     (iU a0 n0) x24 x25
    ) else (
      bnd (IntKind.wrap .i64 (v12 + 1)) fun x26 =>
      (iU a0 n0) v11 x26
    )
   ) else (
     some v11
   )
def nN (a0:bF):Option (List Int) :=
 bno (lU a0) fun x1 =>
 bnd (!decide (x1=0)) fun x2 =>
 bif x2 then (
  some []
 ) else (
   iU a0 fuel ([]:(List Int)) 0
 )

def fK (a0:Int) (a6:(List aG)) (x1:(List Int)):Nat → Int → Option Int
 | 0,_=>none
 | n0 + 1,v11 =>
   bnd (decide (v11 < (x1.length:Int))) fun x21 =>
   bif x21 then (
    bno (gix x1 v11) fun x23 =>
    bno (gix a6 x23) fun x24 =>
    chk (a6.length=64)<|bno (a6[(x23:Int).toNat]?) fun x26 =>
    bnd (decide (x26.id=a0)) fun x27 =>
    bif x27 then (
     some x23
    ) else (
      bnd (IntKind.wrap .i64 (v11 + 1)) fun x29 =>
      (fK a0 a6 x1 n0) x29
    )
   ) else (
     some (-1)
   )
def dD (a0:Int) (a1:Int) (a2:Int) (a3:(List aH)) (a4:Int) (a5:Int) (a6:(List aG)) (a7:Int) (a8:(List Int)):Option Int :=
 bno (nN (⟨a3,a4,a5⟩:bF)) fun x1 =>
 fK a0 a6 x1 fuel 0

def gK (a0:Int) (a1:Int) (a2:(List aH)) (a3:Int) (a4:Int) (a5:(List aG)) (a6:Int) (a7:(List Int)):Option Int :=
 some a4

def eU (a0:Int) (a1:Int) (a2:Int) (a3:(List aH)) (a4:Int) (a5:Int) (a6:(List aG)) (a7:Int) (a8:(List Int)):Nat → Nat → Option (Int × Int × (List aH) × Int × Int × (List aG) × Int × (List Int))
 | 0,_=>none
 | n0 + 1,v14 =>
   bno (a6[v14]?) fun x20 =>
   bnd (!decide (x20.next=a0)) fun x21 =>
   bif x21 then (
    bno (a6[v14]?) fun x23 =>
    bno (gix a6 x23.next) fun x24 =>
    (eU a0 a1 a2 a3 a4 a5 a6 a7 a8 n0) ((x23.next:Int).toNat)
   ) else (
     bno (gix a6 a0) fun x25 =>
     bno (a6[(a0:Int).toNat]?) fun x26 =>
     bno (a6[v14]?) fun x27 =>
     bnd (a6.set v14 (⟨x27.id,x27.up,x27.first,x26.next,x27.weight,x27.closed⟩:aG)) fun x28 =>
     some (a1,a2,a3,a4,a5,x28,a7,a8)
   )
def eT (a0:Int) (a1:Int) (a2:Int) (a3:(List aH)) (a4:Int) (a5:Int) (a6:(List aG)) (a7:Int) (a8:(List Int)):Nat → Nat → Option (Int × Int × (List aH) × Int × Int × (List aG) × Int × (List Int))
 | 0,_=>none
 | n1 + 1,v42 =>
   bno (a6[v42]?) fun x48 =>
   bnd (!decide (x48.next=a0)) fun x49 =>
   bif x49 then (
    bno (a6[v42]?) fun x51 =>
    bno (gix a6 x51.next) fun x52 =>
    (eT a0 a1 a2 a3 a4 a5 a6 a7 a8 n1) ((x51.next:Int).toNat)
   ) else (
     bno (gix a6 a0) fun x53 =>
     bno (a6[(a0:Int).toNat]?) fun x54 =>
     bno (a6[v42]?) fun x55 =>
     bnd (a6.set v42 (⟨x55.id,x55.up,x55.first,x54.next,x55.weight,x55.closed⟩:aG)) fun x56 =>
     some (a1,a2,a3,a4,a5,x56,a7,a8)
   )
def gL (a0:Int) (a1:Int) (a2:Int) (a3:(List aH)) (a4:Int) (a5:Int) (a6:(List aG)) (a7:Int) (a8:(List Int)):Option (Int × Int × (List aH) × Int × Int × (List aG) × Int × (List Int)) :=
 bno (gix a6 a0) fun x1 =>
 chk (a6.length=64)<|bno (a6[(a0:Int).toNat]?) fun x3 =>
 bnd (decide (x3.up=(-1))) fun x4 =>
 bif x4 then (
  bnd (!decide (a7=a0)) fun x6 =>
  bif x6 then (
   bno (gix a6 a7) fun x8 =>
   eU a0 a1 a2 a3 a4 a5 a6 a7 a8 fuel ((a7:Int).toNat)
  ) else (
    bno (gix a6 a0) fun x29 =>
    bno (a6[(a0:Int).toNat]?) fun x30 =>
    some (a1,a2,a3,a4,a5,a6,x30.next,a8)
  )
 ) else (
   bno (gix a6 x3.up) fun x31 =>
   bno (a6[(x3.up:Int).toNat]?) fun x32 =>
   bnd (!decide (x32.first=a0)) fun x33 =>
   bif x33 then (
    bno (a6[(x3.up:Int).toNat]?) fun x35 =>
    bno (gix a6 x35.first) fun x36 =>
    eT a0 a1 a2 a3 a4 a5 a6 a7 a8 fuel ((x35.first:Int).toNat)
   ) else (
     bno (gix a6 a0) fun x57 =>
     bno (a6[(a0:Int).toNat]?) fun x58 =>
     bno (a6[(x3.up:Int).toNat]?) fun x59 =>
     bnd (a6.set ((x3.up:Int).toNat) (⟨x59.id,x59.up,x58.next,x59.next,x59.weight,x59.closed⟩:aG)) fun x60 =>
     some (a1,a2,a3,a4,a5,x60,a7,a8)
   )
 )

def gC (a0:Int) (a1:Int) (a2:Int) (a3:Int) (a4:(List aH)) (a5:Int) (a6:Int) (a7:(List aG)) (a8:Int) (a9:(List Int)):Option (Int × Int × (List aH) × Int × Int × (List aG) × Int × (List Int)) :=
 bnd (decide (a1=(-1))) fun x1 =>
 bif x1 then (
  chk (a7.length=64)<|bno (gix a7 a0) fun x4 =>
  bno (a7[(a0:Int).toNat]?) fun x5 =>
  bnd (a7.set ((a0:Int).toNat) (⟨x5.id,a1,x5.first,x5.next,x5.weight,x5.closed⟩:aG)) fun x6 =>
  bno (gix x6 a0) fun x7 =>
  bno (x6[(a0:Int).toNat]?) fun x8 =>
  bnd (x6.set ((a0:Int).toNat) (⟨x8.id,x8.up,x8.first,a8,x8.weight,x8.closed⟩:aG)) fun x9 =>
  some (a2,a3,a4,a5,a6,x9,a0,a9)
 ) else (
   bno (gix a7 a1) fun x10 =>
   chk (a7.length=64)<|bno (a7[(a1:Int).toNat]?) fun x12 =>
   bno (gix a7 a0) fun x13 =>
   bno (a7[(a0:Int).toNat]?) fun x14 =>
   bnd (a7.set ((a0:Int).toNat) (⟨x14.id,a1,x14.first,x14.next,x14.weight,x14.closed⟩:aG)) fun x15 =>
   bno (gix x15 a0) fun x16 =>
   bno (x15[(a0:Int).toNat]?) fun x17 =>
   bnd (x15.set ((a0:Int).toNat) (⟨x17.id,x17.up,x17.first,x12.first,x17.weight,x17.closed⟩:aG)) fun x18 =>
   bno (x18[(a1:Int).toNat]?) fun x19 =>
   bnd (x18.set ((a1:Int).toNat) (⟨x19.id,x19.up,a0,x19.next,x19.weight,x19.closed⟩:aG)) fun x20 =>
   some (a2,a3,a4,a5,a6,x20,a8,a9)
 )

def eN (a0:Int) (a1:Int) (a2:Int) (a3:Int) (a4:(List aH)) (a5:Int) (a6:Int) (a7:(List aG)) (a8:Int) (a9:(List Int)):Option (Int × Int × (List aH) × Int × Int × (List aG) × Int × (List Int)) :=
 bno (gL a0 a2 a3 a4 a5 a6 a7 a8 a9) fun x1 =>
 bno (gC a0 a1 x1.1 x1.2.1 x1.2.2.1 x1.2.2.2.1 x1.2.2.2.2.1 x1.2.2.2.2.2.1 x1.2.2.2.2.2.2.1 x1.2.2.2.2.2.2.2) fun x2 =>
 some (x2.1,x2.2.1,x2.2.2.1,x2.2.2.2.1,x2.2.2.2.2.1,x2.2.2.2.2.2.1,x2.2.2.2.2.2.2.1,x2.2.2.2.2.2.2.2)

def dY (a0:(List aH)):Option (List aH) :=
 yY a0 (
  some ([]:(List aH))
 ) (
   bno (app 24 ([]:(List aH)) a0) fun x3 =>
   some x3
 )

def jE (a0:bF):Option ((List aH) × Int × Int) :=
 bno (dY a0.Cells) fun x1 =>
 some (x1,a0.Free,a0.Used)

def kO (a0:bF) (a1:Int):Option Bool :=
 bnd (decide (0 ≤ a1)) fun x1 =>
 bnd (decide (a1 < (a0.Cells.length:Int))) fun x2 =>
 bnd (x1 && x2) fun x3 =>
 bno (gd (x3 == true) (gix a0.Cells a1) default) fun x4 =>
 bnd (x3 && x4.Live) fun x5 =>
 some x5

def mP (a0:bF) (a1:Int):Option (bF × Int) :=
 bno (jE a0) fun x1 =>
 bno (lU a0) fun x2 =>
 bnd (!decide (x2=0)) fun x3 =>
 bif x3 then (
  some ((⟨x1.1,x1.2.1,x1.2.2⟩:bF),x2)
 ) else (
   bno (kO a0 a1) fun x5 =>
   bif (!x5) then (
    some ((⟨x1.1,x1.2.1,x1.2.2⟩:bF),6)
   ) else (
     bno (gix x1.1 a1) fun x7 =>
     bno (x1.1[(a1:Int).toNat]?) fun x8 =>
     bnd (x1.1.set ((a1:Int).toNat) (⟨false,0,x1.2.1⟩:aH)) fun x9 =>
     bnd (IntKind.wrap .i64 (x1.2.2 - 1)) fun x10 =>
     some ((⟨x9,a1,x10⟩:bF),0)
   )
 )

def kN (a0:Int) (a1:Int):Option Bool :=
 bnd (decide (a0=a1)) fun x1 =>
 some x1

def dG (a0:(List Int)) (a1:Int):Nat → Int → Option Int
 | 0,_=>none
 | n0 + 1,v7 =>
   bnd (decide (v7 < (a0.length:Int))) fun x14 =>
   bif x14 then (
    bno (gix a0 v7) fun x16 =>
    bno (kN x16 a1) fun x17 =>
    bif x17 then (
     some v7
    ) else (
      bnd (IntKind.wrap .i64 (v7 + 1)) fun x19 =>
      (dG a0 a1 n0) x19
    )
   ) else (
     some (-1)
   )
def gZ (a0:(List Int)) (a1:Int):Option Int :=
 dG a0 a1 fuel 0

def cL (a1:Int):Nat → (List Int) → Int → Int → Option (List Int)
 | 0,_,_,_=>none
 | n0 + 1,v17,v18,v19 =>
   bnd (decide (v19 < (v17.length:Int))) fun x32 =>
   bif x32 then (
    bno (gix v17 v19) fun x34 =>
    bno (v17[(v19:Int).toNat]?) fun x35 =>
    bno (kN x35 a1) fun x36 =>
    bif (!x36) then (
     bno (gix v17 v18) fun x38 =>
     bno (v17[(v18:Int).toNat]?) fun x39 =>
     bnd (v17.set ((v18:Int).toNat) x35) fun x40 =>
     bnd (IntKind.wrap .i64 (v18 + 1)) fun x41 =>
     bnd (IntKind.wrap .i64 (v19 + 1)) fun x42 =>
     (cL a1 n0) x40 x41 x42
    ) else (
      bnd (IntKind.wrap .i64 (v19 + 1)) fun x43 =>
      (cL a1 n0) v17 v18 x43
    )
   ) else (
     bno (cut v17 0 v18) fun x44 =>
     bno (cut x44 0 v18) fun x45 =>
     some x45
   )
def dH (a0:(List Int)) (a1:Int):Option (List Int) :=
 bno (gZ a0 a1) fun x1 =>
 bnd (decide (x1=(-1))) fun x2 =>
 bif x2 then (
  some a0
 ) else (
   bnd (IntKind.wrap .i64 (x1 + 1)) fun x4 =>
   cL a1 fuel a0 x1 x4
 )

def jI (a0:Int) (v53:Int) (v63:(List Int)):Nat → Int → Int → Int → (List aH) → Int → Int → (List aG) → Int → (List Int) → Option (Int × Int × (List aH) × Int × Int × (List aG) × Int × (List Int))
 | 0,_,_,_,_,_,_,_,_,_=>none
 | n4 + 1,v92,v93,v94,v95,v96,v97,v98,v99,v100 =>
   bnd (decide (v92 < (v63.length:Int))) fun x120 =>
   bif x120 then (
    bno (gix v63 v92) fun x122 =>
    bno (v63[(v92:Int).toNat]?) fun x123 =>
    bno (gix v98 a0) fun x124 =>
    chk (v98.length=64)<|bno (v98[(a0:Int).toNat]?) fun x126 =>
    bno (gix v98 x123) fun x127 =>
    bno (v98[(x123:Int).toNat]?) fun x128 =>
    bnd (IntKind.wrap .i64 (x126.weight * x128.weight)) fun x129 =>
    bno (quoI .i64 x129 v53) fun x130 =>
    bnd (max x130 1) fun x131 =>
    bno (gix v98 x123) fun x132 =>
    bno (v98[(x123:Int).toNat]?) fun x133 =>
    bnd (v98.set ((x123:Int).toNat) (⟨x133.id,x133.up,x133.first,x133.next,x131,x133.closed⟩:aG)) fun x134 =>
    bno (gix x134 a0) fun x135 =>
    bno (x134[(a0:Int).toNat]?) fun x136 =>
    bno (eN x123 x136.up v93 v94 v95 v96 v97 x134 v99 v100) fun x137 =>
    bnd (IntKind.wrap .i64 (v92 + 1)) fun x138 =>
    (jI a0 v53 v63 n4) x138 x137.1 x137.2.1 x137.2.2.1 x137.2.2.2.1 x137.2.2.2.2.1 x137.2.2.2.2.2.1 x137.2.2.2.2.2.2.1 x137.2.2.2.2.2.2.2
   ) else (
     bno (gL a0 v93 v94 v95 v96 v97 v98 v99 v100) fun x139 =>
     bno (mP (⟨x139.2.2.1,x139.2.2.2.1,x139.2.2.2.2.1⟩:bF) a0) fun x140 =>
     chk (x139.2.2.2.2.2.1.length=64)<|bno (dH x139.2.2.2.2.2.2.2 a0) fun x142 =>
     some (x139.1,x139.2.1,x140.1.Cells,x140.1.Free,x140.1.Used,x139.2.2.2.2.2.1,x139.2.2.2.2.2.2.1,x142)
   )
def jJ (a0:Int) (a1:Int) (a2:Int) (a3:(List aH)) (a4:Int) (a5:Int) (a6:(List aG)) (a7:Int) (a8:(List Int)) (v53:Int):Nat → Int → (List Int) → Option (Int × Int × (List aH) × Int × Int × (List aG) × Int × (List Int))
 | 0,_,_=>none
 | n3 + 1,v62,v63 =>
   bnd (!decide (v62=(-1))) fun x69 =>
   bif x69 then (
    bno (gix a6 v62) fun x71 =>
    bno (a6[(v62:Int).toNat]?) fun x72 =>
    bno (app 8 v63 ([v62]:(List Int))) fun x73 =>
    (jJ a0 a1 a2 a3 a4 a5 a6 a7 a8 v53 n3) x72.next x73
   ) else (
     jI a0 v53 v63 fuel 0 a1 a2 a3 a4 a5 a6 a7 a8
   )
def dB (a0:Int) (v53:Int) (v152:(List Int)):Nat → Int → Int → Int → (List aH) → Int → Int → (List aG) → Int → (List Int) → Option (Int × Int × (List aH) × Int × Int × (List aG) × Int × (List Int))
 | 0,_,_,_,_,_,_,_,_,_=>none
 | n6 + 1,v181,v182,v183,v184,v185,v186,v187,v188,v189 =>
   bnd (decide (v181 < (v152.length:Int))) fun x209 =>
   bif x209 then (
    bno (gix v152 v181) fun x211 =>
    bno (v152[(v181:Int).toNat]?) fun x212 =>
    bno (gix v187 a0) fun x213 =>
    chk (v187.length=64)<|bno (v187[(a0:Int).toNat]?) fun x215 =>
    bno (gix v187 x212) fun x216 =>
    bno (v187[(x212:Int).toNat]?) fun x217 =>
    bnd (IntKind.wrap .i64 (x215.weight * x217.weight)) fun x218 =>
    bno (quoI .i64 x218 v53) fun x219 =>
    bnd (max x219 1) fun x220 =>
    bno (gix v187 x212) fun x221 =>
    bno (v187[(x212:Int).toNat]?) fun x222 =>
    bnd (v187.set ((x212:Int).toNat) (⟨x222.id,x222.up,x222.first,x222.next,x220,x222.closed⟩:aG)) fun x223 =>
    bno (gix x223 a0) fun x224 =>
    bno (x223[(a0:Int).toNat]?) fun x225 =>
    bno (eN x212 x225.up v182 v183 v184 v185 v186 x223 v188 v189) fun x226 =>
    bnd (IntKind.wrap .i64 (v181 + 1)) fun x227 =>
    (dB a0 v53 v152 n6) x227 x226.1 x226.2.1 x226.2.2.1 x226.2.2.2.1 x226.2.2.2.2.1 x226.2.2.2.2.2.1 x226.2.2.2.2.2.2.1 x226.2.2.2.2.2.2.2
   ) else (
     bno (gL a0 v182 v183 v184 v185 v186 v187 v188 v189) fun x228 =>
     bno (mP (⟨x228.2.2.1,x228.2.2.2.1,x228.2.2.2.2.1⟩:bF) a0) fun x229 =>
     chk (x228.2.2.2.2.2.1.length=64)<|bno (dH x228.2.2.2.2.2.2.2 a0) fun x231 =>
     some (x228.1,x228.2.1,x229.1.Cells,x229.1.Free,x229.1.Used,x228.2.2.2.2.2.1,x228.2.2.2.2.2.2.1,x231)
   )
def fU (a0:Int) (a1:Int) (a2:Int) (a3:(List aH)) (a4:Int) (a5:Int) (a6:(List aG)) (a7:Int) (a8:(List Int)) (v53:Int):Nat → Int → (List Int) → Option (Int × Int × (List aH) × Int × Int × (List aG) × Int × (List Int))
 | 0,_,_=>none
 | n5 + 1,v151,v152 =>
   bnd (!decide (v151=(-1))) fun x158 =>
   bif x158 then (
    bno (gix a6 v151) fun x160 =>
    bno (a6[(v151:Int).toNat]?) fun x161 =>
    bno (app 8 v152 ([v151]:(List Int))) fun x162 =>
    (fU a0 a1 a2 a3 a4 a5 a6 a7 a8 v53 n5) x161.next x162
   ) else (
     dB a0 v53 v152 fuel 0 a1 a2 a3 a4 a5 a6 a7 a8
   )
def iC (a0:Int) (a1:Int) (a2:Int) (a3:(List aH)) (a4:Int) (a5:Int) (a6:(List aG)) (a7:Int) (a8:(List Int)) (v53:Int):Option (Int × Int × (List aH) × Int × Int × (List aG) × Int × (List Int)) :=
 bnd (decide (a0=(-1))) fun x54 =>
 bif x54 then (
  chk (a6.length=64)<|jJ a0 a1 a2 a3 a4 a5 a6 a7 a8 v53 fuel a7 ([]:(List Int))
 ) else (
   bno (gix a6 a0) fun x143 =>
   chk (a6.length=64)<|bno (a6[(a0:Int).toNat]?) fun x145 =>
   fU a0 a1 a2 a3 a4 a5 a6 a7 a8 v53 fuel x145.first ([]:(List Int))
 )
def jH (a0:Int) (a1:Int) (a2:Int) (a3:(List aH)) (a4:Int) (a5:Int) (a6:(List aG)) (a7:Int) (a8:(List Int)):Nat → Int → Int → Option (Int × Int × (List aH) × Int × Int × (List aG) × Int × (List Int))
 | 0,_,_=>none
 | n7 + 1,v242,v243 =>
   bnd (!decide (v242=(-1))) fun x251 =>
   bif x251 then (
    bno (gix a6 v242) fun x253 =>
    bno (a6[(v242:Int).toNat]?) fun x254 =>
    bno (gix a6 v242) fun x255 =>
    bno (a6[(v242:Int).toNat]?) fun x256 =>
    bnd (IntKind.wrap .i64 (v243 + x256.weight)) fun x257 =>
    (jH a0 a1 a2 a3 a4 a5 a6 a7 a8 n7) x254.next x257
   ) else (
     iC a0 a1 a2 a3 a4 a5 a6 a7 a8 v243
   )
def fT (a0:Int) (a1:Int) (a2:Int) (a3:(List aH)) (a4:Int) (a5:Int) (a6:(List aG)) (a7:Int) (a8:(List Int)):Nat → Int → Int → Option (Int × Int × (List aH) × Int × Int × (List aG) × Int × (List Int))
 | 0,_,_=>none
 | n8 + 1,v268,v269 =>
   bnd (!decide (v268=(-1))) fun x277 =>
   bif x277 then (
    bno (gix a6 v268) fun x279 =>
    bno (a6[(v268:Int).toNat]?) fun x280 =>
    bno (gix a6 v268) fun x281 =>
    bno (a6[(v268:Int).toNat]?) fun x282 =>
    bnd (IntKind.wrap .i64 (v269 + x282.weight)) fun x283 =>
    (fT a0 a1 a2 a3 a4 a5 a6 a7 a8 n8) x280.next x283
   ) else (
     iC a0 a1 a2 a3 a4 a5 a6 a7 a8 v269
   )
def fI (a0:Int) (a1:Int) (a2:Int) (a3:(List aH)) (a4:Int) (a5:Int) (a6:(List aG)) (a7:Int) (a8:(List Int)):Option (Int × Int × (List aH) × Int × Int × (List aG) × Int × (List Int)) :=
 bnd (decide (a0=(-1))) fun x232 =>
 bif x232 then (
  chk (a6.length=64)<|jH a0 a1 a2 a3 a4 a5 a6 a7 a8 fuel a7 0
 ) else (
   bno (gix a6 a0) fun x258 =>
   chk (a6.length=64)<|bno (a6[(a0:Int).toNat]?) fun x260 =>
   fT a0 a1 a2 a3 a4 a5 a6 a7 a8 fuel x260.first 0
 )

def mO (a0:bF) (a1:Int):Option (bF × Int × Int) :=
 bno (jE a0) fun x1 =>
 bno (lU a0) fun x2 =>
 bnd (!decide (x2=0)) fun x3 =>
 bif x3 then (
  some ((⟨x1.1,x1.2.1,x1.2.2⟩:bF),0,x2)
 ) else (
   bnd (decide (64 ≤ a0.Used)) fun x5 =>
   bif x5 then (
    some ((⟨x1.1,x1.2.1,x1.2.2⟩:bF),0,7)
   ) else (
     bnd (IntKind.wrap .i64 (x1.2.2 + 1)) fun x7 =>
     bnd (decide (x1.2.1=(-1))) fun x8 =>
     bif x8 then (
      bno (app 24 x1.1 (([(⟨true,a1,0⟩:aH)]:(List aH)))) fun x10 =>
      some (((⟨x10,x1.2.1,x7⟩:bF),(a0.Cells.length:Int),0))
     ) else (
       bno (gix x1.1 x1.2.1) fun x11 =>
       bno (x1.1[(x1.2.1:Int).toNat]?) fun x12 =>
       bno (gix x1.1 x1.2.1) fun x13 =>
       bno (x1.1[(x1.2.1:Int).toNat]?) fun x14 =>
       bnd (x1.1.set ((x1.2.1:Int).toNat) (⟨true,a1,0⟩:aH)) fun x15 =>
       some ((⟨x15,x12.Link,x7⟩:bF),x1.2.1,0)
     )
   )
 )

def eQ (a1:Int) (a7:(List aG)):Nat → Int → Option Bool
 | 0,_=>none
 | n0 + 1,v8 =>
   bnd (!decide (v8=(-1))) fun x16 =>
   bif x16 then (
    bno (gix a7 v8) fun x18 =>
    chk (a7.length=64)<|bno (a7[(v8:Int).toNat]?) fun x20 =>
    bnd (decide (x20.up=a1)) fun x21 =>
    bif x21 then (
     some true
    ) else (
      (eQ a1 a7 n0) x20.up
    )
   ) else (
     some false
   )
def jQ (a0:Int) (a1:Int) (a2:Int) (a3:Int) (a4:(List aH)) (a5:Int) (a6:Int) (a7:(List aG)) (a8:Int) (a9:(List Int)):Option Bool :=
 eQ a1 a7 fuel a0

def eD (a0:Int) (v39:(List Int)):Nat → Int → Int → Int → (List aH) → Int → Int → (List aG) → Int → (List Int) → Option (Int × Int × (List aH) × Int × Int × (List aG) × Int × (List Int))
 | 0,_,_,_,_,_,_,_,_,_=>none
 | n3 + 1,v59,v60,v61,v62,v63,v64,v65,v66,v67 =>
   bnd (decide (v59 < (v39.length:Int))) fun x77 =>
   bif x77 then (
    bno (gix v39 v59) fun x79 =>
    bno (v39[(v59:Int).toNat]?) fun x80 =>
    bnd (!decide (x80=a0)) fun x81 =>
    bif x81 then (
     bno (eN x80 a0 v60 v61 v62 v63 v64 v65 v66 v67) fun x83 =>
     bnd (IntKind.wrap .i64 (v59 + 1)) fun x84 =>
     (eD a0 v39 n3) x84 x83.1 x83.2.1 x83.2.2.1 x83.2.2.2.1 x83.2.2.2.2.1 x83.2.2.2.2.2.1 x83.2.2.2.2.2.2.1 x83.2.2.2.2.2.2.2
    ) else (
      bnd (IntKind.wrap .i64 (v59 + 1)) fun x85 =>
      (eD a0 v39 n3) x85 v60 v61 v62 v63 v64 v65 v66 v67
    )
   ) else (
     some (v60,v61,v62,v63,v64,v65,v66,v67)
   )
def fC (a0:Int) (x25:(Int × Int × (List aH) × Int × Int × (List aG) × Int × (List Int))) (x29:(List aG)):Nat → Int → (List Int) → Option (Int × Int × (List aH) × Int × Int × (List aG) × Int × (List Int))
 | 0,_,_=>none
 | n2 + 1,v38,v39 =>
   bnd (!decide (v38=(-1))) fun x45 =>
   bif x45 then (
    bno (gix x29 v38) fun x47 =>
    bno (x29[(v38:Int).toNat]?) fun x48 =>
    bno (app 8 v39 ([v38]:(List Int))) fun x49 =>
    (fC a0 x25 x29 n2) x48.next x49
   ) else (
     eD a0 v39 fuel 0 x25.1 x25.2.1 x25.2.2.1 x25.2.2.2.1 x25.2.2.2.2.1 x29 x25.2.2.2.2.2.2.1 x25.2.2.2.2.2.2.2
   )
def eC (a0:Int) (v94:(List Int)):Nat → Int → Int → Int → (List aH) → Int → Int → (List aG) → Int → (List Int) → Option (Int × Int × (List aH) × Int × Int × (List aG) × Int × (List Int))
 | 0,_,_,_,_,_,_,_,_,_=>none
 | n5 + 1,v114,v115,v116,v117,v118,v119,v120,v121,v122 =>
   bnd (decide (v114 < (v94.length:Int))) fun x132 =>
   bif x132 then (
    bno (gix v94 v114) fun x134 =>
    bno (v94[(v114:Int).toNat]?) fun x135 =>
    bnd (!decide (x135=a0)) fun x136 =>
    bif x136 then (
     bno (eN x135 a0 v115 v116 v117 v118 v119 v120 v121 v122) fun x138 =>
     bnd (IntKind.wrap .i64 (v114 + 1)) fun x139 =>
     (eC a0 v94 n5) x139 x138.1 x138.2.1 x138.2.2.1 x138.2.2.2.1 x138.2.2.2.2.1 x138.2.2.2.2.2.1 x138.2.2.2.2.2.2.1 x138.2.2.2.2.2.2.2
    ) else (
      bnd (IntKind.wrap .i64 (v114 + 1)) fun x140 =>
      (eC a0 v94 n5) x140 v115 v116 v117 v118 v119 v120 v121 v122
    )
   ) else (
     some (v115,v116,v117,v118,v119,v120,v121,v122)
   )
def fB (a0:Int) (x25:(Int × Int × (List aH) × Int × Int × (List aG) × Int × (List Int))) (x29:(List aG)):Nat → Int → (List Int) → Option (Int × Int × (List aH) × Int × Int × (List aG) × Int × (List Int))
 | 0,_,_=>none
 | n4 + 1,v93,v94 =>
   bnd (!decide (v93=(-1))) fun x100 =>
   bif x100 then (
    bno (gix x29 v93) fun x102 =>
    bno (x29[(v93:Int).toNat]?) fun x103 =>
    bno (app 8 v94 ([v93]:(List Int))) fun x104 =>
    (fB a0 x25 x29 n4) x103.next x104
   ) else (
     eC a0 v94 fuel 0 x25.1 x25.2.1 x25.2.2.1 x25.2.2.2.1 x25.2.2.2.2.1 x29 x25.2.2.2.2.2.2.1 x25.2.2.2.2.2.2.2
   )
def gR (a0:Int) (x1:Int) (v7:Int) (v8:Bool) (v17:Int) (v18:Int) (v19:(List aH)) (v20:Int) (v21:Int) (v22:(List aG)) (v23:Int) (v24:(List Int)):Option (Int × Int × (List aH) × Int × Int × (List aG) × Int × (List Int)) :=
 bno (eN a0 x1 v17 v18 v19 v20 v21 v22 v23 v24) fun x25 =>
 bno (gix x25.2.2.2.2.2.1 a0) fun x26 =>
 chk (x25.2.2.2.2.2.1.length=64)<|bno (x25.2.2.2.2.2.1[(a0:Int).toNat]?) fun x28 =>
 bnd (x25.2.2.2.2.2.1.set ((a0:Int).toNat) (⟨x28.id,x28.up,x28.first,x28.next,v7,x28.closed⟩:aG)) fun x29 =>
 bif (!v8) then (
  some (x25.1,x25.2.1,x25.2.2.1,x25.2.2.2.1,x25.2.2.2.2.1,x29,x25.2.2.2.2.2.2.1,x25.2.2.2.2.2.2.2)
 ) else (
   bnd (decide (x1=(-1))) fun x31 =>
   bif x31 then (
    fC a0 x25 x29 fuel x25.2.2.2.2.2.2.1 ([]:(List Int))
   ) else (
     bno (gix x29 x1) fun x86 =>
     bno (x29[(x1:Int).toNat]?) fun x87 =>
     fB a0 x25 x29 fuel x87.first ([]:(List Int))
   )
 )
def gS (a0:Int) (a2:Int) (a3:Int) (a4:(List aH)) (a5:Int) (a6:Int) (a7:(List aG)) (a8:Int) (a9:(List Int)) (x1:Int) (v6:Int) (v7:Int) (v8:Bool):Option (Int × Int × (List aH) × Int × Int × (List aG) × Int × (List Int)) :=
 bnd (!decide (x1=(-1))) fun x141 =>
 bno (gd (x141 == true) (jQ x1 a0 a2 a3 a4 a5 a6 a7 a8 a9) default) fun x142 =>
 bnd (x141 && x142) fun x143 =>
 bif x143 then (
  bno (gix a7 a0) fun x145 =>
  chk (a7.length=64)<|bno (a7[(a0:Int).toNat]?) fun x147 =>
  bno (eN x1 x147.up a2 a3 a4 a5 a6 a7 a8 a9) fun x148 =>
  gR a0 x1 v7 v8 x148.1 x148.2.1 x148.2.2.1 x148.2.2.2.1 x148.2.2.2.2.1 x148.2.2.2.2.2.1 x148.2.2.2.2.2.2.1 x148.2.2.2.2.2.2.2
 ) else (
   gR a0 x1 v7 v8 a2 a3 a4 a5 a6 a7 a8 a9
 )
def gF (a0:Int) (a1:fX) (a2:Int) (a3:Int) (a4:(List aH)) (a5:Int) (a6:Int) (a7:(List aG)) (a8:Int) (a9:(List Int)):Option (Int × Int × (List aH) × Int × Int × (List aG) × Int × (List Int)) :=
 bno (dD a1.dep a2 a3 a4 a5 a6 a7 a8 a9) fun x1 =>
 bnd (decide (x1=(-1))) fun x149 =>
 bnd (!decide (a1.dep=0)) fun x150 =>
 bnd (x149 && x150) fun x151 =>
 bif x151 then (
  gS a0 a2 a3 a4 a5 a6 a7 a8 a9 x1 0 16 false
 ) else (
   gS a0 a2 a3 a4 a5 a6 a7 a8 a9 x1 a1.dep a1.weight a1.only
 )

def fQ (a0:Int) (a1:fX) (v10:Int) (v11:Int) (v12:(List aH)) (v13:Int) (v14:Int) (v15:(List aG)) (v16:Int) (v17:(List Int)):Option (Int × Int × Int × (List aH) × Int × Int × (List aG) × Int × (List Int)) :=
 bno (mO (⟨v12,v13,v14⟩:bF) a0) fun x18 =>
 bnd (!decide (x18.2.2=0)) fun x19 =>
 bif x19 then (
  some (x18.2.2,v10,v11,v12,v13,v14,v15,v16,v17)
 ) else (
   bno (gix v15 x18.2.1) fun x21 =>
   chk (v15.length=64)<|bno (v15[(x18.2.1:Int).toNat]?) fun x23 =>
   bnd (v15.set ((x18.2.1:Int).toNat) (⟨a0,0,(-1),(-1),16,false⟩:aG)) fun x24 =>
   bno (gC x18.2.1 (-1) v10 v11 x18.1.Cells x18.1.Free x18.1.Used x24 v16 v17) fun x25 =>
   bno (gF x18.2.1 a1 x25.1 x25.2.1 x25.2.2.1 x25.2.2.2.1 x25.2.2.2.2.1 x25.2.2.2.2.2.1 x25.2.2.2.2.2.2.1 x25.2.2.2.2.2.2.2) fun x26 =>
   some (0,x26.1,x26.2.1,x26.2.2.1,x26.2.2.2.1,x26.2.2.2.2.1,x26.2.2.2.2.2.1,x26.2.2.2.2.2.2.1,x26.2.2.2.2.2.2.2)
 )
def iD (a0:Int) (a1:fX) (a2:Int) (a3:Int) (a4:(List aH)) (a5:Int) (a6:Int) (a7:(List aG)) (a8:Int) (a9:(List Int)):Option (Int × Int × Int × (List aH) × Int × Int × (List aG) × Int × (List Int)) :=
 bno (gK a2 a3 a4 a5 a6 a7 a8 a9) fun x27 =>
 bnd (decide (a2 ≤ x27)) fun x28 =>
 bif x28 then (
  chk (a7.length=64)<|bnd (decide ((a9.length:Int)=0)) fun x31 =>
  bif x31 then (
   some (7,a2,a3,a4,a5,a6,a7,a8,a9)
  ) else (
    bno (gix a9 0) fun x33 =>
    bno (a9[(0:Int).toNat]?) fun x34 =>
    bno (fI x34 a2 a3 a4 a5 a6 a7 a8 a9) fun x35 =>
    fQ a0 a1 x35.1 x35.2.1 x35.2.2.1 x35.2.2.2.1 x35.2.2.2.2.1 x35.2.2.2.2.2.1 x35.2.2.2.2.2.2.1 x35.2.2.2.2.2.2.2
  )
 ) else (
   fQ a0 a1 a2 a3 a4 a5 a6 a7 a8 a9
 )

def fG (a0:Int) (a1:Int) (a2:Int) (a3:Bool) (a4:Int) (a5:Int) (a6:(List aH)) (a7:Int) (a8:Int) (a9:(List aG)) (a10:Int) (a11:(List Int)):Option (Int × Int × Int × (List aH) × Int × Int × (List aG) × Int × (List Int)) :=
 bno (jP (⟨a1,a2,a3⟩:fX) a0) fun x1 =>
 bnd (!decide (x1=0)) fun x2 =>
 bif x2 then (
  some (x1,a4,a5,a6,a7,a8,a9,a10,a11)
 ) else (
   bno (dD a0 a4 a5 a6 a7 a8 a9 a10 a11) fun x4 =>
   bnd (!decide (x4=(-1))) fun x5 =>
   bif x5 then (
    some (13,a4,a5,a6,a7,a8,a9,a10,a11)
   ) else (
     bno (iD a0 (⟨a1,a2,a3⟩:fX) a4 a5 a6 a7 a8 a9 a10 a11) fun x7 =>
     some (x7.1,x7.2.1,x7.2.2.1,x7.2.2.2.1,x7.2.2.2.2.1,x7.2.2.2.2.2.1,x7.2.2.2.2.2.2.1,x7.2.2.2.2.2.2.2.1,x7.2.2.2.2.2.2.2.2)
   )
 )

def jB (a0:Int) (a1:Int) (a2:Int) (a3:Bool) (a4:Int) (a5:Int) (a6:(List aH)) (a7:Int) (a8:Int) (a9:(List aG)) (a10:Int) (a11:(List Int)):Option (Int × Int × Int × (List aH) × Int × Int × (List aG) × Int × (List Int)) :=
 bno (jP (⟨a1,a2,a3⟩:fX) a0) fun x1 =>
 bnd (!decide (x1=0)) fun x2 =>
 bif x2 then (
  some (x1,a4,a5,a6,a7,a8,a9,a10,a11)
 ) else (
   bno (dD a0 a4 a5 a6 a7 a8 a9 a10 a11) fun x4 =>
   bnd (decide (x4=(-1))) fun x5 =>
   bif x5 then (
    bno (iD a0 (⟨a1,a2,a3⟩:fX) a4 a5 a6 a7 a8 a9 a10 a11) fun x7 =>
    some (x7.1,x7.2.1,x7.2.2.1,x7.2.2.2.1,x7.2.2.2.2.1,x7.2.2.2.2.2.1,x7.2.2.2.2.2.2.1,x7.2.2.2.2.2.2.2.1,x7.2.2.2.2.2.2.2.2)
   ) else (
     bno (gF x4 (⟨a1,a2,a3⟩:fX) a4 a5 a6 a7 a8 a9 a10 a11) fun x8 =>
     some (0,x8.1,x8.2.1,x8.2.2.1,x8.2.2.2.1,x8.2.2.2.2.1,x8.2.2.2.2.2.1,x8.2.2.2.2.2.2.1,x8.2.2.2.2.2.2.2)
   )
 )

def eH (a0:Int) (a1:Int) (a2:Int) (a3:(List aH)) (a4:Int) (a5:Int) (a6:(List aG)) (a7:Int) (a8:(List Int)):Option Int :=
 bnd (decide (a0=(-1))) fun x1 =>
 bif x1 then (
  some 0
 ) else (
   bno (gix a6 a0) fun x3 =>
   chk (a6.length=64)<|bno (a6[(a0:Int).toNat]?) fun x5 =>
   some x5.id
 )

def dI (a0:(List aN)):Option (List aN):=yC (fun x=>x.ID) (fun x=>decide (0 ≤ x.ID) && decide (x.ID ≤ 1048576)) a0

def fD (a0:Int) (a1:Int) (a2:(List aH)) (a3:Int) (a4:Int) (a5:(List aG)) (a6:Int) (a7:(List Int)) (x1:(List Int)):Nat → (List aN) → Int → Option (List aN)
 | 0,_,_=>none
 | n0 + 1,v11,v12 =>
   bnd (decide (v12 < (x1.length:Int))) fun x22 =>
   bif x22 then (
    bno (gix x1 v12) fun x24 =>
    bno (gix a5 x24) fun x25 =>
    chk (a5.length=64)<|bno (a5[(x24:Int).toNat]?) fun x27 =>
    bno (eH x27.up a0 a1 a2 a3 a4 a5 a6 a7) fun x28 =>
    bno (app 32 v11 (([(⟨x27.id,x28,x27.weight,x27.closed⟩:aN)]:(List aN)))) fun x29 =>
    bnd (IntKind.wrap .i64 (v12 + 1)) fun x30 =>
    (fD a0 a1 a2 a3 a4 a5 a6 a7 x1 n0) x29 x30
   ) else (
     bno (dI v11) fun x31 =>
     chk (x31.length=v11.length)<|some x31
   )
def iM (a0:Int) (a1:Int) (a2:(List aH)) (a3:Int) (a4:Int) (a5:(List aG)) (a6:Int) (a7:(List Int)):Option (List aN) :=
 bno (nN (⟨a2,a3,a4⟩:bF)) fun x1 =>
 fD a0 a1 a2 a3 a4 a5 a6 a7 x1 fuel ([]:(List aN)) 0

def fL (a1:Int) (a2:Int) (a3:(List aH)) (a4:Int) (a5:Int) (a6:(List aG)) (a7:Int) (a8:(List Int)):Nat → (List Int) → Int → Option (List Int)
 | 0,_,_=>none
 | n0 + 1,v14,v15 =>
   bnd (!decide (v15=(-1))) fun x28 =>
   bno (gd (x28 == true) (gix a6 v15) default) fun x29 =>
   chk ((x28 == true)=true → a6.length=64)<|bno (gd (x28 == true) (a6[(v15:Int).toNat]?) default) fun x31 =>
   bnd (!decide (x31.up=(-1))) fun x32 =>
   bnd (x28 && x32) fun x33 =>
   bif x33 then (
    bno (gix a6 v15) fun x35 =>
    chk (a6.length=64)<|bno (a6[(v15:Int).toNat]?) fun x37 =>
    bno (eH x37.up a1 a2 a3 a4 a5 a6 a7 a8) fun x38 =>
    bno (app 8 v14 ([x38]:(List Int))) fun x39 =>
    (fL a1 a2 a3 a4 a5 a6 a7 a8 n0) x39 x37.up
   ) else (
     some v14
   )
def jA (a0:Int) (a1:Int) (a2:Int) (a3:(List aH)) (a4:Int) (a5:Int) (a6:(List aG)) (a7:Int) (a8:(List Int)):Option (List Int) :=
 bno (dD a0 a1 a2 a3 a4 a5 a6 a7 a8) fun x1 =>
 fL a1 a2 a3 a4 a5 a6 a7 a8 fuel ([]:(List Int)) x1

def fZ (a0:(List Int)):Option (List Int):=yE a0

def eE (a1:Int) (a2:Int) (a3:(List aH)) (a4:Int) (a5:Int) (a6:(List aG)) (a7:Int) (a8:(List Int)) (v18:(List Bool)) (v98:(List Int)) (v99:Int) (kk1:(List Int) → Int → Option (List Int)):Nat → Bool → Int → Option (List Int)
 | 0,_,_=>none
 | n2 + 1,v161,v162 =>
   bno (gd (v161 == true) (gix a6 v162) default) fun x175 =>
   chk ((v161 == true)=true → a6.length=64)<|bno (gd (v161 == true) (a6[(v162:Int).toNat]?) default) fun x177 =>
   bnd (!decide (x177.up=(-1))) fun x178 =>
   bnd (v161 && x178) fun x179 =>
   bif x179 then (
    bno (gix a6 v162) fun x181 =>
    chk (a6.length=64)<|bno (a6[(v162:Int).toNat]?) fun x183 =>
    bno (gix v18 x183.up) fun x184 =>
    chk (v18.length=64)<|bno (v18[(x183.up:Int).toNat]?) fun x186 =>
    (eE a1 a2 a3 a4 a5 a6 a7 a8 v18 v98 v99 kk1 n2) (!x186) x183.up
   ) else (
     bif v161 then (
      bno (eH v99 a1 a2 a3 a4 a5 a6 a7 a8) fun x188 =>
      bno (app 8 v98 ([x188]:(List Int))) fun x189 =>
      bnd (IntKind.wrap .i64 (v99 + 1)) fun x190 =>
      kk1 x189 x190
     ) else (
       bnd (IntKind.wrap .i64 (v99 + 1)) fun x191 =>
       kk1 v98 x191
     )
   )
def eF (a1:Int) (a2:Int) (a3:(List aH)) (a4:Int) (a5:Int) (a6:(List aG)) (a7:Int) (a8:(List Int)) (v18:(List Bool)):Nat → (List Int) → Int → Option (List Int)
 | 0,_,_=>none
 | n1 + 1,v98,v99 =>
   bnd (decide (v99 < 64)) fun x146 =>
   bif x146 then (
    bno (gix v18 v99) fun x148 =>
    eE a1 a2 a3 a4 a5 a6 a7 a8 v18 v98 v99 (eF a1 a2 a3 a4 a5 a6 a7 a8 v18 n1) fuel x148 v99
   ) else (
     bno (fZ v98) fun x192 =>
     chk (x192.length=v98.length)<|some x192
   )
def eR (a0:(List Int)) (a1:Int) (a2:Int) (a3:(List aH)) (a4:Int) (a5:Int) (a6:(List aG)) (a7:Int) (a8:(List Int)):Nat → Int → (List Bool) → Option (List Int)
 | 0,_,_=>none
 | n0 + 1,v17,v18 =>
   bnd (decide (v17 < (a0.length:Int))) fun x35 =>
   bif x35 then (
    bno (gix a0 v17) fun x37 =>
    bno (dD x37 a1 a2 a3 a4 a5 a6 a7 a8) fun x38 =>
    bnd (!decide (x38=(-1))) fun x39 =>
    bno (gd (x39 == true) (gix a6 x38) default) fun x40 =>
    chk ((x39 == true)=true → a6.length=64)<|bno (gd (x39 == true) (a6[(x38:Int).toNat]?) default) fun x42 =>
    bnd (x39 && (!x42.closed)) fun x43 =>
    bif x43 then (
     bno (gix v18 x38) fun x45 =>
     chk (v18.length=64)<|bno (v18[(x38:Int).toNat]?) fun x47 =>
     bnd (v18.set ((x38:Int).toNat) true) fun x48 =>
     bnd (IntKind.wrap .i64 (v17 + 1)) fun x49 =>
     (eR a0 a1 a2 a3 a4 a5 a6 a7 a8 n0) x49 x48
    ) else (
      bnd (IntKind.wrap .i64 (v17 + 1)) fun x50 =>
      (eR a0 a1 a2 a3 a4 a5 a6 a7 a8 n0) x50 v18
    )
   ) else (
     chk (v18.length=64)<|eF a1 a2 a3 a4 a5 a6 a7 a8 v18 fuel ([]:(List Int)) 0
   )
def gG (a0:(List Int)) (a1:Int) (a2:Int) (a3:(List aH)) (a4:Int) (a5:Int) (a6:(List aG)) (a7:Int) (a8:(List Int)):Option (List Int) :=
 bnd ((List.replicate 64 false:(List Bool))) fun x1 =>
 eR a0 a1 a2 a3 a4 a5 a6 a7 a8 fuel 0 x1

def gW (a0:Int) (a1:Int) (a2:Int) (a3:(List aH)) (a4:Int) (a5:Int) (a6:(List aG)) (a7:Int) (a8:(List Int)):Option (Int × Int × Int × (List aH) × Int × Int × (List aG) × Int × (List Int)) :=
 bno (dD a0 a1 a2 a3 a4 a5 a6 a7 a8) fun x1 =>
 bnd (decide (x1=(-1))) fun x2 =>
 bif x2 then (
  some (6,a1,a2,a3,a4,a5,a6,a7,a8)
 ) else (
   bno (gix a6 x1) fun x4 =>
   chk (a6.length=64)<|bno (a6[(x1:Int).toNat]?) fun x6 =>
   bif x6.closed then (
    some (9,a1,a2,a3,a4,a5,a6,a7,a8)
   ) else (
     bno (gix a6 x1) fun x8 =>
     bno (a6[(x1:Int).toNat]?) fun x9 =>
     bnd (a6.set ((x1:Int).toNat) (⟨x9.id,x9.up,x9.first,x9.next,x9.weight,true⟩:aG)) fun x10 =>
     bno (app 8 a8 ([x1]:(List Int))) fun x11 =>
     bnd (decide (a2 < (x11.length:Int))) fun x12 =>
     bif x12 then (
      bno (gix x11 0) fun x14 =>
      bno (x11[(0:Int).toNat]?) fun x15 =>
      bno (fI x15 a1 a2 a3 a4 a5 x10 a7 x11) fun x16 =>
      some (0,x16.1,x16.2.1,x16.2.2.1,x16.2.2.2.1,x16.2.2.2.2.1,x16.2.2.2.2.2.1,x16.2.2.2.2.2.2.1,x16.2.2.2.2.2.2.2)
     ) else (
       some (0,a1,a2,a3,a4,a5,x10,a7,x11)
     )
   )
 )

def iE (a0:Int) (a1:Int) (a2:Int) (a3:(List aH)) (a4:Int) (a5:Int) (a6:(List aG)) (a7:Int) (a8:(List Int)):Option (Int × Int × Int × (List aH) × Int × Int × (List aG) × Int × (List Int)) :=
 bno (dD a0 a1 a2 a3 a4 a5 a6 a7 a8) fun x1 =>
 bnd (decide (x1=(-1))) fun x2 =>
 bif x2 then (
  some (6,a1,a2,a3,a4,a5,a6,a7,a8)
 ) else (
   bno (fI x1 a1 a2 a3 a4 a5 a6 a7 a8) fun x4 =>
   some (0,x4.1,x4.2.1,x4.2.2.1,x4.2.2.2.1,x4.2.2.2.2.1,x4.2.2.2.2.2.1,x4.2.2.2.2.2.2.1,x4.2.2.2.2.2.2.2)
 )

def fO (v52:(List Int)):Option (List Int) :=
 bno (fZ v52) fun x53 =>
 chk (x53.length=v52.length)<|some x53
def fN (a1:Int) (a2:Int) (a3:(List aH)) (a4:Int) (a5:Int) (a6:(List aG)) (a7:Int) (a8:(List Int)):Nat → Int → (List Int) → Option (List Int)
 | 0,_,_=>none
 | n3 + 1,v64,v65 =>
   bnd (!decide (v64=(-1))) fun x72 =>
   bif x72 then (
    bno (gix a6 v64) fun x74 =>
    bno (a6[(v64:Int).toNat]?) fun x75 =>
    bno (eH v64 a1 a2 a3 a4 a5 a6 a7 a8) fun x76 =>
    bno (app 8 v65 ([x76]:(List Int))) fun x77 =>
    (fN a1 a2 a3 a4 a5 a6 a7 a8 n3) x75.next x77
   ) else (
     fO v65
   )
def fM (a1:Int) (a2:Int) (a3:(List aH)) (a4:Int) (a5:Int) (a6:(List aG)) (a7:Int) (a8:(List Int)):Nat → Int → (List Int) → Option (List Int)
 | 0,_,_=>none
 | n4 + 1,v87,v88 =>
   bnd (!decide (v87=(-1))) fun x95 =>
   bif x95 then (
    bno (gix a6 v87) fun x97 =>
    bno (a6[(v87:Int).toNat]?) fun x98 =>
    bno (eH v87 a1 a2 a3 a4 a5 a6 a7 a8) fun x99 =>
    bno (app 8 v88 ([x99]:(List Int))) fun x100 =>
    (fM a1 a2 a3 a4 a5 a6 a7 a8 n4) x98.next x100
   ) else (
     fO v88
   )
def gD (a0:Int) (a1:Int) (a2:Int) (a3:(List aH)) (a4:Int) (a5:Int) (a6:(List aG)) (a7:Int) (a8:(List Int)):Option (List Int) :=
 bno (dD a0 a1 a2 a3 a4 a5 a6 a7 a8) fun x1 =>
 bnd (decide (x1=(-1))) fun x2 =>
 bnd (!decide (a0=0)) fun x3 =>
 bnd (x2 && x3) fun x4 =>
 bif x4 then (
  some ([]:(List Int))
 ) else (
   bnd (decide (x1=(-1))) fun x55 =>
   bif x55 then (
    chk (a6.length=64)<|fN a1 a2 a3 a4 a5 a6 a7 a8 fuel a7 ([]:(List Int))
   ) else (
     bno (gix a6 x1) fun x78 =>
     chk (a6.length=64)<|bno (a6[(x1:Int).toNat]?) fun x80 =>
     fM a1 a2 a3 a4 a5 a6 a7 a8 fuel x80.first ([]:(List Int))
   )
 )

def eV (a0:Int) (a1:Int) (a2:(List aH)) (a3:Int) (a4:Int) (a5:(List aG)) (a6:Int) (a7:(List Int)):Nat → (List Int) → Int → Option (List Int)
 | 0,_,_=>none
 | n0 + 1,v9,v10 =>
   bnd (decide (v10 < (a7.length:Int))) fun x18 =>
   bif x18 then (
    bno (gix a7 v10) fun x20 =>
    bno (a7[(v10:Int).toNat]?) fun x21 =>
    bno (eH x21 a0 a1 a2 a3 a4 a5 a6 a7) fun x22 =>
    bno (app 8 v9 ([x22]:(List Int))) fun x23 =>
    bnd (IntKind.wrap .i64 (v10 + 1)) fun x24 =>
    (eV a0 a1 a2 a3 a4 a5 a6 a7 n0) x23 x24
   ) else (
     some v9
   )
def gM (a0:Int) (a1:Int) (a2:(List aH)) (a3:Int) (a4:Int) (a5:(List aG)) (a6:Int) (a7:(List Int)):Option (List Int) :=
 chk (a5.length=64)<|eV a0 a1 a2 a3 a4 a5 a6 a7 fuel ([]:(List Int)) 0

def mK (a0:Int) (a1:Int) (a2:Int) (a3:Bool):Option Int :=
 some 1

def nR (a0:Int) (a1:Int) (a2:Int) (a3:Bool):Option Int :=
 some 1

def nC (a0:Int):Option Int :=
 some 1

def mJ (a0:Int):Option Int :=
 some 1

def kZ (a0:bT) (x1:Int) (v11:Bool):Option Int :=
 bif v11 then (
  bno (nR a0.ID a0.Dep a0.Weight a0.Only) fun x13 =>
  some x13
 ) else (
   bnd (decide (x1=4)) fun x14 =>
   bif x14 then (
    bno (nC a0.ID) fun x16 =>
    some x16
   ) else (
     bno (mJ a0.ID) fun x17 =>
     some x17
   )
 )
def lA (a0:bT) (x1:Int) (v5:Bool):Option Int :=
 bif v5 then (
  bno (mK a0.ID a0.Dep a0.Weight a0.Only) fun x7 =>
  some x7
 ) else (
   bnd (decide (x1=2)) fun x18 =>
   bif x18 then (
    kZ a0 x1 x18
   ) else (
     bnd (decide (x1=3)) fun x20 =>
     kZ a0 x1 x20
   )
 )
def oK (a0:bT):Option Int :=
 bno (remI a0.Kind 6) fun x1 =>
 bnd (decide (x1=0)) fun x21 =>
 bif x21 then (
  lA a0 x1 x21
 ) else (
   bnd (decide (x1=1)) fun x23 =>
   lA a0 x1 x23
 )

def nB  : Option (List aN) :=
 some []

def mL  : Option (List Int) :=
 some []

def nQ (a0:Int):Option (List Int) :=
 some []

def nS (a0:Int):Option (List Int) :=
 some []

def nA (a0:(List Int)):Option (List Int) :=
 some []

def oL  : Option Int :=
 some 0

def jF (a0:bT) (a1:Int) (a2:Int) (a3:(List aH)) (a4:Int) (a5:Int) (a6:(List aG)) (a7:Int) (a8:(List Int)) (x1:Int) (v11:Bool):Option (Int × Int × Int × (List aH) × Int × Int × (List aG) × Int × (List Int)) :=
 bif v11 then (
  bno (jB a0.ID a0.Dep a0.Weight a0.Only a1 a2 a3 a4 a5 a6 a7 a8) fun x13 =>
  some (x13.1,x13.2.1,x13.2.2.1,x13.2.2.2.1,x13.2.2.2.2.1,x13.2.2.2.2.2.1,x13.2.2.2.2.2.2.1,x13.2.2.2.2.2.2.2.1,x13.2.2.2.2.2.2.2.2)
 ) else (
   bnd (decide (x1=4)) fun x14 =>
   bif x14 then (
    bno (gW a0.ID a1 a2 a3 a4 a5 a6 a7 a8) fun x16 =>
    some (x16.1,x16.2.1,x16.2.2.1,x16.2.2.2.1,x16.2.2.2.2.1,x16.2.2.2.2.2.1,x16.2.2.2.2.2.2.1,x16.2.2.2.2.2.2.2.1,x16.2.2.2.2.2.2.2.2)
   ) else (
     bno (iE a0.ID a1 a2 a3 a4 a5 a6 a7 a8) fun x17 =>
     some (x17.1,x17.2.1,x17.2.2.1,x17.2.2.2.1,x17.2.2.2.2.1,x17.2.2.2.2.2.1,x17.2.2.2.2.2.2.1,x17.2.2.2.2.2.2.2.1,x17.2.2.2.2.2.2.2.2)
   )
 )
def jG (a0:bT) (a1:Int) (a2:Int) (a3:(List aH)) (a4:Int) (a5:Int) (a6:(List aG)) (a7:Int) (a8:(List Int)) (x1:Int) (v5:Bool):Option (Int × Int × Int × (List aH) × Int × Int × (List aG) × Int × (List Int)) :=
 bif v5 then (
  bno (fG a0.ID a0.Dep a0.Weight a0.Only a1 a2 a3 a4 a5 a6 a7 a8) fun x7 =>
  some (x7.1,x7.2.1,x7.2.2.1,x7.2.2.2.1,x7.2.2.2.2.1,x7.2.2.2.2.2.1,x7.2.2.2.2.2.2.1,x7.2.2.2.2.2.2.2.1,x7.2.2.2.2.2.2.2.2)
 ) else (
   bnd (decide (x1=2)) fun x18 =>
   bif x18 then (
    jF a0 a1 a2 a3 a4 a5 a6 a7 a8 x1 x18
   ) else (
     bnd (decide (x1=3)) fun x20 =>
     jF a0 a1 a2 a3 a4 a5 a6 a7 a8 x1 x20
   )
 )
def kM (a0:bT) (a1:Int) (a2:Int) (a3:(List aH)) (a4:Int) (a5:Int) (a6:(List aG)) (a7:Int) (a8:(List Int)):Option (Int × Int × Int × (List aH) × Int × Int × (List aG) × Int × (List Int)) :=
 bno (remI a0.Kind 6) fun x1 =>
 bnd (decide (x1=0)) fun x21 =>
 bif x21 then (
  jG a0 a1 a2 a3 a4 a5 a6 a7 a8 x1 x21
 ) else (
   bnd (decide (x1=1)) fun x23 =>
   jG a0 a1 a2 a3 a4 a5 a6 a7 a8 x1 x23
 )

end Go.Fn
open Go Go.IL
namespace Go.Fn
structure qA where
 c0:Int
 c1:Int
 deriving DecidableEq,Inhabited
def aCX:Enc qA:=⟨⟨fun x=>.agg [.int .i64 x.c0,.int .i64 x.c1],2,by decide,fun _=>⟨rfl,rfl⟩⟩,fun _=>rfl⟩


def iA  : Option Bool :=
 bno (lB 8 1 24) fun x1 =>
 bno (gd ((!x1) == false) (lB 2 0 8) default) fun x2 =>
 bnd ((!x1) || (!x2)) fun x3 =>
 bif x3 then (
  bnd (!decide (8=0)) fun x5 =>
  bnd (x5 || true) fun x6 =>
  some false
 ) else (
   bno (pT) fun x7 =>
   bnd (!decide (0=0)) fun x8 =>
   bnd (x8 || false) fun x9 =>
   bif x9 then (
    some false
   ) else (
     bno (fG 1 0 16 false 8 2 x7.Cells x7.Free x7.Used ((List.replicate 64 (⟨0,0,0,0,0,false⟩:aG):(List aG))) (-1) []) fun x11 =>
     bno (fG 3 1 32 false x11.2.1 x11.2.2.1 x11.2.2.2.1 x11.2.2.2.2.1 x11.2.2.2.2.2.1 x11.2.2.2.2.2.2.1 x11.2.2.2.2.2.2.2.1 x11.2.2.2.2.2.2.2.2) fun x12 =>
     bno (fG 5 3 8 false x12.2.1 x12.2.2.1 x12.2.2.2.1 x12.2.2.2.2.1 x12.2.2.2.2.2.1 x12.2.2.2.2.2.2.1 x12.2.2.2.2.2.2.2.1 x12.2.2.2.2.2.2.2.2) fun x13 =>
     bno (jB 1 5 4 true x13.2.1 x13.2.2.1 x13.2.2.2.1 x13.2.2.2.2.1 x13.2.2.2.2.2.1 x13.2.2.2.2.2.2.1 x13.2.2.2.2.2.2.2.1 x13.2.2.2.2.2.2.2.2) fun x14 =>
     bno (iM x14.2.1 x14.2.2.1 x14.2.2.2.1 x14.2.2.2.2.1 x14.2.2.2.2.2.1 x14.2.2.2.2.2.2.1 x14.2.2.2.2.2.2.2.1 x14.2.2.2.2.2.2.2.2) fun x15 =>
     bno (iY x15) fun x16 =>
     bno (jA 3 x14.2.1 x14.2.2.1 x14.2.2.2.1 x14.2.2.2.2.1 x14.2.2.2.2.2.1 x14.2.2.2.2.2.2.1 x14.2.2.2.2.2.2.2.1 x14.2.2.2.2.2.2.2.2) fun x17 =>
     bno (gG ([3,1,9]:(List Int)) x14.2.1 x14.2.2.1 x14.2.2.2.1 x14.2.2.2.2.1 x14.2.2.2.2.2.1 x14.2.2.2.2.2.2.1 x14.2.2.2.2.2.2.2.1 x14.2.2.2.2.2.2.2.2) fun x18 =>
     bno (gW 1 x14.2.1 x14.2.2.1 x14.2.2.2.1 x14.2.2.2.2.1 x14.2.2.2.2.2.1 x14.2.2.2.2.2.2.1 x14.2.2.2.2.2.2.2.1 x14.2.2.2.2.2.2.2.2) fun x19 =>
     bno (gW 1 x19.2.1 x19.2.2.1 x19.2.2.2.1 x19.2.2.2.2.1 x19.2.2.2.2.2.1 x19.2.2.2.2.2.2.1 x19.2.2.2.2.2.2.2.1 x19.2.2.2.2.2.2.2.2) fun x20 =>
     bno (gG ([3,1,9]:(List Int)) x20.2.1 x20.2.2.1 x20.2.2.2.1 x20.2.2.2.2.1 x20.2.2.2.2.2.1 x20.2.2.2.2.2.2.1 x20.2.2.2.2.2.2.2.1 x20.2.2.2.2.2.2.2.2) fun x21 =>
     bno (iE 1 x20.2.1 x20.2.2.1 x20.2.2.2.1 x20.2.2.2.2.1 x20.2.2.2.2.2.1 x20.2.2.2.2.2.2.1 x20.2.2.2.2.2.2.2.1 x20.2.2.2.2.2.2.2.2) fun x22 =>
     bno (gD 5 x22.2.1 x22.2.2.1 x22.2.2.2.1 x22.2.2.2.2.1 x22.2.2.2.2.2.1 x22.2.2.2.2.2.2.1 x22.2.2.2.2.2.2.2.1 x22.2.2.2.2.2.2.2.2) fun x23 =>
     bno (fG 3 0 1 false x22.2.1 x22.2.2.1 x22.2.2.2.1 x22.2.2.2.2.1 x22.2.2.2.2.2.1 x22.2.2.2.2.2.2.1 x22.2.2.2.2.2.2.2.1 x22.2.2.2.2.2.2.2.2) fun x24 =>
     bno (lB 0 1 24) fun x25 =>
     bno (gd ((!x25) == false) (lB 0 0 0) default) fun x26 =>
     bnd ((!x25) || (!x26)) fun x27 =>
     bif x27 then (
      bnd (decide (x11.1=0)) fun x29 =>
      bnd (decide (x12.1=0)) fun x30 =>
      bnd (x29 && x30) fun x31 =>
      bnd (decide (x13.1=0)) fun x32 =>
      bnd (x31 && x32) fun x33 =>
      bnd (decide (x14.1=0)) fun x34 =>
      bnd (x33 && x34) fun x35 =>
      bno (gd (x35 == true) (fA x16 ([(⟨1,5,4,false⟩:aN),(⟨3,1,32,false⟩:aN),(⟨5,0,8,false⟩:aN)]:(List aN))) default) fun x36 =>
      bnd (x35 && x36) fun x37 =>
      bno (gd (x37 == true) (bO x17 ([1,5]:(List Int))) default) fun x38 =>
      bnd (x37 && x38) fun x39 =>
      bno (gd (x39 == true) (bO x18 ([1]:(List Int))) default) fun x40 =>
      bnd (x39 && x40) fun x41 =>
      bnd (decide (x19.1=0)) fun x42 =>
      bnd (x41 && x42) fun x43 =>
      bnd (decide (x20.1=9)) fun x44 =>
      bnd (x43 && x44) fun x45 =>
      bno (gd (x45 == true) (bO x21 ([3]:(List Int))) default) fun x46 =>
      bnd (x45 && x46) fun x47 =>
      bnd (decide (x22.1=0)) fun x48 =>
      bnd (x47 && x48) fun x49 =>
      bno (gd (x49 == true) (bO x23 ([3]:(List Int))) default) fun x50 =>
      bnd (x49 && x50) fun x51 =>
      bnd (decide (x24.1=13)) fun x52 =>
      bnd (x51 && x52) fun x53 =>
      bnd (decide (8=8)) fun x54 =>
      bnd (x53 && x54) fun x55 =>
      bno (gd (x55 == true) (gK x24.2.1 x24.2.2.1 x24.2.2.2.1 x24.2.2.2.2.1 x24.2.2.2.2.2.1 x24.2.2.2.2.2.2.1 x24.2.2.2.2.2.2.2.1 x24.2.2.2.2.2.2.2.2) default) fun x56 =>
      bnd (decide (x56=2)) fun x57 =>
      bnd (x55 && x57) fun x58 =>
      bno (gd (x58 == true) (gM x24.2.1 x24.2.2.1 x24.2.2.2.1 x24.2.2.2.2.1 x24.2.2.2.2.2.1 x24.2.2.2.2.2.2.1 x24.2.2.2.2.2.2.2.1 x24.2.2.2.2.2.2.2.2) default) fun x59 =>
      bnd (decide ((x59.length:Int)=0)) fun x60 =>
      bnd (x58 && x60) fun x61 =>
      bnd (bif x61 then true else false) fun x62 =>
      bnd (bif x62 then true else false) fun x63 =>
      bnd (bif x63 then true else false) fun x64 =>
      bnd (bif x64 then true else false) fun x65 =>
      bnd (bif x65 then true else false) fun x66 =>
      bnd (bif x66 then true else false) fun x67 =>
      bnd (bif x67 then true else false) fun x68 =>
      some x68
     ) else (
       bno (pT) fun x69 =>
       bnd (decide (x11.1=0)) fun x70 =>
       bnd (decide (x12.1=0)) fun x71 =>
       bnd (x70 && x71) fun x72 =>
       bnd (decide (x13.1=0)) fun x73 =>
       bnd (x72 && x73) fun x74 =>
       bnd (decide (x14.1=0)) fun x75 =>
       bnd (x74 && x75) fun x76 =>
       bno (gd (x76 == true) (fA x16 ([(⟨1,5,4,false⟩:aN),(⟨3,1,32,false⟩:aN),(⟨5,0,8,false⟩:aN)]:(List aN))) default) fun x77 =>
       bnd (x76 && x77) fun x78 =>
       bno (gd (x78 == true) (bO x17 ([1,5]:(List Int))) default) fun x79 =>
       bnd (x78 && x79) fun x80 =>
       bno (gd (x80 == true) (bO x18 ([1]:(List Int))) default) fun x81 =>
       bnd (x80 && x81) fun x82 =>
       bnd (decide (x19.1=0)) fun x83 =>
       bnd (x82 && x83) fun x84 =>
       bnd (decide (x20.1=9)) fun x85 =>
       bnd (x84 && x85) fun x86 =>
       bno (gd (x86 == true) (bO x21 ([3]:(List Int))) default) fun x87 =>
       bnd (x86 && x87) fun x88 =>
       bnd (decide (x22.1=0)) fun x89 =>
       bnd (x88 && x89) fun x90 =>
       bno (gd (x90 == true) (bO x23 ([3]:(List Int))) default) fun x91 =>
       bnd (x90 && x91) fun x92 =>
       bnd (decide (x24.1=13)) fun x93 =>
       bnd (x92 && x93) fun x94 =>
       bnd (decide (0=8)) fun x95 =>
       bnd (x94 && x95) fun x96 =>
       bno (gd (x96 == true) (gK x24.2.1 x24.2.2.1 x24.2.2.2.1 x24.2.2.2.2.1 x24.2.2.2.2.2.1 x24.2.2.2.2.2.2.1 x24.2.2.2.2.2.2.2.1 x24.2.2.2.2.2.2.2.2) default) fun x97 =>
       bnd (decide (x97=2)) fun x98 =>
       bnd (x96 && x98) fun x99 =>
       bno (gd (x99 == true) (gM x24.2.1 x24.2.2.1 x24.2.2.2.1 x24.2.2.2.2.1 x24.2.2.2.2.2.1 x24.2.2.2.2.2.2.1 x24.2.2.2.2.2.2.2.1 x24.2.2.2.2.2.2.2.2) default) fun x100 =>
       bnd (decide ((x100.length:Int)=0)) fun x101 =>
       bnd (x99 && x101) fun x102 =>
       bnd (bif x102 then true else false) fun x103 =>
       bnd (bif x103 then true else false) fun x104 =>
       bnd (bif x104 then true else false) fun x105 =>
       bnd (bif x105 then true else false) fun x106 =>
       bnd (bif x106 then true else false) fun x107 =>
       bnd (bif x107 then true else false) fun x108 =>
       bnd (bif x108 then true else false) fun x109 =>
       some x109
     )
   )
 )

def gI (a0:Int) (a1:Int):Option (aL × Int) :=
 bnd (decide (a0 < 1)) fun x1 =>
 bnd (decide (24 < a0)) fun x2 =>
 bnd (x1 || x2) fun x3 =>
 bnd (decide (a1 < 0)) fun x4 =>
 bnd (x3 || x4) fun x5 =>
 bnd (decide (a0 < a1)) fun x6 =>
 bnd (x5 || x6) fun x7 =>
 bif x7 then (
  some ((⟨0,0,[],[]⟩:aL),8)
 ) else (
   some ((⟨a0,a1,[],[]⟩:aL),0)
 )

def iN (a0:aL) (a1:bT) (x1:Int) (v11:Bool):Option (aL × Int) :=
 bif v11 then (
  bno (gP a0 a1.ID a1.Dep a1.Weight a1.Only) fun x13 =>
  some (x13.1,x13.2)
 ) else (
   bnd (decide (x1=4)) fun x14 =>
   bif x14 then (
    bno (hG a0 a1.ID) fun x16 =>
    some (x16.1,x16.2)
   ) else (
     bno (gV a0 a1.ID) fun x17 =>
     some (x17.1,x17.2)
   )
 )
def iO (a0:aL) (a1:bT) (x1:Int) (v5:Bool):Option (aL × Int) :=
 bif v5 then (
  bno (fF a0 a1.ID a1.Dep a1.Weight a1.Only) fun x7 =>
  some (x7.1,x7.2)
 ) else (
   bnd (decide (x1=2)) fun x18 =>
   bif x18 then (
    iN a0 a1 x1 x18
   ) else (
     bnd (decide (x1=3)) fun x20 =>
     iN a0 a1 x1 x20
   )
 )
def iZ (a0:aL) (a1:bT):Option (aL × Int) :=
 bno (remI a1.Kind 6) fun x1 =>
 bnd (decide (x1=0)) fun x21 =>
 bif x21 then (
  iO a0 a1 x1 x21
 ) else (
   bnd (decide (x1=1)) fun x23 =>
   iO a0 a1 x1 x23
 )

def gO (a0:aL) (a1:Int):Option Bool :=
 bno (bI a0 a1) fun x1 =>
 bnd (decide (0 ≤ x1)) fun x2 =>
 bno (gd (x2 == true) (gix a0.L x1) default) fun x3 =>
 bnd (x2 && (!x3.Closed)) fun x4 =>
 some x4

def dJ (a0:aL) (a1:(List Int)) (v43:(List Int)) (v44:Int) (kk0:(List Int) → Int → Option (List Int)) (x89:aN) (x95:(List Int)):Nat → Bool → Int → Option (List Int)
 | 0,_,_=>none
 | n1 + 1,v105,v106 =>
   bnd (decide (v106 < (x95.length:Int))) fun x116 =>
   bif x116 then (
    bno (gd (v105 == true) (gix x95 v106) default) fun x118 =>
    bno (gd (v105 == true) (jW a1 x118) default) fun x119 =>
    bno (gd ((v105 == true) && (x119 == true)) (gix x95 v106) default) fun x120 =>
    bno (gd ((v105 == true) && (x119 == true)) (gO a0 x120) default) fun x121 =>
    bnd (x119 && x121) fun x122 =>
    bnd (v105 && (!x122)) fun x123 =>
    bnd (IntKind.wrap .i64 (v106 + 1)) fun x124 =>
    (dJ a0 a1 v43 v44 kk0 x89 x95 n1) x123 x124
   ) else (
     bif v105 then (
      bno (app 8 v43 ([x89.ID]:(List Int))) fun x126 =>
      bnd (IntKind.wrap .i64 (v44 + 1)) fun x127 =>
      kk0 x126 x127
     ) else (
       bnd (IntKind.wrap .i64 (v44 + 1)) fun x128 =>
       kk0 v43 x128
     )
   )
def cH (a0:aL) (a1:(List Int)):Nat → (List Int) → Int → Option (List Int)
 | 0,_,_=>none
 | n0 + 1,v43,v44 =>
   bnd (decide (v44 < (a0.L.length:Int))) fun x87 =>
   bif x87 then (
    bno (gix a0.L v44) fun x89 =>
    bno (jW a1 x89.ID) fun x90 =>
    bno (gd ((!x90) == false) (gO a0 x89.ID) default) fun x91 =>
    bnd ((!x90) || (!x91)) fun x92 =>
    bif x92 then (
     bnd (IntKind.wrap .i64 (v44 + 1)) fun x94 =>
     (cH a0 a1 n0) v43 x94
    ) else (
      bno (dZ a0 x89.ID) fun x95 =>
      dJ a0 a1 v43 v44 (cH a0 a1 n0) x89 x95 fuel true 0
    )
   ) else (
     some v43
   )
def hD (a0:aL) (a1:(List Int)):Option (List Int) :=
 cH a0 a1 fuel ([]:(List Int)) 0

def eB (a1:(List bT)) (a2:(List Int)) (x10:(aL × Int)):Nat → Int → Int → Int → (List aN) → (List Int) → Option Bool
 | 0,_,_,_,_,_=>none
 | n0 + 1,v53,v54,v55,v56,v57 =>
   bnd (decide (v53 < (a1.length:Int))) fun x95 =>
   bnd (decide (x10.2=0)) fun x96 =>
   bnd (x95 && x96) fun x97 =>
   bif x97 then (
    bno (gix a1 v53) fun x99 =>
    bno (oK x99) fun x100 =>
    bno (gix a1 v53) fun x101 =>
    bno (iZ (⟨v54,v55,v56,v57⟩:aL) x101) fun x102 =>
    bnd (!decide (x100=x102.2)) fun x103 =>
    bno (gd (x103 == false) (nB) default) fun x104 =>
    bno (gd (x103 == false) (iY x104) default) fun x105 =>
    bno (gd (x103 == false) (fA x105 x102.1.L) default) fun x106 =>
    bnd (x103 || (!x106)) fun x107 =>
    bno (gd (x107 == false) (mL) default) fun x108 =>
    bno (gd (x107 == false) (bO x108 x102.1.Closed) default) fun x109 =>
    bnd (x107 || (!x109)) fun x110 =>
    bno (gd (x110 == false) (oL) default) fun x111 =>
    bnd (!decide (x111=(x102.1.L.length:Int))) fun x112 =>
    bnd (x110 || x112) fun x113 =>
    bno (gd (x113 == false) (nA a2) default) fun x114 =>
    bno (gd (x113 == false) (hD x102.1 a2) default) fun x115 =>
    bno (gd (x113 == false) (bO x114 x115) default) fun x116 =>
    bnd (x113 || (!x116)) fun x117 =>
    bno (gd (x117 == false) (gix a1 v53) default) fun x118 =>
    bno (gd (x117 == false) (nQ x118.ID) default) fun x119 =>
    bno (gd (x117 == false) (gix a1 v53) default) fun x120 =>
    bno (gd (x117 == false) (dZ x102.1 x120.ID) default) fun x121 =>
    bno (gd (x117 == false) (bO x119 x121) default) fun x122 =>
    bnd (x117 || (!x122)) fun x123 =>
    bno (gd (x123 == false) (gix a1 v53) default) fun x124 =>
    bno (gd (x123 == false) (nS x124.Dep) default) fun x125 =>
    bno (gd (x123 == false) (gix a1 v53) default) fun x126 =>
    bno (gd (x123 == false) (eZ x102.1 x126.Dep) default) fun x127 =>
    bno (gd (x123 == false) (bO x125 x127) default) fun x128 =>
    bnd (x123 || (!x128)) fun x129 =>
    bif x129 then (
     some false
    ) else (
      bnd (IntKind.wrap .i64 (v53 + 1)) fun x131 =>
      (eB a1 a2 x10 n0) x131 x102.1.Room x102.1.Keep x102.1.L x102.1.Closed
    )
   ) else (
     bno (iA) fun x132 =>
     some x132
   )
def eA (a1:(List bT)) (a2:(List Int)) (x134:(aL × Int)):Nat → Int → Int → Int → (List aH) → Int → Int → (List aG) → Int → (List Int) → Int → Int → (List aN) → (List Int) → Option Bool
 | 0,_,_,_,_,_,_,_,_,_,_,_,_,_=>none
 | n1 + 1,v177,v178,v179,v180,v181,v182,v183,v184,v185,v186,v187,v188,v189 =>
   bnd (decide (v177 < (a1.length:Int))) fun x227 =>
   bnd (decide (x134.2=0)) fun x228 =>
   bnd (x227 && x228) fun x229 =>
   bif x229 then (
    bno (gix a1 v177) fun x231 =>
    bno (kM x231 v178 v179 v180 v181 v182 v183 v184 v185) fun x232 =>
    bno (gix a1 v177) fun x233 =>
    bno (iZ (⟨v186,v187,v188,v189⟩:aL) x233) fun x234 =>
    bnd (!decide (x232.1=x234.2)) fun x235 =>
    bno (gd (x235 == false) (iM x232.2.1 x232.2.2.1 x232.2.2.2.1 x232.2.2.2.2.1 x232.2.2.2.2.2.1 x232.2.2.2.2.2.2.1 x232.2.2.2.2.2.2.2.1 x232.2.2.2.2.2.2.2.2) default) fun x236 =>
    bno (gd (x235 == false) (iY x236) default) fun x237 =>
    bno (gd (x235 == false) (fA x237 x234.1.L) default) fun x238 =>
    bnd (x235 || (!x238)) fun x239 =>
    bno (gd (x239 == false) (gM x232.2.1 x232.2.2.1 x232.2.2.2.1 x232.2.2.2.2.1 x232.2.2.2.2.2.1 x232.2.2.2.2.2.2.1 x232.2.2.2.2.2.2.2.1 x232.2.2.2.2.2.2.2.2) default) fun x240 =>
    bno (gd (x239 == false) (bO x240 x234.1.Closed) default) fun x241 =>
    bnd (x239 || (!x241)) fun x242 =>
    bno (gd (x242 == false) (gK x232.2.1 x232.2.2.1 x232.2.2.2.1 x232.2.2.2.2.1 x232.2.2.2.2.2.1 x232.2.2.2.2.2.2.1 x232.2.2.2.2.2.2.2.1 x232.2.2.2.2.2.2.2.2) default) fun x243 =>
    bnd (!decide (x243=(x234.1.L.length:Int))) fun x244 =>
    bnd (x242 || x244) fun x245 =>
    bno (gd (x245 == false) (gG a2 x232.2.1 x232.2.2.1 x232.2.2.2.1 x232.2.2.2.2.1 x232.2.2.2.2.2.1 x232.2.2.2.2.2.2.1 x232.2.2.2.2.2.2.2.1 x232.2.2.2.2.2.2.2.2) default) fun x246 =>
    bno (gd (x245 == false) (hD x234.1 a2) default) fun x247 =>
    bno (gd (x245 == false) (bO x246 x247) default) fun x248 =>
    bnd (x245 || (!x248)) fun x249 =>
    bno (gd (x249 == false) (gix a1 v177) default) fun x250 =>
    bno (gd (x249 == false) (jA x250.ID x232.2.1 x232.2.2.1 x232.2.2.2.1 x232.2.2.2.2.1 x232.2.2.2.2.2.1 x232.2.2.2.2.2.2.1 x232.2.2.2.2.2.2.2.1 x232.2.2.2.2.2.2.2.2) default) fun x251 =>
    bno (gd (x249 == false) (gix a1 v177) default) fun x252 =>
    bno (gd (x249 == false) (dZ x234.1 x252.ID) default) fun x253 =>
    bno (gd (x249 == false) (bO x251 x253) default) fun x254 =>
    bnd (x249 || (!x254)) fun x255 =>
    bno (gd (x255 == false) (gix a1 v177) default) fun x256 =>
    bno (gd (x255 == false) (gD x256.Dep x232.2.1 x232.2.2.1 x232.2.2.2.1 x232.2.2.2.2.1 x232.2.2.2.2.2.1 x232.2.2.2.2.2.2.1 x232.2.2.2.2.2.2.2.1 x232.2.2.2.2.2.2.2.2) default) fun x257 =>
    bno (gd (x255 == false) (gix a1 v177) default) fun x258 =>
    bno (gd (x255 == false) (eZ x234.1 x258.Dep) default) fun x259 =>
    bno (gd (x255 == false) (bO x257 x259) default) fun x260 =>
    bnd (x255 || (!x260)) fun x261 =>
    bif x261 then (
     some false
    ) else (
      bnd (IntKind.wrap .i64 (v177 + 1)) fun x263 =>
      (eA a1 a2 x134 n1) x263 x232.2.1 x232.2.2.1 x232.2.2.2.1 x232.2.2.2.2.1 x232.2.2.2.2.2.1 x232.2.2.2.2.2.2.1 x232.2.2.2.2.2.2.2.1 x232.2.2.2.2.2.2.2.2 x234.1.Room x234.1.Keep x234.1.L x234.1.Closed
    )
   ) else (
     bno (iA) fun x264 =>
     some x264
   )
def hJ (a0:qA) (a1:(List bT)) (a2:(List Int)):Option Bool :=
 bnd (decide (60 < (a1.length:Int))) fun x1 =>
 bnd (decide (40 < (a2.length:Int))) fun x2 =>
 bnd (x1 || x2) fun x3 =>
 bif x3 then (
  bno (iA) fun x5 =>
  some x5
 ) else (
   bno (lB a0.c0 1 24) fun x6 =>
   bno (gd ((!x6) == false) (lB a0.c1 0 a0.c0) default) fun x7 =>
   bnd ((!x6) || (!x7)) fun x8 =>
   bif x8 then (
    bno (gI a0.c0 a0.c1) fun x10 =>
    bnd (!decide (8=x10.2)) fun x11 =>
    bnd (decide (x10.2=0)) fun x12 =>
    bnd (!(false == x12)) fun x13 =>
    bnd (x11 || x13) fun x14 =>
    bif x14 then (
     some false
    ) else (
      eB a1 a2 x10 fuel 0 x10.1.Room x10.1.Keep x10.1.L x10.1.Closed
    )
   ) else (
     bno (pT) fun x133 =>
     bno (gI a0.c0 a0.c1) fun x134 =>
     bnd (!decide (0=x134.2)) fun x135 =>
     bnd (decide (x134.2=0)) fun x136 =>
     bnd (!(true == x136)) fun x137 =>
     bnd (x135 || x137) fun x138 =>
     bif x138 then (
      some false
     ) else (
       eA a1 a2 x134 fuel 0 a0.c0 a0.c1 x133.Cells x133.Free x133.Used ((List.replicate 64 (⟨0,0,0,0,0,false⟩:aG):(List aG))) (-1) ([]:(List Int)) x134.1.Room x134.1.Keep x134.1.L x134.1.Closed
     )
   )
 )
end Go.Fn
