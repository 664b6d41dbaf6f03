/-
  A part of the proof: rules and plain facts. No condition.
-/
import Derived.Test.YtdnjagkihgjpcaaIlMb
import Derived.Shelf.Sort.Plain
import Derived.Shelf.Slices.In.SortNone
import Derived.Shelf.SlSortCmp.WholeK
import Derived.Shelf.SlSortCmp.NoneTotal
set_option linter.all false
namespace Go.IL
section
variable {α : Type} (k : α → Int)
def putK (x : α) : List α → List α
  | []=>[x]
  | y :: l=>if k x ≤ k y then x :: y :: l else y :: putK x l
def lK : List α → List α
  | []=>[]
  | x :: l=>putK k x (lK l)
theorem qF (x : α) : ∀ l : List α,(putK k x l).Perm (x :: l)
  | []=>.refl _
  | y :: l => by
    unfold putK
    split
    · exact .refl _
    · exact ((qF x l).cons y).trans (.swap x y l)
theorem kQ : ∀ l : List α,(lK k l).Perm l
  | []=>.refl _
  | x :: l=>(qF k x _).trans ((kQ l).cons x)
theorem qE (x : α) : ∀ {l : List α},l.Pairwise (fun a b=>k a ≤ k b) → (putK k x l).Pairwise (fun a b=>k a ≤ k b)
  | [],_=>List.pairwise_singleton _ _
  | y :: l, h => by
    obtain ⟨h1,h2⟩:=List.pairwise_cons.1 h
    unfold putK
    split
    · rename_i hx
      refine List.pairwise_cons.2 ⟨fun z hz=>?_,h⟩
      rcases List.mem_cons.1 hz with rfl | hz
      · exact hx
      · have:=h1 z hz; omega
    · rename_i hx
      refine List.pairwise_cons.2 ⟨fun z hz=>?_,qE x h2⟩
      rcases List.mem_cons.1 ((qF k x l).mem_iff.1 hz) with rfl | hz
      · omega
      · exact h1 z hz
theorem lL : ∀ l : List α,(lK k l).Pairwise (fun a b=>k a ≤ k b)
  | []=>.nil
  | x :: l=>qE k x (lL l)
theorem rH : ∀ {l m : List α}, l.Perm m → (∀ a ∈ l, ∀ b ∈ l, k a = k b → a = b) → l.Pairwise (fun a b => k a ≤ k b) → m.Pairwise (fun a b => k a ≤ k b) → l = m
  | [],m,hp,_,_,_=>(List.nil_perm.1 hp).symm
  | x :: l,[],hp,_,_,_=>by have:=hp.length_eq; simp at this
  | x :: l, y :: m, hp, hi, h1, h2 => by
    obtain ⟨a1,a2⟩:=List.pairwise_cons.1 h1
    obtain ⟨b1,b2⟩:=List.pairwise_cons.1 h2
    have hy : y ∈ x :: l:=hp.mem_iff.2 (by simp)
    have hx : x ∈ y :: m:=hp.mem_iff.1 (by simp)
    have e : x = y:=by
      refine hi x (by simp) y hy ?_
      have l1 : k x ≤ k y:=by
        rcases List.mem_cons.1 hy with e | h
        · rw [e]; exact Int.le_refl _
        · exact a1 y h
      have l2 : k y ≤ k x:=by
        rcases List.mem_cons.1 hx with e | h
        · rw [e]; exact Int.le_refl _
        · exact b1 x h
      omega
    subst e
    rw [rH (List.Perm.cons_inv hp) (fun a ha b hb=>hi a (by simp [ha]) b (by simp [hb])) a2 b2]
theorem tQ {l m : List α} (hp : m.Perm l) (hi : ∀ a ∈ l,∀ b ∈ l,k a = k b → a = b) (hs : m.Pairwise (fun a b=>k a ≤ k b)) : lK k l = m :=
  (rH k (hp.trans (kQ k l).symm) (fun a ha b hb=>hi a (hp.mem_iff.1 ha) b (hp.mem_iff.1 hb)) hs (lL k l)).symm
def uF (good : α → Bool) (l : List α) : Option (List α):=if decide (l.length < 4611686018427387904) && l.all good && decide (l.map k).Nodup then some (lK k l) else none
end
theorem pC {α : Type} {k : α → Int} : ∀ {l : List α},(l.map k).Nodup → ∀ a ∈ l,∀ b ∈ l,k a = k b → a = b
  | x :: l, h, a, ha, b, hb, e => by
    obtain ⟨h1,h2⟩:=List.nodup_cons.1 h
    rcases List.mem_cons.1 ha with g | g
    · rcases List.mem_cons.1 hb with g' | g'
      · rw [g,g']
      · exact absurd (List.mem_map.2 ⟨b,g',by rw [← e,g]⟩) h1
    · rcases List.mem_cons.1 hb with g' | g'
      · exact absurd (List.mem_map.2 ⟨a,g,by rw [e,g']⟩) h1
      · exact pC h2 a g b g' e
theorem sortK_e {α : Type} {k : α → Int} {good : α → Bool} {l r : List α} (h : uF k good l = some r) : l.length < 4611686018427387904 ∧ (∀ x ∈ l,good x = true) ∧ (l.map k).Nodup ∧ r = lK k l:=by
  unfold uF at h
  split at h
  · rename_i hc
    rw [Bool.and_eq_true,Bool.and_eq_true,decide_eq_true_iff,decide_eq_true_iff] at hc
    exact ⟨hc.1.1,List.all_eq_true.1 hc.1.2,hc.2,(Option.some.inj h).symm⟩
  · cases h
theorem sortK_t {α : Type} {k : α → Int} {good : α → Bool} {l : List α} (h1 : l.length ≤ 1000000) (h2 : ∀ x ∈ l,good x = true) (h3 : (l.map k).Nodup) : uF k good l = some (lK k l):=by
  unfold uF
  rw [decide_eq_true (by omega),List.all_eq_true.2 h2,decide_eq_true h3]; rfl
def uH (l : List Int) : Option (List Int):=if l.length < 4611686018427387904 then some (lK id l) else none
theorem sortI_e {l r : List Int} (h : uH l = some r) : l.length < 4611686018427387904 ∧ r = lK id l:=by
  unfold uH at h
  split at h
  · exact ⟨by assumption,(Option.some.inj h).symm⟩
  · cases h
theorem sortI_t {l : List Int} (h : l.length ≤ 1000000) : uH l = some (lK id l):=if_pos (by omega)
theorem uG (l : List Int) : l.mergeSort (fun x y=>decide (x ≤ y)) = lK id l:=by
  refine (tQ id (List.mergeSort_perm l _) (fun a _ b _ e=>e) ?_).symm
  refine (List.pairwise_mergeSort (fun a b c h1 h2=>?_) (fun a b=>?_) l).imp fun h=>of_decide_eq_true h
  · exact decide_eq_true (Int.le_trans (of_decide_eq_true h1) (of_decide_eq_true h2))
  · rw [Bool.or_eq_true,decide_eq_true_iff,decide_eq_true_iff]; omega
end Go.IL
open Go.RowKit (Below)
open Go.Sort
namespace Go.IL
def OH (E : Env) (β : bN) (H0 : List (Nat × Ent)) : bT:=⟨E.w,E.X,lV β H0,β,none,fun _=>[],fun _=>0,fun _=>[],fun _=>(#[],.skip,.skip)⟩
theorem oV {α : Type} [Inhabited α] (enc : α → Value) {zs zs' : List α} (sp : List Value) (hl : zs'.length = zs.length) : putCells enc 0 zs'.toArray (zs.map enc ++ sp).toArray = (zs'.map enc ++ sp).toArray:=by
  apply Array.ext_getElem?
  intro i
  unfold putCells
  rw [Array.getElem?_mapIdx,List.getElem?_toArray,List.getElem?_toArray]
  by_cases hi : i < zs.length
  · have hi' : i < zs'.length := by omega
    rw [List.getElem?_append_left (by simpa using hi),List.getElem?_append_left (by simpa using hi'),List.getElem?_map,List.getElem?_map,List.getElem?_eq_getElem hi,List.getElem?_eq_getElem hi']
    simp [hi']
  · rw [List.getElem?_append_right (by simp; omega), List.getElem?_append_right (by simp; omega), List.length_map, List.length_map, hl]
    cases sp[i - zs.length]? with
    | none=>rfl
    | some v =>
      simp only [Option.map_some]
      rw [if_neg (by simp; omega)]
theorem yC (h : Array Obj) (b : Nat) (f : Obj → Obj) (o : Obj) (e : h[b]? = some o) : (h.modify b f)[b]? = some (f o):=by
  rw [Array.getElem?_modify,if_pos rfl,e]; rfl
theorem tM (h : Array Obj) {b k : Nat} (f : Obj → Obj) (hk : k ≠ b) : (h.modify b f)[k]? = h[k]?:=by
  rw [Array.getElem?_modify,if_neg (Ne.symm hk)]
theorem xH {E : Env} {β : bN} {e : TypeId} {ds ds' : List D} {b n : Nat} {vs sp vs' : List Value} {g : Array Value → Array Value} (os : Array Obj)
    (hok : HOk (OH E β [(1000,.blk e ds)]) E β (entL [(1000,.blk e ds)])) (hb : β 1000 = some b) (hh : E.w.heap[b]? = some (.cells (List.toArray (vs ++ sp)) e (0,0))) (hX : ∀ o,E.X b o)
    (hg : g (List.toArray (vs ++ sp)) = List.toArray (vs' ++ sp)) (hl : vs'.length = vs.length) (hv : ∀ E',RdL E' β vs' ds') :
    HOk (OH E β [(1000,.blk e ds)]) ⟨grow (mapBlock (Sort.ahead E.w n) b g) os,E.X⟩ β (entL [(1000,.blk e ds')]):=by
  have hlt:=cP hh
  have hown : (OH E β [(1000,.blk e ds)]).own b:=hok.own (j:=1000) rfl hb
  let E1 : Env:=⟨mapBlock (Sort.ahead E.w n) b g,E.X⟩
  have hat : E1.w.heap[b]? = some (.cells (List.toArray (vs' ++ sp)) e (0,0)):=by
    show (E.w.heap.modify b (onCells g))[b]? = _
    rw [yC _ _ _ _ hh]
    show some (Obj.cells (g _) e (0,0)) = _
    rw [hg]
  have hs : Step (OH E β [(1000,.blk e ds)]) E E1 b:=⟨rfl,rfl,rfl,by show E.w.heap.size ≤ (E.w.heap.modify b (onCells g)).size; rw [Array.size_modify]; exact Nat.le_refl _,by show b < (E.w.heap.modify b (onCells g)).size; rw [Array.size_modify]; exact hlt,hown,fun k _ hk=>tM _ _ hk,fun _ _ _=>Iff.rfl,fun _ h=>by rw [hh] at h; cases h⟩
  have hle : E.le E1:=hs.le (fun o v _ h2=>absurd (hX o) h2) (fun c e' f h3=>by
    rw [hh] at h3; cases h3
    exact ⟨_,_,hat,by simp [hl]⟩)
  have hput : HOk (OH E β [(1000,.blk e ds)]) E1 β (entL [(1000,.blk e ds')]):=by
    refine HOk.put hok hs hle (bN.le.refl _) (id:=1000) ?_ ?_ hb ?_ (fun _ _=>trivial)
    · intro j hj; left; exact ⟨by simp [entL,aO,Ne.symm hj],rfl⟩
    · intro j hj hheld hbj
      have : (entL [(1000,Ent.blk e ds)] j).held = true:=by simpa [entL,aO,Ne.symm hj] using hheld
      exact hj (hok.inj j 1000 b this rfl hbj hb)
    · exact ⟨_,sp,hat,hX,hv _⟩
  exact hput.below ⟨rfl,rfl,rfl,by show E1.w.heap.size ≤ (E1.w.heap ++ os).size; rw [Array.size_append]; omega,fun k hk=>by
    show (E1.w.heap ++ os)[k]? = _
    rw [Array.getElem?_append_left hk]⟩
theorem vB {E : Env} {β : bN} : Rd E β (.tuple #[]) (retD []):=.tuple _ [] [] (.nil _)
theorem yZ {P : Program} {f : FuncId} {e : TypeId} {n sz : Nat} {ds ds' ar : List D} (us : List Value) (has : ∀ E β xs,RdL E β xs ar → xs = us)
    (hnil : n = 0 → ds' = ds ∧ ∀ (p : Option Addr) (cap : Nat) (w : World),Calls P f ((.slice p 0 cap) :: us).toArray w fun e w'=>e = .returned (.tuple #[]) ∧ Below w.heap.size w w')
    (hrow : ∀ (E : Env) (β : bN) (b cap : Nat) (vs sp : List Value) ,RdL E β vs ds → E.good → E.w.heap[b]? = some (.cells (List.toArray (vs ++ sp)) e (0,0)) →
      Calls P f ((.slice (some ⟨b,0,none⟩) n cap) :: us).toArray E.w fun e w'=>e = .returned (.tuple #[]) ∧ ∃ g k os vs',w' = grow (mapBlock (Sort.ahead E.w k) b g) os ∧ g (List.toArray (vs ++ sp)) = List.toArray (vs' ++ sp) ∧ vs'.length = vs.length ∧ ∀ E' β',RdL E' β' vs' ds') :
    FnH P f (.osl 1000 sz n :: ar) [(1000,.blk e ds)] (retD []) [(1000,.blk e ds')]:=by
  intro E β xs hX hβ hok hvs
  cases hvs with
  | cons h1 h2 =>
    obtain rfl:=has _ _ _ h2
    cases h1 with
    | nosl =>
      obtain ⟨e1,h3⟩:=hnil rfl
      subst e1
      refine (h3 none 0 E.w).mono ?_
      rintro e' w' ⟨rfl,hb⟩
      exact ⟨_,rfl,⟨w',E.X⟩,β,rfl,hok.below hb,vB⟩
    | osl _ _ b _ cap _ hb hc hsz c e' fz hcap hcs hcm =>
      have hent:=hok.ent 1000
      obtain ⟨vs,sp,g1,g2,g3,g4⟩:=nG (show rD (OH E β [(1000,.blk e ds)]) E β 1000 (.blk e ds) from hent) hb
      refine (hrow E β b cap vs sp g4 hX g2).mono ?_
      rintro e'' w' ⟨rfl,g,k,os,vs',rfl,k1,k2,k3⟩
      exact ⟨_,rfl,⟨_,E.X⟩,β,rfl,xH os hok hb g2 g3 k1 k2 (fun E'=>k3 E' β),vB⟩
theorem vD {E : Env} {β : bN} {k : IntKind} : ∀ {l : List Int} {vs : List Value},RdL E β vs (D.flat (l.map (eInt k).d)) → vs = l.map (Value.int k)
  | [],vs,h=>by cases h; rfl
  | x :: l, vs, h => by
    have h : RdL E β vs (.int k x :: D.flat (l.map (eInt k).d)):=h
    cases h with
    | cons h1 h2 =>
      rw [vD h2,iT h1]; rfl
theorem vP (E : Env) (β : bN) (k : IntKind) : ∀ (l : List Int),RdL E β (l.map (Value.int k)) (D.flat (l.map (eInt k).d))
  | []=>.nil _
  | x :: l=>.cons (.int _ _ _) (vP E β k l)
theorem wO {w : World} {b : Nat} {e : TypeId} {zs : List Int} {sp : List Value} (hh : w.heap[b]? = some (.cells (List.toArray (zs.map (Value.int .i64) ++ sp)) e (0,0))) : Holds (Value.int .i64) w b 0 zs.toArray:=fun j hj=>by
  have hj : j < zs.length:=by simpa using hj
  refine ⟨?_,by simp [World.frozen?,hh]⟩
  simp only [World.cell?,hh,Nat.zero_add,Option.isSome_none,Bool.false_eq_true,if_false,List.getElem?_toArray]
  rw [List.getElem?_append_left (by simpa using hj),List.getElem?_map,List.getElem?_eq_getElem hj]
  simp [hj]
theorem yX {P : Program} {ρ : Shelf.Ren} (L : Proofs.Lays.n189 P ρ) {e : TypeId} (a0 : List Int) (r : List Int) (h : uH a0 = some r) :
    FnH P (ρ.f 189) [.osl 1000 (eInt .i64).sz a0.length] [(1000,.blk e (D.flat (a0.map (eInt .i64).d)))] (retD []) [(1000,.blk e (D.flat (r.map (eInt .i64).d)))]:=by
  obtain ⟨h1,rfl⟩:=sortI_e h
  refine yZ [] (fun E β xs h=>by cases h; rfl) (fun h0=>?_) (fun E β b cap vs sp hv _ hh=>?_)
  · obtain rfl := List.length_eq_zero_iff.1 h0
    refine ⟨rfl,fun p cap w=>(Proofs.Any.slices_Sort_int_none L p cap w).mono ?_⟩
    rintro e w' h
    exact ⟨h.1,by rw [h.2]; exact Below.refl _ _⟩
  · obtain rfl := vD hv
    refine (Proofs.Any.slices_Sort_int L b 0 cap a0 E.w (wO hh) (cP hh) h1).mono ?_
    rintro e w' ⟨rfl,n,os,rfl⟩
    rw [uG]
    have hl:=(kQ id a0).length_eq
    exact ⟨rfl,_,n,os,(lK id a0).map (Value.int .i64),rfl,oV _ sp hl,by simp [hl],fun E' β'=>vP E' β' _ _⟩
theorem tF {E : Env} {β : bN} : ∀ {d1 d2 : List D} {vs : List Value},RdL E β vs (d1 ++ d2) → ∃ v1 v2,vs = v1 ++ v2 ∧ RdL E β v1 d1 ∧ RdL E β v2 d2
  | [],d2,vs,h=>⟨[],vs,rfl,.nil _,h⟩
  | d :: d1, d2, vs, h => by
    cases h with
    | cons h1 h2 =>
      obtain ⟨v1,v2,rfl,h3,h4⟩:=tF h2
      exact ⟨_ :: v1,v2,rfl,.cons h1 h3,h4⟩
theorem vE {T : Type} {f : Enc T} {enc : T → List Value} (hrd : ∀ E β x vs,RdL E β vs (f.d x).cells → vs = enc x) {E : Env} {β : bN} : ∀ {l : List T} {vs : List Value},RdL E β vs (D.flat (l.map f.d)) → vs = l.flatMap enc
  | [],vs,h=>by cases h; rfl
  | x :: l, vs, h => by
    obtain ⟨v1,v2,rfl,h1,h2⟩:=tF (show RdL E β vs ((f.d x).cells ++ D.flat (l.map f.d)) from h)
    rw [hrd E β x v1 h1,vE hrd h2]; rfl
theorem vV {T : Type} {f : Enc T} {enc : T → List Value} (hrd' : ∀ E β x,RdL E β (enc x) (f.d x).cells) (E : Env) (β : bN) : ∀ l : List T,RdL E β (l.flatMap enc) (D.flat (l.map f.d))
  | []=>.nil _
  | x :: l=>(hrd' E β x).append (vV hrd' E β l)
theorem vU {α : Type} [Inhabited α] {enc : α → List Value} {k : Nat} (hk : ∀ x, (enc x).length = k) (h0 : 0 < k) : ∀ (l : List α) (t : Nat), t < l.length * k → (l.flatMap enc)[t]! = (enc l[t / k]!)[t % k]!
  | [],t,h=>by simp at h
  | x :: l, t, h => by
    rw [List.flatMap_cons]
    by_cases ht : t < k
    · rw [Nat.div_eq_of_lt ht, Nat.mod_eq_of_lt ht, getElem!_pos _ t (by rw [List.length_append, hk]; omega), List.getElem_append_left (by rw [hk]; exact ht)]
      rw [show (x :: l)[0]! = x from rfl,getElem!_pos (enc x) t (by rw [hk]; exact ht)]
    · have h2 : t - k < l.length * k := by rw [List.length_cons, Nat.add_mul, Nat.one_mul] at h; omega
      have hfl : (l.flatMap enc).length = l.length * k:=by
        rw [List.length_flatMap,List.map_congr_left (fun x _=>hk x),List.map_const',List.sum_replicate_nat]
      have ih:=vU hk h0 l (t - k) h2
      rw [getElem!_pos _ (t - k) (by rw [hfl]; exact h2)] at ih
      rw [getElem!_pos _ t (by rw [List.length_append,hk,hfl]; omega),List.getElem_append_right (by rw [hk]; omega)]
      simp only [hk]
      have e1 : t / k = (t - k) / k + 1:=Nat.div_eq_sub_div h0 (Nat.le_of_not_lt ht)
      have e2 : t % k = (t - k) % k:=Nat.mod_eq_sub_mod (Nat.le_of_not_lt ht)
      rw [ih,e1,e2]
      rfl
theorem rR {α : Type} [Inhabited α] {enc : α → List Value} {k : Nat} (hk : ∀ x,(enc x).length = k) (h0 : 0 < k) (l : List α) : flatK enc k l.toArray = (l.flatMap enc).toArray:=by
  have hfl : (l.flatMap enc).length = l.length * k:=by
    rw [List.length_flatMap,List.map_congr_left (fun x _=>hk x),List.map_const',List.sum_replicate_nat]
  refine ext_get! (by simp [hfl]) fun t ht=>?_
  have ht : t < l.length * k:=by simpa using ht
  rw [get_flatK _ _ _ _ (by simpa using ht)]
  have:=vU hk h0 l t ht
  have e1 : (l.flatMap enc).toArray[t]! = (l.flatMap enc)[t]!:=by simp
  have e2 : l.toArray[t / k]! = l[t / k]!:=by simp
  rw [e1,this,e2]
theorem yY {P : Program} {ρ : Shelf.Ren} (L : Proofs.SlLaysF0.n6 P ρ) {T : Type} [Inhabited T] (f : Enc T) (enc : T → List Value) (key : T → Int) (good : T → Bool) (hgd : good default = true)
    (aE : ∀ w,(isAgg (ρ.t 24)).run P w = .ok true w) (zE : ∀ w,(Go.sizeOf (ρ.t 24)).run P w = .ok f.sz w) (hk : ∀ x,(enc x).length = f.sz) (h1 : ∀ x,∀ v ∈ enc x,v.oneCell' = true)
    (hrd : ∀ E β x vs,RdL E β vs (f.d x).cells → vs = enc x) (hrd' : ∀ E β x,RdL E β (enc x) (f.d x).cells) {g : Nat} (eg : ∀ args w,(callFunc g args).run P w = .ok (.enter g args) w)
    (hcmp : ∀ (x y : T) (W : World),good x = true → good y = true → Calls P g #[.agg (enc x).toArray,.agg (enc y).toArray] W fun e w'=>e = .returned (.int .i64 (key x - key y)) ∧ ∃ q os',w' = grow (W.drewN q) os')
    {e : TypeId} (a0 r : List T) (h : uF key good a0 = some r) :
    FnH P (ρ.f 6) [.osl 1000 f.sz a0.length,.fn g []] [(1000,.blk e (D.flat (a0.map f.d)))] (retD []) [(1000,.blk e (D.flat (r.map f.d)))]:=by
  obtain ⟨hlen,hg,hnd,rfl⟩:=sortK_e h
  refine yZ [.func (.func g) #[] #[]] (fun E β xs h=>?_) (fun h0=>?_) (fun E β b cap vs sp hv _ hh=>?_)
  · cases h with
    | cons h2 h3 =>
      cases h3
      obtain ⟨us,rfl,h4⟩:=xM h2
      cases h4; rfl
  · obtain rfl := List.length_eq_zero_iff.1 h0
    refine ⟨rfl,fun p cap w=>(Proofs.AnyF.slices_SortFunc_none L p cap _ w).mono ?_⟩
    rintro e w' h
    exact ⟨h.1,by rw [h.2]; exact Below.refl _ _⟩
  · obtain rfl := vE hrd hv
    let α:={ x : T // good x = true }
    letI : Inhabited α:=⟨⟨default,hgd⟩⟩
    let enc' : α → List Value:=fun x=>enc x.1
    let cf : α → α → Int:=fun x y=>key x.1 - key y.1
    let l : List α:=a0.attachWith (fun x=>good x = true) hg
    have hk' : ∀ x : α,(enc' x).length = f.sz:=fun x=>hk x.1
    have hfm : ∀ m : List α,m.flatMap enc' = (m.map (·.1)).flatMap enc:=fun m=>by rw [List.flatMap_map]
    have hval : l.map (·.1) = a0:=by
      show (a0.attachWith _ hg).map (fun i=>id i.1) = _
      rw [List.attachWith_map_val]; exact List.map_id _
    have hll : l.toArray.size = a0.length:=by
      rw [List.size_toArray,← hval,List.length_map]
    have hO : SWO (Proofs.ltOf cf):={
      irrefl:=fun x=>by show decide (key x.1 - key x.1 < 0) = false; exact decide_eq_false (by omega)
      trans:=fun x y z h1 h2=>by
        have h1:=of_decide_eq_true (show decide (key x.1 - key y.1 < 0) = true from h1)
        have h2:=of_decide_eq_true (show decide (key y.1 - key z.1 < 0) = true from h2)
        show decide (key x.1 - key z.1 < 0) = true
        exact decide_eq_true (by omega)
      ntrans:=fun x y z h1 h2=>by
        have h1:=of_decide_eq_false (show decide (key x.1 - key y.1 < 0) = false from h1)
        have h2:=of_decide_eq_false (show decide (key y.1 - key z.1 < 0) = false from h2)
        show decide (key x.1 - key z.1 < 0) = false
        exact decide_eq_false (by omega) }
    have hH : HoldsK enc' f.sz E.w b 0 l.toArray:=by
      unfold HoldsK
      rw [rR hk' f.pos,hfm,hval]
      intro j hj
      have hj : j < (a0.flatMap enc).length:=by simpa using hj
      refine ⟨?_,by simp [World.frozen?,hh]⟩
      simp only [World.cell?,hh,Nat.zero_add,Option.isSome_none,Bool.false_eq_true,if_false,List.getElem?_toArray]
      rw [List.getElem?_append_left hj]
      simp [List.getElem?_eq_getElem hj]
    have hC:=Proofs.AnyQ.slices_SortFunc L f.sz aE zE enc' hk' (fun x=>h1 x.1) cf hO g #[] b 0 cap l.toArray E.w eg (fun m os dk _ x y=>hcmp x.1 y.1 _ x.2 y.2) hH (cP hh) (by rw [hll]; exact hlen)
    rw [hll] at hC
    refine hC.mono ?_
    rintro e' w' ⟨rfl,d',n,os,hp,hs,rfl⟩
    have hsz : d'.size = a0.length:=hp.1.trans hll
    have hperm : (d'.toList.map (·.1)).Perm a0:=by
      have:=hp.2.2
      rw [Array.extract_eq_self_of_le (by rw [hsz]; exact Nat.le_refl _),Array.extract_eq_self_of_le (by rw [hll]; exact Nat.le_refl _)] at this
      have:=this.map (·.1)
      rwa [show l.toArray.toList = l from rfl,hval] at this
    have hsort : (d'.toList.map (·.1)).Pairwise (fun a b=>key a ≤ key b):=by
      rw [List.pairwise_map,List.pairwise_iff_getElem]
      intro i j hi hj hij
      have hj' : j < d'.size:=by simpa using hj
      have h9:=hs i j (Nat.zero_le _) hij (by rw [← hsz]; exact hj')
      have h9:=of_decide_eq_false (show decide (key (d'[j]!).1 - key (d'[i]!).1 < 0) = false from h9)
      rw [getElem!_pos d' j hj',getElem!_pos d' i (by omega)] at h9
      show key (d'.toList[i]).1 ≤ key (d'.toList[j]).1
      rw [Array.getElem_toList,Array.getElem_toList]
      omega
    have hr : lK key a0 = d'.toList.map (·.1):=tQ key hperm (pC hnd) hsort
    have hl : ((lK key a0).flatMap enc).length = (a0.flatMap enc).length:=((kQ key a0).flatMap_right enc).length_eq
    refine ⟨rfl,_,n,os,(lK key a0).flatMap enc,rfl,?_,hl,fun E' β'=>vV hrd' E' β' _⟩
    have e1 : flatK enc' f.sz d' = ((lK key a0).flatMap enc).toArray:=by
      rw [hr,← hfm,← rR hk' f.pos]
    rw [e1]
    have:=oV id sp hl
    rw [List.map_id,List.map_id] at this
    exact this
end Go.IL
open Go Go.IL
namespace Go.Fn
structure T_fold_Op where
  Kind : Int
  ID : Int
  Dep : Int
  Weight : Int
  Only : Bool
  deriving DecidableEq,Inhabited
structure aZ where
  ID : Int
  Parent : Int
  Weight : Int
  Closed : Bool
  deriving DecidableEq,Inhabited
def aQ : Enc aZ:=⟨⟨fun x=>.agg [.int .i64 x.ID,.int .i64 x.Parent,.int .i64 x.Weight,.bool x.Closed],4,by decide,fun _=>⟨rfl,rfl⟩⟩,fun _=>rfl⟩

structure uA where
  Room : Int
  Keep : Int
  Nodes : (List aZ)
  Ended : (List Int)
  deriving DecidableEq,Inhabited
def cW (a0 : (List Int)) (a1 : Int) : Nat → Int → Option Int
  | 0,_=>none
  | n0 + 1, v7 =>
    bnd (decide (v7 < (a0.length : Int))) fun x14 =>
    bif x14 then (
      bno (gix a0 v7) fun x16 =>
      bnd (decide (a1 = x16)) fun x17 =>
      bif x17 then (
        some v7
      ) else (
        bnd (IntKind.wrap .i64 (v7 + 1)) fun x19 =>
        (cW a0 a1 n0) x19
      )
    ) else (
      some (-1)
    )
def iQ (a0 : (List Int)) (a1 : Int) : Option Int :=
  cW a0 a1 fuel 0

def fQ (a0 : (List Int)) (a1 : Int) : Option Bool :=
  bno (iQ a0 a1) fun x1 =>
  bnd (decide (0 ≤ x1)) fun x2 =>
  some x2

def fR (a0 : (List Int)) (a1 : (List Int)) : Nat → Int → Option Bool
  | 0,_=>none
  | n0 + 1, v10 =>
    bnd (decide (v10 < (a0.length : Int))) fun x18 =>
    bif x18 then (
      bno (gix a0 v10) fun x20 =>
      bno (gix a1 v10) fun x21 =>
      bnd (!decide (x20 = x21)) fun x22 =>
      bif x22 then (
        some false
      ) else (
        bnd (IntKind.wrap .i64 (v10 + 1)) fun x24 =>
        (fR a0 a1 n0) x24
      )
    ) else (
      some true
    )
def dG (a0 : (List Int)) (a1 : (List Int)) : Option Bool :=
  bnd (!decide ((a0.length : Int) = (a1.length : Int))) fun x1 =>
  bif x1 then (
    some false
  ) else (
    fR a0 a1 fuel 0
  )

end Go.Fn
open Go Go.IL
namespace Go.Fn
structure cE where
  Kind : Int
  ID : Int
  Dep : Int
  Weight : Int
  Only : Bool
  deriving DecidableEq,Inhabited
def dB : Enc cE:=⟨⟨fun x=>.agg [.int .u8 x.Kind,.int .i64 x.ID,.int .i64 x.Dep,.int .i64 x.Weight,.bool x.Only],5,by decide,fun _=>⟨rfl,rfl⟩⟩,fun _=>rfl⟩

structure aI where
  Live : Bool
  Value : Int
  Link : Int
  deriving DecidableEq,Inhabited
def aP : Enc aI:=⟨⟨fun x=>.agg [.bool x.Live,.int .i64 x.Value,.int .i64 x.Link],3,by decide,fun _=>⟨rfl,rfl⟩⟩,fun _=>rfl⟩

structure bE where
  Cells : (List aI)
  Free : Int
  Used : Int
  deriving DecidableEq,Inhabited
structure aG where
  id : Int
  up : Int
  first : Int
  next : Int
  weight : Int
  closed : Bool
  deriving DecidableEq,Inhabited
def aB : Enc aG:=⟨⟨fun x=>.agg [.int .i64 x.id,.int .i64 x.up,.int .i64 x.first,.int .i64 x.next,.int .i64 x.weight,.bool x.closed],6,by decide,fun _=>⟨rfl,rfl⟩⟩,fun _=>rfl⟩

structure eW where
  dep : Int
  weight : Int
  only : Bool
  deriving DecidableEq,Inhabited
def jJ (a0 : Int) (a1 : Int) (a2 : Int) : Option Bool :=
  bnd (decide (a1 ≤ a0)) fun x1 =>
  bnd (decide (a0 ≤ a2)) fun x2 =>
  bnd (x1 && x2) fun x3 =>
  some x3

def mY  : Option bE :=
  some (⟨[],(-1),0⟩ : bE)

def fX (a0 : eW) (a1 : Int) (v6 : Bool) : Option Int :=
  bif v6 then (
    some 8
  ) else (
    bnd (decide (a1 = a0.dep)) fun x8 =>
    bif x8 then (
      some 4
    ) else (
      some 0
    )
  )
def iF (a0 : eW) (a1 : Int) : Option Int :=
  bno (jJ a1 1 1048576) fun x10 =>
  bif (!x10) then (
    fX a0 a1 (!x10)
  ) else (
    bno (jJ a0.dep 0 1048576) fun x12 =>
    bif (!x12) then (
      fX a0 a1 (!x12)
    ) else (
      bno (jJ a0.weight 1 256) fun x14 =>
      fX a0 a1 (!x14)
    )
  )

def gF (a0 : bE) (a1 : Int) : Option Bool :=
  bnd (decide ((-1) ≤ a1)) fun x1 =>
  bnd (decide (a1 < (a0.Cells.length : Int))) fun x2 =>
  bnd (x1 && x2) fun x3 =>
  some x3

def iJ (a0 : bE) (a1 : aI) : Option Bool :=
  bno (gd ((!a1.Live) == true) (gF a0 a1.Link) default) fun x1 =>
  bnd ((!a1.Live) && (!x1)) fun x2 =>
  some x2

def bI (a0 : (List aI)) (a1 : bE) : Nat → Int → Option Int
  | 0,_=>none
  | n0 + 1, v7 =>
    bnd (decide (v7 < (a0.length : Int))) fun x14 =>
    bif x14 then (
      bno (gix a0 v7) fun x16 =>
      bno (iJ a1 x16) fun x17 =>
      bif x17 then (
        some v7
      ) else (
        bnd (IntKind.wrap .i64 (v7 + 1)) fun x19 =>
        (bI a0 a1 n0) x19
      )
    ) else (
      some (-1)
    )
def cR (a0 : (List aI)) (a1 : bE) : Option Int :=
  bI a0 a1 fuel 0

def cJ (a0 : (List aI)) (a1 : bE) : Option Bool :=
  bno (cR a0 a1) fun x1 =>
  bnd (decide (0 ≤ x1)) fun x2 =>
  some x2

def mX (a0 : aI) : Option Bool :=
  bif a0.Live then (
    bnd (!decide (a0.Link = 0)) fun x2 =>
    some x2
  ) else (
    bnd (!decide (a0.Value = 0)) fun x3 =>
    some x3
  )

def bM (a0 : (List aI)) : Nat → Int → Option Int
  | 0,_=>none
  | n0 + 1, v7 =>
    bnd (decide (v7 < (a0.length : Int))) fun x14 =>
    bif x14 then (
      bno (gix a0 v7) fun x16 =>
      bno (mX x16) fun x17 =>
      bif x17 then (
        some v7
      ) else (
        bnd (IntKind.wrap .i64 (v7 + 1)) fun x19 =>
        (bM a0 n0) x19
      )
    ) else (
      some (-1)
    )
def dC (a0 : (List aI)) : Option Int :=
  bM a0 fuel 0

def cS (a0 : (List aI)) : Option Bool :=
  bno (dC a0) fun x1 =>
  bnd (decide (0 ≤ x1)) fun x2 =>
  some x2

def eN (a0 : bE) : Nat → (List Int) → Int → Option ((List Int) × Bool)
  | 0,_,_=>none
  | n0 + 1, v9, v10 =>
    bnd (decide (v10 = (-1))) fun x19 =>
    bif x19 then (
      some (v9,true)
    ) else (
      bno (gix a0.Cells v10) fun x21 =>
      bno (gd (x21.Live == false) (fQ v9 v10) default) fun x22 =>
      bnd (x21.Live || x22) fun x23 =>
      bif x23 then (
        some (v9,false)
      ) else (
        bno (app 8 v9 ([v10] : (List Int))) fun x25 =>
        bno (gix a0.Cells v10) fun x26 =>
        (eN a0 n0) x25 x26.Link
      )
    )
def jO (a0 : bE) : Option ((List Int) × Bool) :=
  eN a0 fuel ([] : (List Int)) a0.Free

def gH (a0 : bE) : Nat → Int → Int → Option Int
  | 0,_,_=>none
  | n1 + 1, v17, v18 =>
    bnd (decide (v18 < (a0.Cells.length : Int))) fun x26 =>
    bif x26 then (
      bno (gix a0.Cells v18) fun x28 =>
      bif x28.Live then (
        bnd (IntKind.wrap .i64 (v17 + 1)) fun x30 =>
        bnd (IntKind.wrap .i64 (v18 + 1)) fun x31 =>
        (gH a0 n1) x30 x31
      ) else (
        bnd (IntKind.wrap .i64 (v18 + 1)) fun x32 =>
        (gH a0 n1) v17 x32
      )
    ) else (
      bno (jO a0) fun x33 =>
      bnd (!decide (v17 = a0.Used)) fun x34 =>
      bnd ((!x33.2) || x34) fun x35 =>
      bnd (IntKind.wrap .i64 (v17 + (x33.1.length : Int))) fun x36 =>
      bnd (!decide (x36 = (a0.Cells.length : Int))) fun x37 =>
      bnd (x35 || x37) fun x38 =>
      bif x38 then (
        some 10
      ) else (
        some 0
      )
    )
def jT (a0 : bE) (v6 : Bool) : Option Int :=
  bif v6 then (
    some 8
  ) else (
    bno (cS a0.Cells) fun x8 =>
    bif x8 then (
      some 4
    ) else (
      gH a0 fuel 0 0
    )
  )
def kC (a0 : bE) : Option Int :=
  bnd (decide (64 < (a0.Cells.length : Int))) fun x1 =>
  bif x1 then (
    some 5
  ) else (
    bno (gF a0 a0.Free) fun x40 =>
    bif (!x40) then (
      jT a0 (!x40)
    ) else (
      bno (cJ a0.Cells a0) fun x42 =>
      jT a0 x42
    )
  )

def gW (a0 : bE) : Nat → (List Int) → Int → Option (List Int)
  | 0,_,_=>none
  | n0 + 1, v11, v12 =>
    bnd (decide (v12 < (a0.Cells.length : Int))) fun x20 =>
    bif x20 then (
      bno (gix a0.Cells v12) fun x22 =>
      bif x22.Live then (
        bno (app 8 v11 ([v12] : (List Int))) fun x24 =>
        bnd (IntKind.wrap .i64 (v12 + 1)) fun x25 =>
        (gW a0 n0) x24 x25
      ) else (
        bnd (IntKind.wrap .i64 (v12 + 1)) fun x26 =>
        (gW a0 n0) v11 x26
      )
    ) else (
      some v11
    )
def lN (a0 : bE) : Option (List Int) :=
  bno (kC a0) fun x1 =>
  bnd (!decide (x1 = 0)) fun x2 =>
  bif x2 then (
    some []
  ) else (
    gW a0 fuel ([] : (List Int)) 0
  )

def eI (a0 : Int) (a6 : (List aG)) (x1 : (List Int)) : Nat → Int → Option Int
  | 0,_=>none
  | n0 + 1, v11 =>
    bnd (decide (v11 < (x1.length : Int))) fun x21 =>
    bif x21 then (
      bno (gix x1 v11) fun x23 =>
      bno (gix a6 x23) fun x24 =>
      chk (a6.length = 64) <|bno (a6[(x23 : Int).toNat]?) fun x26 =>
      bnd (decide (x26.id = a0)) fun x27 =>
      bif x27 then (
        some x23
      ) else (
        bnd (IntKind.wrap .i64 (v11 + 1)) fun x29 =>
        (eI a0 a6 x1 n0) x29
      )
    ) else (
      some (-1)
    )
def cD (a0 : Int) (a1 : Int) (a2 : Int) (a3 : (List aI)) (a4 : Int) (a5 : Int) (a6 : (List aG)) (a7 : Int) (a8 : (List Int)) : Option Int :=
  bno (lN (⟨a3,a4,a5⟩ : bE)) fun x1 =>
  eI a0 a6 x1 fuel 0

def dI (a0 : Int) (a1 : Int) (a2 : (List aI)) (a3 : Int) (a4 : Int) (a5 : (List aG)) (a6 : Int) (a7 : (List Int)) : Option Int :=
  some a4

def dV (a0 : Int) (a1 : Int) (a2 : Int) (a3 : (List aI)) (a4 : Int) (a5 : Int) (a6 : (List aG)) (a7 : Int) (a8 : (List Int)) : Nat → Nat → Option (Int × Int × (List aI) × Int × Int × (List aG) × Int × (List Int))
  | 0,_=>none
  | n0 + 1, v14 =>
    bno (a6[v14]?) fun x20 =>
    bnd (!decide (x20.next = a0)) fun x21 =>
    bif x21 then (
      bno (a6[v14]?) fun x23 =>
      bno (gix a6 x23.next) fun x24 =>
      (dV a0 a1 a2 a3 a4 a5 a6 a7 a8 n0) ((x23.next : Int).toNat)
    ) else (
      bno (gix a6 a0) fun x25 =>
      bno (a6[(a0 : Int).toNat]?) fun x26 =>
      bno (a6[v14]?) fun x27 =>
      bnd (a6.set v14 (⟨x27.id,x27.up,x27.first,x26.next,x27.weight,x27.closed⟩ : aG)) fun x28 =>
      some (a1,a2,a3,a4,a5,x28,a7,a8)
    )
def dU (a0 : Int) (a1 : Int) (a2 : Int) (a3 : (List aI)) (a4 : Int) (a5 : Int) (a6 : (List aG)) (a7 : Int) (a8 : (List Int)) : Nat → Nat → Option (Int × Int × (List aI) × Int × Int × (List aG) × Int × (List Int))
  | 0,_=>none
  | n1 + 1, v42 =>
    bno (a6[v42]?) fun x48 =>
    bnd (!decide (x48.next = a0)) fun x49 =>
    bif x49 then (
      bno (a6[v42]?) fun x51 =>
      bno (gix a6 x51.next) fun x52 =>
      (dU a0 a1 a2 a3 a4 a5 a6 a7 a8 n1) ((x51.next : Int).toNat)
    ) else (
      bno (gix a6 a0) fun x53 =>
      bno (a6[(a0 : Int).toNat]?) fun x54 =>
      bno (a6[v42]?) fun x55 =>
      bnd (a6.set v42 (⟨x55.id,x55.up,x55.first,x54.next,x55.weight,x55.closed⟩ : aG)) fun x56 =>
      some (a1,a2,a3,a4,a5,x56,a7,a8)
    )
def fF (a0 : Int) (a1 : Int) (a2 : Int) (a3 : (List aI)) (a4 : Int) (a5 : Int) (a6 : (List aG)) (a7 : Int) (a8 : (List Int)) : Option (Int × Int × (List aI) × Int × Int × (List aG) × Int × (List Int)) :=
  bno (gix a6 a0) fun x1 =>
  chk (a6.length = 64) <|bno (a6[(a0 : Int).toNat]?) fun x3 =>
  bnd (decide (x3.up = (-1))) fun x4 =>
  bif x4 then (
    bnd (!decide (a7 = a0)) fun x6 =>
    bif x6 then (
      bno (gix a6 a7) fun x8 =>
      dV a0 a1 a2 a3 a4 a5 a6 a7 a8 fuel ((a7 : Int).toNat)
    ) else (
      bno (gix a6 a0) fun x29 =>
      bno (a6[(a0 : Int).toNat]?) fun x30 =>
      some (a1,a2,a3,a4,a5,a6,x30.next,a8)
    )
  ) else (
    bno (gix a6 x3.up) fun x31 =>
    bno (a6[(x3.up : Int).toNat]?) fun x32 =>
    bnd (!decide (x32.first = a0)) fun x33 =>
    bif x33 then (
      bno (a6[(x3.up : Int).toNat]?) fun x35 =>
      bno (gix a6 x35.first) fun x36 =>
      dU a0 a1 a2 a3 a4 a5 a6 a7 a8 fuel ((x35.first : Int).toNat)
    ) else (
      bno (gix a6 a0) fun x57 =>
      bno (a6[(a0 : Int).toNat]?) fun x58 =>
      bno (a6[(x3.up : Int).toNat]?) fun x59 =>
      bnd (a6.set ((x3.up : Int).toNat) (⟨x59.id,x59.up,x58.next,x59.next,x59.weight,x59.closed⟩ : aG)) fun x60 =>
      some (a1,a2,a3,a4,a5,x60,a7,a8)
    )
  )

def eY (a0 : Int) (a1 : Int) (a2 : Int) (a3 : Int) (a4 : (List aI)) (a5 : Int) (a6 : Int) (a7 : (List aG)) (a8 : Int) (a9 : (List Int)) : Option (Int × Int × (List aI) × Int × Int × (List aG) × Int × (List Int)) :=
  bnd (decide (a1 = (-1))) fun x1 =>
  bif x1 then (
    chk (a7.length = 64) <|bno (gix a7 a0) fun x4 =>
    bno (a7[(a0 : Int).toNat]?) fun x5 =>
    bnd (a7.set ((a0 : Int).toNat) (⟨x5.id,a1,x5.first,x5.next,x5.weight,x5.closed⟩ : aG)) fun x6 =>
    bno (gix x6 a0) fun x7 =>
    bno (x6[(a0 : Int).toNat]?) fun x8 =>
    bnd (x6.set ((a0 : Int).toNat) (⟨x8.id,x8.up,x8.first,a8,x8.weight,x8.closed⟩ : aG)) fun x9 =>
    some (a2,a3,a4,a5,a6,x9,a0,a9)
  ) else (
    bno (gix a7 a1) fun x10 =>
    chk (a7.length = 64) <|bno (a7[(a1 : Int).toNat]?) fun x12 =>
    bno (gix a7 a0) fun x13 =>
    bno (a7[(a0 : Int).toNat]?) fun x14 =>
    bnd (a7.set ((a0 : Int).toNat) (⟨x14.id,a1,x14.first,x14.next,x14.weight,x14.closed⟩ : aG)) fun x15 =>
    bno (gix x15 a0) fun x16 =>
    bno (x15[(a0 : Int).toNat]?) fun x17 =>
    bnd (x15.set ((a0 : Int).toNat) (⟨x17.id,x17.up,x17.first,x12.first,x17.weight,x17.closed⟩ : aG)) fun x18 =>
    bno (x18[(a1 : Int).toNat]?) fun x19 =>
    bnd (x18.set ((a1 : Int).toNat) (⟨x19.id,x19.up,a0,x19.next,x19.weight,x19.closed⟩ : aG)) fun x20 =>
    some (a2,a3,a4,a5,a6,x20,a8,a9)
  )

def dH (a0 : Int) (a1 : Int) (a2 : Int) (a3 : Int) (a4 : (List aI)) (a5 : Int) (a6 : Int) (a7 : (List aG)) (a8 : Int) (a9 : (List Int)) : Option (Int × Int × (List aI) × Int × Int × (List aG) × Int × (List Int)) :=
  bno (fF a0 a2 a3 a4 a5 a6 a7 a8 a9) fun x1 =>
  bno (eY a0 a1 x1.1 x1.2.1 x1.2.2.1 x1.2.2.2.1 x1.2.2.2.2.1 x1.2.2.2.2.2.1 x1.2.2.2.2.2.2.1 x1.2.2.2.2.2.2.2) fun x2 =>
  some (x2.1,x2.2.1,x2.2.2.1,x2.2.2.2.1,x2.2.2.2.2.1,x2.2.2.2.2.2.1,x2.2.2.2.2.2.2.1,x2.2.2.2.2.2.2.2)

def cX (a0 : (List aI)) : Option (List aI) :=
  uV a0 (
    some ([] : (List aI))
  ) (
    bno (app 24 ([] : (List aI)) a0) fun x3 =>
    some x3
  )

def hD (a0 : bE) : Option ((List aI) × Int × Int) :=
  bno (cX a0.Cells) fun x1 =>
  some (x1,a0.Free,a0.Used)

def jC (a0 : bE) (a1 : Int) : Option Bool :=
  bnd (decide (0 ≤ a1)) fun x1 =>
  bnd (decide (a1 < (a0.Cells.length : Int))) fun x2 =>
  bnd (x1 && x2) fun x3 =>
  bno (gd (x3 == true) (gix a0.Cells a1) default) fun x4 =>
  bnd (x3 && x4.Live) fun x5 =>
  some x5

def kT (a0 : bE) (a1 : Int) : Option (bE × Int) :=
  bno (hD a0) fun x1 =>
  bno (kC a0) fun x2 =>
  bnd (!decide (x2 = 0)) fun x3 =>
  bif x3 then (
    some ((⟨x1.1,x1.2.1,x1.2.2⟩ : bE),x2)
  ) else (
    bno (jC a0 a1) fun x5 =>
    bif (!x5) then (
      some ((⟨x1.1,x1.2.1,x1.2.2⟩ : bE),6)
    ) else (
      bno (gix x1.1 a1) fun x7 =>
      bno (x1.1[(a1 : Int).toNat]?) fun x8 =>
      bnd (x1.1.set ((a1 : Int).toNat) (⟨false,0,x1.2.1⟩ : aI)) fun x9 =>
      bnd (IntKind.wrap .i64 (x1.2.2 - 1)) fun x10 =>
      some ((⟨x9,a1,x10⟩ : bE),0)
    )
  )

def jA (a0 : Int) (a1 : Int) : Option Bool :=
  bnd (decide (a0 = a1)) fun x1 =>
  some x1

def cK (a0 : (List Int)) (a1 : Int) : Nat → Int → Option Int
  | 0,_=>none
  | n0 + 1, v7 =>
    bnd (decide (v7 < (a0.length : Int))) fun x14 =>
    bif x14 then (
      bno (gix a0 v7) fun x16 =>
      bno (jA x16 a1) fun x17 =>
      bif x17 then (
        some v7
      ) else (
        bnd (IntKind.wrap .i64 (v7 + 1)) fun x19 =>
        (cK a0 a1 n0) x19
      )
    ) else (
      some (-1)
    )
def fU (a0 : (List Int)) (a1 : Int) : Option Int :=
  cK a0 a1 fuel 0

def bW (a1 : Int) : Nat → (List Int) → Int → Int → Option (List Int)
  | 0,_,_,_=>none
  | n0 + 1, v17, v18, v19 =>
    bnd (decide (v19 < (v17.length : Int))) fun x32 =>
    bif x32 then (
      bno (gix v17 v19) fun x34 =>
      bno (v17[(v19 : Int).toNat]?) fun x35 =>
      bno (jA x35 a1) fun x36 =>
      bif (!x36) then (
        bno (gix v17 v18) fun x38 =>
        bno (v17[(v18 : Int).toNat]?) fun x39 =>
        bnd (v17.set ((v18 : Int).toNat) x35) fun x40 =>
        bnd (IntKind.wrap .i64 (v18 + 1)) fun x41 =>
        bnd (IntKind.wrap .i64 (v19 + 1)) fun x42 =>
        (bW a1 n0) x40 x41 x42
      ) else (
        bnd (IntKind.wrap .i64 (v19 + 1)) fun x43 =>
        (bW a1 n0) v17 v18 x43
      )
    ) else (
      bno (cut v17 0 v18) fun x44 =>
      bno (cut x44 0 v18) fun x45 =>
      some x45
    )
def cL (a0 : (List Int)) (a1 : Int) : Option (List Int) :=
  bno (fU a0 a1) fun x1 =>
  bnd (decide (x1 = (-1))) fun x2 =>
  bif x2 then (
    some a0
  ) else (
    bnd (IntKind.wrap .i64 (x1 + 1)) fun x4 =>
    bW a1 fuel a0 x1 x4
  )

def iB (a0 : Int) (v53 : Int) (v63 : (List Int)) : Nat → Int → Int → Int → (List aI) → Int → Int → (List aG) → Int → (List Int) → Option (Int × Int × (List aI) × Int × Int × (List aG) × Int × (List Int))
  | 0,_,_,_,_,_,_,_,_,_=>none
  | n4 + 1, v92, v93, v94, v95, v96, v97, v98, v99, v100 =>
    bnd (decide (v92 < (v63.length : Int))) fun x120 =>
    bif x120 then (
      bno (gix v63 v92) fun x122 =>
      bno (v63[(v92 : Int).toNat]?) fun x123 =>
      bno (gix v98 a0) fun x124 =>
      chk (v98.length = 64) <|bno (v98[(a0 : Int).toNat]?) fun x126 =>
      bno (gix v98 x123) fun x127 =>
      bno (v98[(x123 : Int).toNat]?) fun x128 =>
      bnd (IntKind.wrap .i64 (x126.weight * x128.weight)) fun x129 =>
      bno (quoI .i64 x129 v53) fun x130 =>
      bnd (max x130 1) fun x131 =>
      bno (gix v98 x123) fun x132 =>
      bno (v98[(x123 : Int).toNat]?) fun x133 =>
      bnd (v98.set ((x123 : Int).toNat) (⟨x133.id,x133.up,x133.first,x133.next,x131,x133.closed⟩ : aG)) fun x134 =>
      bno (gix x134 a0) fun x135 =>
      bno (x134[(a0 : Int).toNat]?) fun x136 =>
      bno (dH x123 x136.up v93 v94 v95 v96 v97 x134 v99 v100) fun x137 =>
      bnd (IntKind.wrap .i64 (v92 + 1)) fun x138 =>
      (iB a0 v53 v63 n4) x138 x137.1 x137.2.1 x137.2.2.1 x137.2.2.2.1 x137.2.2.2.2.1 x137.2.2.2.2.2.1 x137.2.2.2.2.2.2.1 x137.2.2.2.2.2.2.2
    ) else (
      bno (fF a0 v93 v94 v95 v96 v97 v98 v99 v100) fun x139 =>
      bno (kT (⟨x139.2.2.1,x139.2.2.2.1,x139.2.2.2.2.1⟩ : bE) a0) fun x140 =>
      chk (x139.2.2.2.2.2.1.length = 64) <|bno (cL x139.2.2.2.2.2.2.2 a0) fun x142 =>
      some (x139.1,x139.2.1,x140.1.Cells,x140.1.Free,x140.1.Used,x139.2.2.2.2.2.1,x139.2.2.2.2.2.2.1,x142)
    )
def iC (a0 : Int) (a1 : Int) (a2 : Int) (a3 : (List aI)) (a4 : Int) (a5 : Int) (a6 : (List aG)) (a7 : Int) (a8 : (List Int)) (v53 : Int) : Nat → Int → (List Int) → Option (Int × Int × (List aI) × Int × Int × (List aG) × Int × (List Int))
  | 0,_,_=>none
  | n3 + 1, v62, v63 =>
    bnd (!decide (v62 = (-1))) fun x69 =>
    bif x69 then (
      bno (gix a6 v62) fun x71 =>
      bno (a6[(v62 : Int).toNat]?) fun x72 =>
      bno (app 8 v63 ([v62] : (List Int))) fun x73 =>
      (iC a0 a1 a2 a3 a4 a5 a6 a7 a8 v53 n3) x72.next x73
    ) else (
      iB a0 v53 v63 fuel 0 a1 a2 a3 a4 a5 a6 a7 a8
    )
def cC (a0 : Int) (v53 : Int) (v152 : (List Int)) : Nat → Int → Int → Int → (List aI) → Int → Int → (List aG) → Int → (List Int) → Option (Int × Int × (List aI) × Int × Int × (List aG) × Int × (List Int))
  | 0,_,_,_,_,_,_,_,_,_=>none
  | n6 + 1, v181, v182, v183, v184, v185, v186, v187, v188, v189 =>
    bnd (decide (v181 < (v152.length : Int))) fun x209 =>
    bif x209 then (
      bno (gix v152 v181) fun x211 =>
      bno (v152[(v181 : Int).toNat]?) fun x212 =>
      bno (gix v187 a0) fun x213 =>
      chk (v187.length = 64) <|bno (v187[(a0 : Int).toNat]?) fun x215 =>
      bno (gix v187 x212) fun x216 =>
      bno (v187[(x212 : Int).toNat]?) fun x217 =>
      bnd (IntKind.wrap .i64 (x215.weight * x217.weight)) fun x218 =>
      bno (quoI .i64 x218 v53) fun x219 =>
      bnd (max x219 1) fun x220 =>
      bno (gix v187 x212) fun x221 =>
      bno (v187[(x212 : Int).toNat]?) fun x222 =>
      bnd (v187.set ((x212 : Int).toNat) (⟨x222.id,x222.up,x222.first,x222.next,x220,x222.closed⟩ : aG)) fun x223 =>
      bno (gix x223 a0) fun x224 =>
      bno (x223[(a0 : Int).toNat]?) fun x225 =>
      bno (dH x212 x225.up v182 v183 v184 v185 v186 x223 v188 v189) fun x226 =>
      bnd (IntKind.wrap .i64 (v181 + 1)) fun x227 =>
      (cC a0 v53 v152 n6) x227 x226.1 x226.2.1 x226.2.2.1 x226.2.2.2.1 x226.2.2.2.2.1 x226.2.2.2.2.2.1 x226.2.2.2.2.2.2.1 x226.2.2.2.2.2.2.2
    ) else (
      bno (fF a0 v182 v183 v184 v185 v186 v187 v188 v189) fun x228 =>
      bno (kT (⟨x228.2.2.1,x228.2.2.2.1,x228.2.2.2.2.1⟩ : bE) a0) fun x229 =>
      chk (x228.2.2.2.2.2.1.length = 64) <|bno (cL x228.2.2.2.2.2.2.2 a0) fun x231 =>
      some (x228.1,x228.2.1,x229.1.Cells,x229.1.Free,x229.1.Used,x228.2.2.2.2.2.1,x228.2.2.2.2.2.2.1,x231)
    )
def eT (a0 : Int) (a1 : Int) (a2 : Int) (a3 : (List aI)) (a4 : Int) (a5 : Int) (a6 : (List aG)) (a7 : Int) (a8 : (List Int)) (v53 : Int) : Nat → Int → (List Int) → Option (Int × Int × (List aI) × Int × Int × (List aG) × Int × (List Int))
  | 0,_,_=>none
  | n5 + 1, v151, v152 =>
    bnd (!decide (v151 = (-1))) fun x158 =>
    bif x158 then (
      bno (gix a6 v151) fun x160 =>
      bno (a6[(v151 : Int).toNat]?) fun x161 =>
      bno (app 8 v152 ([v151] : (List Int))) fun x162 =>
      (eT a0 a1 a2 a3 a4 a5 a6 a7 a8 v53 n5) x161.next x162
    ) else (
      cC a0 v53 v152 fuel 0 a1 a2 a3 a4 a5 a6 a7 a8
    )
def fY (a0 : Int) (a1 : Int) (a2 : Int) (a3 : (List aI)) (a4 : Int) (a5 : Int) (a6 : (List aG)) (a7 : Int) (a8 : (List Int)) (v53 : Int) : Option (Int × Int × (List aI) × Int × Int × (List aG) × Int × (List Int)) :=
  bnd (decide (a0 = (-1))) fun x54 =>
  bif x54 then (
    chk (a6.length = 64) <|iC a0 a1 a2 a3 a4 a5 a6 a7 a8 v53 fuel a7 ([] : (List Int))
  ) else (
    bno (gix a6 a0) fun x143 =>
    chk (a6.length = 64) <|bno (a6[(a0 : Int).toNat]?) fun x145 =>
    eT a0 a1 a2 a3 a4 a5 a6 a7 a8 v53 fuel x145.first ([] : (List Int))
  )
def iA (a0 : Int) (a1 : Int) (a2 : Int) (a3 : (List aI)) (a4 : Int) (a5 : Int) (a6 : (List aG)) (a7 : Int) (a8 : (List Int)) : Nat → Int → Int → Option (Int × Int × (List aI) × Int × Int × (List aG) × Int × (List Int))
  | 0,_,_=>none
  | n7 + 1, v242, v243 =>
    bnd (!decide (v242 = (-1))) fun x251 =>
    bif x251 then (
      bno (gix a6 v242) fun x253 =>
      bno (a6[(v242 : Int).toNat]?) fun x254 =>
      bno (gix a6 v242) fun x255 =>
      bno (a6[(v242 : Int).toNat]?) fun x256 =>
      bnd (IntKind.wrap .i64 (v243 + x256.weight)) fun x257 =>
      (iA a0 a1 a2 a3 a4 a5 a6 a7 a8 n7) x254.next x257
    ) else (
      fY a0 a1 a2 a3 a4 a5 a6 a7 a8 v243
    )
def eS (a0 : Int) (a1 : Int) (a2 : Int) (a3 : (List aI)) (a4 : Int) (a5 : Int) (a6 : (List aG)) (a7 : Int) (a8 : (List Int)) : Nat → Int → Int → Option (Int × Int × (List aI) × Int × Int × (List aG) × Int × (List Int))
  | 0,_,_=>none
  | n8 + 1, v268, v269 =>
    bnd (!decide (v268 = (-1))) fun x277 =>
    bif x277 then (
      bno (gix a6 v268) fun x279 =>
      bno (a6[(v268 : Int).toNat]?) fun x280 =>
      bno (gix a6 v268) fun x281 =>
      bno (a6[(v268 : Int).toNat]?) fun x282 =>
      bnd (IntKind.wrap .i64 (v269 + x282.weight)) fun x283 =>
      (eS a0 a1 a2 a3 a4 a5 a6 a7 a8 n8) x280.next x283
    ) else (
      fY a0 a1 a2 a3 a4 a5 a6 a7 a8 v269
    )
def eE (a0 : Int) (a1 : Int) (a2 : Int) (a3 : (List aI)) (a4 : Int) (a5 : Int) (a6 : (List aG)) (a7 : Int) (a8 : (List Int)) : Option (Int × Int × (List aI) × Int × Int × (List aG) × Int × (List Int)) :=
  bnd (decide (a0 = (-1))) fun x232 =>
  bif x232 then (
    chk (a6.length = 64) <|iA a0 a1 a2 a3 a4 a5 a6 a7 a8 fuel a7 0
  ) else (
    bno (gix a6 a0) fun x258 =>
    chk (a6.length = 64) <|bno (a6[(a0 : Int).toNat]?) fun x260 =>
    eS a0 a1 a2 a3 a4 a5 a6 a7 a8 fuel x260.first 0
  )

def kS (a0 : bE) (a1 : Int) : Option (bE × Int × Int) :=
  bno (hD a0) fun x1 =>
  bno (kC a0) fun x2 =>
  bnd (!decide (x2 = 0)) fun x3 =>
  bif x3 then (
    some ((⟨x1.1,x1.2.1,x1.2.2⟩ : bE),0,x2)
  ) else (
    bnd (decide (64 ≤ a0.Used)) fun x5 =>
    bif x5 then (
      some ((⟨x1.1,x1.2.1,x1.2.2⟩ : bE),0,7)
    ) else (
      bnd (IntKind.wrap .i64 (x1.2.2 + 1)) fun x7 =>
      bnd (decide (x1.2.1 = (-1))) fun x8 =>
      bif x8 then (
        bno (app 24 x1.1 (([(⟨true,a1,0⟩ : aI)] : (List aI)))) fun x10 =>
        some (((⟨x10,x1.2.1,x7⟩ : bE),(a0.Cells.length : Int),0))
      ) else (
        bno (gix x1.1 x1.2.1) fun x11 =>
        bno (x1.1[(x1.2.1 : Int).toNat]?) fun x12 =>
        bno (gix x1.1 x1.2.1) fun x13 =>
        bno (x1.1[(x1.2.1 : Int).toNat]?) fun x14 =>
        bnd (x1.1.set ((x1.2.1 : Int).toNat) (⟨true,a1,0⟩ : aI)) fun x15 =>
        some ((⟨x15,x12.Link,x7⟩ : bE),x1.2.1,0)
      )
    )
  )

def dK (a1 : Int) (a7 : (List aG)) : Nat → Int → Option Bool
  | 0,_=>none
  | n0 + 1, v8 =>
    bnd (!decide (v8 = (-1))) fun x16 =>
    bif x16 then (
      bno (gix a7 v8) fun x18 =>
      chk (a7.length = 64) <|bno (a7[(v8 : Int).toNat]?) fun x20 =>
      bnd (decide (x20.up = a1)) fun x21 =>
      bif x21 then (
        some true
      ) else (
        (dK a1 a7 n0) x20.up
      )
    ) else (
      some false
    )
def iH (a0 : Int) (a1 : Int) (a2 : Int) (a3 : Int) (a4 : (List aI)) (a5 : Int) (a6 : Int) (a7 : (List aG)) (a8 : Int) (a9 : (List Int)) : Option Bool :=
  dK a1 a7 fuel a0

def cZ (a0 : Int) (v39 : (List Int)) : Nat → Int → Int → Int → (List aI) → Int → Int → (List aG) → Int → (List Int) → Option (Int × Int × (List aI) × Int × Int × (List aG) × Int × (List Int))
  | 0,_,_,_,_,_,_,_,_,_=>none
  | n3 + 1, v59, v60, v61, v62, v63, v64, v65, v66, v67 =>
    bnd (decide (v59 < (v39.length : Int))) fun x77 =>
    bif x77 then (
      bno (gix v39 v59) fun x79 =>
      bno (v39[(v59 : Int).toNat]?) fun x80 =>
      bnd (!decide (x80 = a0)) fun x81 =>
      bif x81 then (
        bno (dH x80 a0 v60 v61 v62 v63 v64 v65 v66 v67) fun x83 =>
        bnd (IntKind.wrap .i64 (v59 + 1)) fun x84 =>
        (cZ a0 v39 n3) x84 x83.1 x83.2.1 x83.2.2.1 x83.2.2.2.1 x83.2.2.2.2.1 x83.2.2.2.2.2.1 x83.2.2.2.2.2.2.1 x83.2.2.2.2.2.2.2
      ) else (
        bnd (IntKind.wrap .i64 (v59 + 1)) fun x85 =>
        (cZ a0 v39 n3) x85 v60 v61 v62 v63 v64 v65 v66 v67
      )
    ) else (
      some (v60,v61,v62,v63,v64,v65,v66,v67)
    )
def eA (a0 : Int) (x25 : (Int × Int × (List aI) × Int × Int × (List aG) × Int × (List Int))) (x29 : (List aG)) : Nat → Int → (List Int) → Option (Int × Int × (List aI) × Int × Int × (List aG) × Int × (List Int))
  | 0,_,_=>none
  | n2 + 1, v38, v39 =>
    bnd (!decide (v38 = (-1))) fun x45 =>
    bif x45 then (
      bno (gix x29 v38) fun x47 =>
      bno (x29[(v38 : Int).toNat]?) fun x48 =>
      bno (app 8 v39 ([v38] : (List Int))) fun x49 =>
      (eA a0 x25 x29 n2) x48.next x49
    ) else (
      cZ a0 v39 fuel 0 x25.1 x25.2.1 x25.2.2.1 x25.2.2.2.1 x25.2.2.2.2.1 x29 x25.2.2.2.2.2.2.1 x25.2.2.2.2.2.2.2
    )
def cY (a0 : Int) (v94 : (List Int)) : Nat → Int → Int → Int → (List aI) → Int → Int → (List aG) → Int → (List Int) → Option (Int × Int × (List aI) × Int × Int × (List aG) × Int × (List Int))
  | 0,_,_,_,_,_,_,_,_,_=>none
  | n5 + 1, v114, v115, v116, v117, v118, v119, v120, v121, v122 =>
    bnd (decide (v114 < (v94.length : Int))) fun x132 =>
    bif x132 then (
      bno (gix v94 v114) fun x134 =>
      bno (v94[(v114 : Int).toNat]?) fun x135 =>
      bnd (!decide (x135 = a0)) fun x136 =>
      bif x136 then (
        bno (dH x135 a0 v115 v116 v117 v118 v119 v120 v121 v122) fun x138 =>
        bnd (IntKind.wrap .i64 (v114 + 1)) fun x139 =>
        (cY a0 v94 n5) x139 x138.1 x138.2.1 x138.2.2.1 x138.2.2.2.1 x138.2.2.2.2.1 x138.2.2.2.2.2.1 x138.2.2.2.2.2.2.1 x138.2.2.2.2.2.2.2
      ) else (
        bnd (IntKind.wrap .i64 (v114 + 1)) fun x140 =>
        (cY a0 v94 n5) x140 v115 v116 v117 v118 v119 v120 v121 v122
      )
    ) else (
      some (v115,v116,v117,v118,v119,v120,v121,v122)
    )
def dZ (a0 : Int) (x25 : (Int × Int × (List aI) × Int × Int × (List aG) × Int × (List Int))) (x29 : (List aG)) : Nat → Int → (List Int) → Option (Int × Int × (List aI) × Int × Int × (List aG) × Int × (List Int))
  | 0,_,_=>none
  | n4 + 1, v93, v94 =>
    bnd (!decide (v93 = (-1))) fun x100 =>
    bif x100 then (
      bno (gix x29 v93) fun x102 =>
      bno (x29[(v93 : Int).toNat]?) fun x103 =>
      bno (app 8 v94 ([v93] : (List Int))) fun x104 =>
      (dZ a0 x25 x29 n4) x103.next x104
    ) else (
      cY a0 v94 fuel 0 x25.1 x25.2.1 x25.2.2.1 x25.2.2.2.1 x25.2.2.2.2.1 x29 x25.2.2.2.2.2.2.1 x25.2.2.2.2.2.2.2
    )
def fJ (a0 : Int) (x1 : Int) (v7 : Int) (v8 : Bool) (v17 : Int) (v18 : Int) (v19 : (List aI)) (v20 : Int) (v21 : Int) (v22 : (List aG)) (v23 : Int) (v24 : (List Int)) : Option (Int × Int × (List aI) × Int × Int × (List aG) × Int × (List Int)) :=
  bno (dH a0 x1 v17 v18 v19 v20 v21 v22 v23 v24) fun x25 =>
  bno (gix x25.2.2.2.2.2.1 a0) fun x26 =>
  chk (x25.2.2.2.2.2.1.length = 64) <|bno (x25.2.2.2.2.2.1[(a0 : Int).toNat]?) fun x28 =>
  bnd (x25.2.2.2.2.2.1.set ((a0 : Int).toNat) (⟨x28.id,x28.up,x28.first,x28.next,v7,x28.closed⟩ : aG)) fun x29 =>
  bif (!v8) then (
    some (x25.1,x25.2.1,x25.2.2.1,x25.2.2.2.1,x25.2.2.2.2.1,x29,x25.2.2.2.2.2.2.1,x25.2.2.2.2.2.2.2)
  ) else (
    bnd (decide (x1 = (-1))) fun x31 =>
    bif x31 then (
      eA a0 x25 x29 fuel x25.2.2.2.2.2.2.1 ([] : (List Int))
    ) else (
      bno (gix x29 x1) fun x86 =>
      bno (x29[(x1 : Int).toNat]?) fun x87 =>
      dZ a0 x25 x29 fuel x87.first ([] : (List Int))
    )
  )
def fK (a0 : Int) (a2 : Int) (a3 : Int) (a4 : (List aI)) (a5 : Int) (a6 : Int) (a7 : (List aG)) (a8 : Int) (a9 : (List Int)) (x1 : Int) (v6 : Int) (v7 : Int) (v8 : Bool) : Option (Int × Int × (List aI) × Int × Int × (List aG) × Int × (List Int)) :=
  bnd (!decide (x1 = (-1))) fun x141 =>
  bno (gd (x141 == true) (iH x1 a0 a2 a3 a4 a5 a6 a7 a8 a9) default) fun x142 =>
  bnd (x141 && x142) fun x143 =>
  bif x143 then (
    bno (gix a7 a0) fun x145 =>
    chk (a7.length = 64) <|bno (a7[(a0 : Int).toNat]?) fun x147 =>
    bno (dH x1 x147.up a2 a3 a4 a5 a6 a7 a8 a9) fun x148 =>
    fJ a0 x1 v7 v8 x148.1 x148.2.1 x148.2.2.1 x148.2.2.2.1 x148.2.2.2.2.1 x148.2.2.2.2.2.1 x148.2.2.2.2.2.2.1 x148.2.2.2.2.2.2.2
  ) else (
    fJ a0 x1 v7 v8 a2 a3 a4 a5 a6 a7 a8 a9
  )
def fC (a0 : Int) (a1 : eW) (a2 : Int) (a3 : Int) (a4 : (List aI)) (a5 : Int) (a6 : Int) (a7 : (List aG)) (a8 : Int) (a9 : (List Int)) : Option (Int × Int × (List aI) × Int × Int × (List aG) × Int × (List Int)) :=
  bno (cD a1.dep a2 a3 a4 a5 a6 a7 a8 a9) fun x1 =>
  bnd (decide (x1 = (-1))) fun x149 =>
  bnd (!decide (a1.dep = 0)) fun x150 =>
  bnd (x149 && x150) fun x151 =>
  bif x151 then (
    fK a0 a2 a3 a4 a5 a6 a7 a8 a9 x1 0 16 false
  ) else (
    fK a0 a2 a3 a4 a5 a6 a7 a8 a9 x1 a1.dep a1.weight a1.only
  )

def eO (a0 : Int) (a1 : eW) (v10 : Int) (v11 : Int) (v12 : (List aI)) (v13 : Int) (v14 : Int) (v15 : (List aG)) (v16 : Int) (v17 : (List Int)) : Option (Int × Int × Int × (List aI) × Int × Int × (List aG) × Int × (List Int)) :=
  bno (kS (⟨v12,v13,v14⟩ : bE) a0) fun x18 =>
  bnd (!decide (x18.2.2 = 0)) fun x19 =>
  bif x19 then (
    some (x18.2.2,v10,v11,v12,v13,v14,v15,v16,v17)
  ) else (
    bno (gix v15 x18.2.1) fun x21 =>
    chk (v15.length = 64) <|bno (v15[(x18.2.1 : Int).toNat]?) fun x23 =>
    bnd (v15.set ((x18.2.1 : Int).toNat) (⟨a0,0,(-1),(-1),16,false⟩ : aG)) fun x24 =>
    bno (eY x18.2.1 (-1) v10 v11 x18.1.Cells x18.1.Free x18.1.Used x24 v16 v17) fun x25 =>
    bno (fC x18.2.1 a1 x25.1 x25.2.1 x25.2.2.1 x25.2.2.2.1 x25.2.2.2.2.1 x25.2.2.2.2.2.1 x25.2.2.2.2.2.2.1 x25.2.2.2.2.2.2.2) fun x26 =>
    some (0,x26.1,x26.2.1,x26.2.2.1,x26.2.2.2.1,x26.2.2.2.2.1,x26.2.2.2.2.2.1,x26.2.2.2.2.2.2.1,x26.2.2.2.2.2.2.2)
  )
def fZ (a0 : Int) (a1 : eW) (a2 : Int) (a3 : Int) (a4 : (List aI)) (a5 : Int) (a6 : Int) (a7 : (List aG)) (a8 : Int) (a9 : (List Int)) : Option (Int × Int × Int × (List aI) × Int × Int × (List aG) × Int × (List Int)) :=
  bno (dI a2 a3 a4 a5 a6 a7 a8 a9) fun x27 =>
  bnd (decide (a2 ≤ x27)) fun x28 =>
  bif x28 then (
    chk (a7.length = 64) <|bnd (decide ((a9.length : Int) = 0)) fun x31 =>
    bif x31 then (
      some (7,a2,a3,a4,a5,a6,a7,a8,a9)
    ) else (
      bno (gix a9 0) fun x33 =>
      bno (a9[(0 : Int).toNat]?) fun x34 =>
      bno (eE x34 a2 a3 a4 a5 a6 a7 a8 a9) fun x35 =>
      eO a0 a1 x35.1 x35.2.1 x35.2.2.1 x35.2.2.2.1 x35.2.2.2.2.1 x35.2.2.2.2.2.1 x35.2.2.2.2.2.2.1 x35.2.2.2.2.2.2.2
    )
  ) else (
    eO a0 a1 a2 a3 a4 a5 a6 a7 a8 a9
  )

def eC (a0 : Int) (a1 : Int) (a2 : Int) (a3 : Bool) (a4 : Int) (a5 : Int) (a6 : (List aI)) (a7 : Int) (a8 : Int) (a9 : (List aG)) (a10 : Int) (a11 : (List Int)) : Option (Int × Int × Int × (List aI) × Int × Int × (List aG) × Int × (List Int)) :=
  bno (iF (⟨a1,a2,a3⟩ : eW) a0) fun x1 =>
  bnd (!decide (x1 = 0)) fun x2 =>
  bif x2 then (
    some (x1,a4,a5,a6,a7,a8,a9,a10,a11)
  ) else (
    bno (cD a0 a4 a5 a6 a7 a8 a9 a10 a11) fun x4 =>
    bnd (!decide (x4 = (-1))) fun x5 =>
    bif x5 then (
      some (13,a4,a5,a6,a7,a8,a9,a10,a11)
    ) else (
      bno (fZ a0 (⟨a1,a2,a3⟩ : eW) a4 a5 a6 a7 a8 a9 a10 a11) fun x7 =>
      some (x7.1,x7.2.1,x7.2.2.1,x7.2.2.2.1,x7.2.2.2.2.1,x7.2.2.2.2.2.1,x7.2.2.2.2.2.2.1,x7.2.2.2.2.2.2.2.1,x7.2.2.2.2.2.2.2.2)
    )
  )

def fN (a0 : Int) (a1 : Int) (a2 : Int) (a3 : Bool) (a4 : Int) (a5 : Int) (a6 : (List aI)) (a7 : Int) (a8 : Int) (a9 : (List aG)) (a10 : Int) (a11 : (List Int)) : Option (Int × Int × Int × (List aI) × Int × Int × (List aG) × Int × (List Int)) :=
  bno (iF (⟨a1,a2,a3⟩ : eW) a0) fun x1 =>
  bnd (!decide (x1 = 0)) fun x2 =>
  bif x2 then (
    some (x1,a4,a5,a6,a7,a8,a9,a10,a11)
  ) else (
    bno (cD a0 a4 a5 a6 a7 a8 a9 a10 a11) fun x4 =>
    bnd (decide (x4 = (-1))) fun x5 =>
    bif x5 then (
      bno (fZ a0 (⟨a1,a2,a3⟩ : eW) a4 a5 a6 a7 a8 a9 a10 a11) fun x7 =>
      some (x7.1,x7.2.1,x7.2.2.1,x7.2.2.2.1,x7.2.2.2.2.1,x7.2.2.2.2.2.1,x7.2.2.2.2.2.2.1,x7.2.2.2.2.2.2.2.1,x7.2.2.2.2.2.2.2.2)
    ) else (
      bno (fC x4 (⟨a1,a2,a3⟩ : eW) a4 a5 a6 a7 a8 a9 a10 a11) fun x8 =>
      some (0,x8.1,x8.2.1,x8.2.2.1,x8.2.2.2.1,x8.2.2.2.2.1,x8.2.2.2.2.2.1,x8.2.2.2.2.2.2.1,x8.2.2.2.2.2.2.2)
    )
  )

def dX (a0 : Int) (a1 : Int) (a2 : Int) (a3 : (List aI)) (a4 : Int) (a5 : Int) (a6 : (List aG)) (a7 : Int) (a8 : (List Int)) : Option Int :=
  bnd (decide (a0 = (-1))) fun x1 =>
  bif x1 then (
    some 0
  ) else (
    bno (gix a6 a0) fun x3 =>
    chk (a6.length = 64) <|bno (a6[(a0 : Int).toNat]?) fun x5 =>
    some x5.id
  )

def cO (a0 : (List aZ)) : Option (List aZ):=uF (fun x=>x.ID) (fun x=>decide (0 ≤ x.ID) && decide (x.ID ≤ 1048576)) a0

def eB (a0 : Int) (a1 : Int) (a2 : (List aI)) (a3 : Int) (a4 : Int) (a5 : (List aG)) (a6 : Int) (a7 : (List Int)) (x1 : (List Int)) : Nat → (List aZ) → Int → Option (List aZ)
  | 0,_,_=>none
  | n0 + 1, v11, v12 =>
    bnd (decide (v12 < (x1.length : Int))) fun x22 =>
    bif x22 then (
      bno (gix x1 v12) fun x24 =>
      bno (gix a5 x24) fun x25 =>
      chk (a5.length = 64) <|bno (a5[(x24 : Int).toNat]?) fun x27 =>
      bno (dX x27.up a0 a1 a2 a3 a4 a5 a6 a7) fun x28 =>
      bno (app 32 v11 (([(⟨x27.id,x28,x27.weight,x27.closed⟩ : aZ)] : (List aZ)))) fun x29 =>
      bnd (IntKind.wrap .i64 (v12 + 1)) fun x30 =>
      (eB a0 a1 a2 a3 a4 a5 a6 a7 x1 n0) x29 x30
    ) else (
      bno (cO v11) fun x31 =>
      chk (x31.length = v11.length) <|some x31
    )
def gM (a0 : Int) (a1 : Int) (a2 : (List aI)) (a3 : Int) (a4 : Int) (a5 : (List aG)) (a6 : Int) (a7 : (List Int)) : Option (List aZ) :=
  bno (lN (⟨a2,a3,a4⟩ : bE)) fun x1 =>
  eB a0 a1 a2 a3 a4 a5 a6 a7 x1 fuel ([] : (List aZ)) 0

def fV (a0 : (List aZ)) : Nat → (List aZ) → Int → Option (List aZ)
  | 0,_,_=>none
  | n0 + 1, v7, v8 =>
    bnd (decide (v8 < (a0.length : Int))) fun x15 =>
    bif x15 then (
      bno (gix a0 v8) fun x17 =>
      bno (a0[(v8 : Int).toNat]?) fun x18 =>
      bno (app 32 v7 ([x18] : (List aZ))) fun x19 =>
      bnd (IntKind.wrap .i64 (v8 + 1)) fun x20 =>
      (fV a0 n0) x19 x20
    ) else (
      some v7
    )
def jV (a0 : (List aZ)) : Option (List aZ) :=
  fV a0 fuel ([] : (List aZ)) 0

def eJ (a1 : Int) (a2 : Int) (a3 : (List aI)) (a4 : Int) (a5 : Int) (a6 : (List aG)) (a7 : Int) (a8 : (List Int)) : Nat → (List Int) → Int → Option (List Int)
  | 0,_,_=>none
  | n0 + 1, v14, v15 =>
    bnd (!decide (v15 = (-1))) fun x28 =>
    bno (gd (x28 == true) (gix a6 v15) default) fun x29 =>
    chk ((x28 == true) = true → a6.length = 64) <|bno (gd (x28 == true) (a6[(v15 : Int).toNat]?) default) fun x31 =>
    bnd (!decide (x31.up = (-1))) fun x32 =>
    bnd (x28 && x32) fun x33 =>
    bif x33 then (
      bno (gix a6 v15) fun x35 =>
      chk (a6.length = 64) <|bno (a6[(v15 : Int).toNat]?) fun x37 =>
      bno (dX x37.up a1 a2 a3 a4 a5 a6 a7 a8) fun x38 =>
      bno (app 8 v14 ([x38] : (List Int))) fun x39 =>
      (eJ a1 a2 a3 a4 a5 a6 a7 a8 n0) x39 x37.up
    ) else (
      some v14
    )
def cM (a0 : Int) (a1 : Int) (a2 : Int) (a3 : (List aI)) (a4 : Int) (a5 : Int) (a6 : (List aG)) (a7 : Int) (a8 : (List Int)) : Option (List Int) :=
  bno (cD a0 a1 a2 a3 a4 a5 a6 a7 a8) fun x1 =>
  eJ a1 a2 a3 a4 a5 a6 a7 a8 fuel ([] : (List Int)) x1

def gU (a0 : (List Int)) : Option (List Int):=uH a0

def gJ (a1 : Int) (a2 : Int) (a3 : (List aI)) (a4 : Int) (a5 : Int) (a6 : (List aG)) (a7 : Int) (a8 : (List Int)) (v18 : (List Bool)) (v98 : (List Int)) (v99 : Int) (kk1 : (List Int) → Int → Option (List Int)) : Nat → Bool → Int → Option (List Int)
  | 0,_,_=>none
  | n2 + 1, v161, v162 =>
    bno (gd (v161 == true) (gix a6 v162) default) fun x175 =>
    chk ((v161 == true) = true → a6.length = 64) <|bno (gd (v161 == true) (a6[(v162 : Int).toNat]?) default) fun x177 =>
    bnd (!decide (x177.up = (-1))) fun x178 =>
    bnd (v161 && x178) fun x179 =>
    bif x179 then (
      bno (gix a6 v162) fun x181 =>
      chk (a6.length = 64) <|bno (a6[(v162 : Int).toNat]?) fun x183 =>
      bno (gix v18 x183.up) fun x184 =>
      chk (v18.length = 64) <|bno (v18[(x183.up : Int).toNat]?) fun x186 =>
      (gJ a1 a2 a3 a4 a5 a6 a7 a8 v18 v98 v99 kk1 n2) (!x186) x183.up
    ) else (
      bif v161 then (
        bno (dX v99 a1 a2 a3 a4 a5 a6 a7 a8) fun x188 =>
        bno (app 8 v98 ([x188] : (List Int))) fun x189 =>
        bnd (IntKind.wrap .i64 (v99 + 1)) fun x190 =>
        kk1 x189 x190
      ) else (
        bnd (IntKind.wrap .i64 (v99 + 1)) fun x191 =>
        kk1 v98 x191
      )
    )
def fL (a1 : Int) (a2 : Int) (a3 : (List aI)) (a4 : Int) (a5 : Int) (a6 : (List aG)) (a7 : Int) (a8 : (List Int)) (v18 : (List Bool)) : Nat → (List Int) → Int → Option (List Int)
  | 0,_,_=>none
  | n1 + 1, v98, v99 =>
    bnd (decide (v99 < 64)) fun x146 =>
    bif x146 then (
      bno (gix v18 v99) fun x148 =>
      gJ a1 a2 a3 a4 a5 a6 a7 a8 v18 v98 v99 (fL a1 a2 a3 a4 a5 a6 a7 a8 v18 n1) fuel x148 v99
    ) else (
      bno (gU v98) fun x192 =>
      chk (x192.length = v98.length) <|some x192
    )
def fM (a0 : (List Int)) (a1 : Int) (a2 : Int) (a3 : (List aI)) (a4 : Int) (a5 : Int) (a6 : (List aG)) (a7 : Int) (a8 : (List Int)) : Nat → Int → (List Bool) → Option (List Int)
  | 0,_,_=>none
  | n0 + 1, v17, v18 =>
    bnd (decide (v17 < (a0.length : Int))) fun x35 =>
    bif x35 then (
      bno (gix a0 v17) fun x37 =>
      bno (cD x37 a1 a2 a3 a4 a5 a6 a7 a8) fun x38 =>
      bnd (!decide (x38 = (-1))) fun x39 =>
      bno (gd (x39 == true) (gix a6 x38) default) fun x40 =>
      chk ((x39 == true) = true → a6.length = 64) <|bno (gd (x39 == true) (a6[(x38 : Int).toNat]?) default) fun x42 =>
      bnd (x39 && (!x42.closed)) fun x43 =>
      bif x43 then (
        bno (gix v18 x38) fun x45 =>
        chk (v18.length = 64) <|bno (v18[(x38 : Int).toNat]?) fun x47 =>
        bnd (v18.set ((x38 : Int).toNat) true) fun x48 =>
        bnd (IntKind.wrap .i64 (v17 + 1)) fun x49 =>
        (fM a0 a1 a2 a3 a4 a5 a6 a7 a8 n0) x49 x48
      ) else (
        bnd (IntKind.wrap .i64 (v17 + 1)) fun x50 =>
        (fM a0 a1 a2 a3 a4 a5 a6 a7 a8 n0) x50 v18
      )
    ) else (
      chk (v18.length = 64) <|fL a1 a2 a3 a4 a5 a6 a7 a8 v18 fuel ([] : (List Int)) 0
    )
def jE (a0 : (List Int)) (a1 : Int) (a2 : Int) (a3 : (List aI)) (a4 : Int) (a5 : Int) (a6 : (List aG)) (a7 : Int) (a8 : (List Int)) : Option (List Int) :=
  bnd ((List.replicate 64 false : (List Bool))) fun x1 =>
  fM a0 a1 a2 a3 a4 a5 a6 a7 a8 fuel 0 x1

def fS (a0 : Int) (a1 : Int) (a2 : Int) (a3 : (List aI)) (a4 : Int) (a5 : Int) (a6 : (List aG)) (a7 : Int) (a8 : (List Int)) : Option (Int × Int × Int × (List aI) × Int × Int × (List aG) × Int × (List Int)) :=
  bno (cD a0 a1 a2 a3 a4 a5 a6 a7 a8) fun x1 =>
  bnd (decide (x1 = (-1))) fun x2 =>
  bif x2 then (
    some (6,a1,a2,a3,a4,a5,a6,a7,a8)
  ) else (
    bno (gix a6 x1) fun x4 =>
    chk (a6.length = 64) <|bno (a6[(x1 : Int).toNat]?) fun x6 =>
    bif x6.closed then (
      some (9,a1,a2,a3,a4,a5,a6,a7,a8)
    ) else (
      bno (gix a6 x1) fun x8 =>
      bno (a6[(x1 : Int).toNat]?) fun x9 =>
      bnd (a6.set ((x1 : Int).toNat) (⟨x9.id,x9.up,x9.first,x9.next,x9.weight,true⟩ : aG)) fun x10 =>
      bno (app 8 a8 ([x1] : (List Int))) fun x11 =>
      bnd (decide (a2 < (x11.length : Int))) fun x12 =>
      bif x12 then (
        bno (gix x11 0) fun x14 =>
        bno (x11[(0 : Int).toNat]?) fun x15 =>
        bno (eE x15 a1 a2 a3 a4 a5 x10 a7 x11) fun x16 =>
        some (0,x16.1,x16.2.1,x16.2.2.1,x16.2.2.2.1,x16.2.2.2.2.1,x16.2.2.2.2.2.1,x16.2.2.2.2.2.2.1,x16.2.2.2.2.2.2.2)
      ) else (
        some (0,a1,a2,a3,a4,a5,x10,a7,x11)
      )
    )
  )

def gA (a0 : Int) (a1 : Int) (a2 : Int) (a3 : (List aI)) (a4 : Int) (a5 : Int) (a6 : (List aG)) (a7 : Int) (a8 : (List Int)) : Option (Int × Int × Int × (List aI) × Int × Int × (List aG) × Int × (List Int)) :=
  bno (cD a0 a1 a2 a3 a4 a5 a6 a7 a8) fun x1 =>
  bnd (decide (x1 = (-1))) fun x2 =>
  bif x2 then (
    some (6,a1,a2,a3,a4,a5,a6,a7,a8)
  ) else (
    bno (eE x1 a1 a2 a3 a4 a5 a6 a7 a8) fun x4 =>
    some (0,x4.1,x4.2.1,x4.2.2.1,x4.2.2.2.1,x4.2.2.2.2.1,x4.2.2.2.2.2.1,x4.2.2.2.2.2.2.1,x4.2.2.2.2.2.2.2)
  )

def eM (v52 : (List Int)) : Option (List Int) :=
  bno (gU v52) fun x53 =>
  chk (x53.length = v52.length) <|some x53
def eL (a1 : Int) (a2 : Int) (a3 : (List aI)) (a4 : Int) (a5 : Int) (a6 : (List aG)) (a7 : Int) (a8 : (List Int)) : Nat → Int → (List Int) → Option (List Int)
  | 0,_,_=>none
  | n3 + 1, v64, v65 =>
    bnd (!decide (v64 = (-1))) fun x72 =>
    bif x72 then (
      bno (gix a6 v64) fun x74 =>
      bno (a6[(v64 : Int).toNat]?) fun x75 =>
      bno (dX v64 a1 a2 a3 a4 a5 a6 a7 a8) fun x76 =>
      bno (app 8 v65 ([x76] : (List Int))) fun x77 =>
      (eL a1 a2 a3 a4 a5 a6 a7 a8 n3) x75.next x77
    ) else (
      eM v65
    )
def eK (a1 : Int) (a2 : Int) (a3 : (List aI)) (a4 : Int) (a5 : Int) (a6 : (List aG)) (a7 : Int) (a8 : (List Int)) : Nat → Int → (List Int) → Option (List Int)
  | 0,_,_=>none
  | n4 + 1, v87, v88 =>
    bnd (!decide (v87 = (-1))) fun x95 =>
    bif x95 then (
      bno (gix a6 v87) fun x97 =>
      bno (a6[(v87 : Int).toNat]?) fun x98 =>
      bno (dX v87 a1 a2 a3 a4 a5 a6 a7 a8) fun x99 =>
      bno (app 8 v88 ([x99] : (List Int))) fun x100 =>
      (eK a1 a2 a3 a4 a5 a6 a7 a8 n4) x98.next x100
    ) else (
      eM v88
    )
def dJ (a0 : Int) (a1 : Int) (a2 : Int) (a3 : (List aI)) (a4 : Int) (a5 : Int) (a6 : (List aG)) (a7 : Int) (a8 : (List Int)) : Option (List Int) :=
  bno (cD a0 a1 a2 a3 a4 a5 a6 a7 a8) fun x1 =>
  bnd (decide (x1 = (-1))) fun x2 =>
  bnd (!decide (a0 = 0)) fun x3 =>
  bnd (x2 && x3) fun x4 =>
  bif x4 then (
    some ([] : (List Int))
  ) else (
    bnd (decide (x1 = (-1))) fun x55 =>
    bif x55 then (
      chk (a6.length = 64) <|eL a1 a2 a3 a4 a5 a6 a7 a8 fuel a7 ([] : (List Int))
    ) else (
      bno (gix a6 x1) fun x78 =>
      chk (a6.length = 64) <|bno (a6[(x1 : Int).toNat]?) fun x80 =>
      eK a1 a2 a3 a4 a5 a6 a7 a8 fuel x80.first ([] : (List Int))
    )
  )

def fH (a0 : (List aZ)) (a1 : (List aZ)) : Nat → Int → Option Bool
  | 0,_=>none
  | n0 + 1, v10 =>
    bnd (decide (v10 < (a0.length : Int))) fun x18 =>
    bif x18 then (
      bno (gix a0 v10) fun x20 =>
      bno (gix a1 v10) fun x21 =>
      bnd ((decide (x20.ID = x21.ID) && (decide (x20.Parent = x21.Parent) && (decide (x20.Weight = x21.Weight) && ((x20.Closed == x21.Closed) && true))))) fun x22 =>
      bif (!x22) then (
        some false
      ) else (
        bnd (IntKind.wrap .i64 (v10 + 1)) fun x24 =>
        (fH a0 a1 n0) x24
      )
    ) else (
      some true
    )
def iG (a0 : (List aZ)) (a1 : (List aZ)) : Option Bool :=
  bnd (!decide ((a0.length : Int) = (a1.length : Int))) fun x1 =>
  bif x1 then (
    some false
  ) else (
    fH a0 a1 fuel 0
  )

def fW (a0 : Int) (a1 : Int) (a2 : (List aI)) (a3 : Int) (a4 : Int) (a5 : (List aG)) (a6 : Int) (a7 : (List Int)) : Nat → (List Int) → Int → Option (List Int)
  | 0,_,_=>none
  | n0 + 1, v9, v10 =>
    bnd (decide (v10 < (a7.length : Int))) fun x18 =>
    bif x18 then (
      bno (gix a7 v10) fun x20 =>
      bno (a7[(v10 : Int).toNat]?) fun x21 =>
      bno (dX x21 a0 a1 a2 a3 a4 a5 a6 a7) fun x22 =>
      bno (app 8 v9 ([x22] : (List Int))) fun x23 =>
      bnd (IntKind.wrap .i64 (v10 + 1)) fun x24 =>
      (fW a0 a1 a2 a3 a4 a5 a6 a7 n0) x23 x24
    ) else (
      some v9
    )
def iW (a0 : Int) (a1 : Int) (a2 : (List aI)) (a3 : Int) (a4 : Int) (a5 : (List aG)) (a6 : Int) (a7 : (List Int)) : Option (List Int) :=
  chk (a5.length = 64) <|fW a0 a1 a2 a3 a4 a5 a6 a7 fuel ([] : (List Int)) 0

def iS (v79 : Bool) : Option Bool :=
  some v79
def iR (v181 : Bool) : Option Bool :=
  some v181
def dA  : Option Bool :=
  bno (jJ 8 1 24) fun x1 =>
  bno (gd ((!x1) == false) (jJ 2 0 8) default) fun x2 =>
  bnd ((!x1) || (!x2)) fun x3 =>
  bif x3 then (
    bnd (!decide (8 = 0)) fun x5 =>
    bnd (x5 || true) fun x6 =>
    some false
  ) else (
    bno (mY) fun x7 =>
    bnd (!decide (0 = 0)) fun x8 =>
    bnd (x8 || false) fun x9 =>
    bif x9 then (
      some false
    ) else (
      bno (eC 1 0 16 false 8 2 x7.Cells x7.Free x7.Used ((List.replicate 64 (⟨0,0,0,0,0,false⟩ : aG) : (List aG))) (-1) []) fun x11 =>
      bno (eC 3 1 32 false x11.2.1 x11.2.2.1 x11.2.2.2.1 x11.2.2.2.2.1 x11.2.2.2.2.2.1 x11.2.2.2.2.2.2.1 x11.2.2.2.2.2.2.2.1 x11.2.2.2.2.2.2.2.2) fun x12 =>
      bno (eC 5 3 8 false x12.2.1 x12.2.2.1 x12.2.2.2.1 x12.2.2.2.2.1 x12.2.2.2.2.2.1 x12.2.2.2.2.2.2.1 x12.2.2.2.2.2.2.2.1 x12.2.2.2.2.2.2.2.2) fun x13 =>
      bno (fN 1 5 4 true x13.2.1 x13.2.2.1 x13.2.2.2.1 x13.2.2.2.2.1 x13.2.2.2.2.2.1 x13.2.2.2.2.2.2.1 x13.2.2.2.2.2.2.2.1 x13.2.2.2.2.2.2.2.2) fun x14 =>
      bno (gM x14.2.1 x14.2.2.1 x14.2.2.2.1 x14.2.2.2.2.1 x14.2.2.2.2.2.1 x14.2.2.2.2.2.2.1 x14.2.2.2.2.2.2.2.1 x14.2.2.2.2.2.2.2.2) fun x15 =>
      bno (jV x15) fun x16 =>
      bno (cM 3 x14.2.1 x14.2.2.1 x14.2.2.2.1 x14.2.2.2.2.1 x14.2.2.2.2.2.1 x14.2.2.2.2.2.2.1 x14.2.2.2.2.2.2.2.1 x14.2.2.2.2.2.2.2.2) fun x17 =>
      bno (jE ([3,1,9] : (List Int)) x14.2.1 x14.2.2.1 x14.2.2.2.1 x14.2.2.2.2.1 x14.2.2.2.2.2.1 x14.2.2.2.2.2.2.1 x14.2.2.2.2.2.2.2.1 x14.2.2.2.2.2.2.2.2) fun x18 =>
      bno (fS 1 x14.2.1 x14.2.2.1 x14.2.2.2.1 x14.2.2.2.2.1 x14.2.2.2.2.2.1 x14.2.2.2.2.2.2.1 x14.2.2.2.2.2.2.2.1 x14.2.2.2.2.2.2.2.2) fun x19 =>
      bno (fS 1 x19.2.1 x19.2.2.1 x19.2.2.2.1 x19.2.2.2.2.1 x19.2.2.2.2.2.1 x19.2.2.2.2.2.2.1 x19.2.2.2.2.2.2.2.1 x19.2.2.2.2.2.2.2.2) fun x20 =>
      bno (jE ([3,1,9] : (List Int)) x20.2.1 x20.2.2.1 x20.2.2.2.1 x20.2.2.2.2.1 x20.2.2.2.2.2.1 x20.2.2.2.2.2.2.1 x20.2.2.2.2.2.2.2.1 x20.2.2.2.2.2.2.2.2) fun x21 =>
      bno (gA 1 x20.2.1 x20.2.2.1 x20.2.2.2.1 x20.2.2.2.2.1 x20.2.2.2.2.2.1 x20.2.2.2.2.2.2.1 x20.2.2.2.2.2.2.2.1 x20.2.2.2.2.2.2.2.2) fun x22 =>
      bno (dJ 5 x22.2.1 x22.2.2.1 x22.2.2.2.1 x22.2.2.2.2.1 x22.2.2.2.2.2.1 x22.2.2.2.2.2.2.1 x22.2.2.2.2.2.2.2.1 x22.2.2.2.2.2.2.2.2) fun x23 =>
      bno (eC 3 0 1 false x22.2.1 x22.2.2.1 x22.2.2.2.1 x22.2.2.2.2.1 x22.2.2.2.2.2.1 x22.2.2.2.2.2.2.1 x22.2.2.2.2.2.2.2.1 x22.2.2.2.2.2.2.2.2) fun x24 =>
      bno (jJ 0 1 24) fun x25 =>
      bno (gd ((!x25) == false) (jJ 0 0 0) default) fun x26 =>
      bnd ((!x25) || (!x26)) fun x27 =>
      bif x27 then (
        bnd (decide (x11.1 = 0)) fun x80 =>
        bnd (decide (x12.1 = 0)) fun x81 =>
        bnd (x80 && x81) fun x82 =>
        bnd (decide (x13.1 = 0)) fun x83 =>
        bnd (x82 && x83) fun x84 =>
        bnd (decide (x14.1 = 0)) fun x85 =>
        bnd (x84 && x85) fun x86 =>
        bno (gd (x86 == true) (iG x16 ([(⟨1,5,4,false⟩ : aZ),(⟨3,1,32,false⟩ : aZ),(⟨5,0,8,false⟩ : aZ)] : (List aZ))) default) fun x87 =>
        bnd (x86 && x87) fun x88 =>
        bno (gd (x88 == true) (dG x17 ([1,5] : (List Int))) default) fun x89 =>
        bnd (x88 && x89) fun x90 =>
        bno (gd (x90 == true) (dG x18 ([1] : (List Int))) default) fun x91 =>
        bnd (x90 && x91) fun x92 =>
        bnd (decide (x19.1 = 0)) fun x93 =>
        bnd (x92 && x93) fun x94 =>
        bnd (decide (x20.1 = 9)) fun x95 =>
        bnd (x94 && x95) fun x96 =>
        bno (gd (x96 == true) (dG x21 ([3] : (List Int))) default) fun x97 =>
        bnd (x96 && x97) fun x98 =>
        bnd (decide (x22.1 = 0)) fun x99 =>
        bnd (x98 && x99) fun x100 =>
        bno (gd (x100 == true) (dG x23 ([3] : (List Int))) default) fun x101 =>
        bnd (x100 && x101) fun x102 =>
        bnd (decide (x24.1 = 13)) fun x103 =>
        bnd (x102 && x103) fun x104 =>
        bnd (decide (8 = 8)) fun x105 =>
        bnd (x104 && x105) fun x106 =>
        bno (gd (x106 == true) (dI x24.2.1 x24.2.2.1 x24.2.2.2.1 x24.2.2.2.2.1 x24.2.2.2.2.2.1 x24.2.2.2.2.2.2.1 x24.2.2.2.2.2.2.2.1 x24.2.2.2.2.2.2.2.2) default) fun x107 =>
        bnd (decide (x107 = 2)) fun x108 =>
        bnd (x106 && x108) fun x109 =>
        bif (x109 == true) then (
          bno (iW x24.2.1 x24.2.2.1 x24.2.2.2.1 x24.2.2.2.2.1 x24.2.2.2.2.2.1 x24.2.2.2.2.2.2.1 x24.2.2.2.2.2.2.2.1 x24.2.2.2.2.2.2.2.2) fun x111 =>
          bnd (decide ((x111.length : Int) = 0)) fun x112 =>
          bnd (x109 && x112) fun x113 =>
          bnd (bif x113 then true else false) fun x114 =>
          bnd (bif x114 then true else false) fun x115 =>
          bnd (bif x115 then true else false) fun x116 =>
          bnd (bif x116 then true else false) fun x117 =>
          bnd (bif x117 then true else false) fun x118 =>
          bnd (bif x118 then true else false) fun x119 =>
          bnd (bif x119 then true else false) fun x120 =>
          iS x120
        ) else (
          bnd (decide ((([] : (List Int)).length : Int) = 0)) fun x121 =>
          bnd (x109 && x121) fun x122 =>
          bnd (bif x122 then true else false) fun x123 =>
          bnd (bif x123 then true else false) fun x124 =>
          bnd (bif x124 then true else false) fun x125 =>
          bnd (bif x125 then true else false) fun x126 =>
          bnd (bif x126 then true else false) fun x127 =>
          bnd (bif x127 then true else false) fun x128 =>
          bnd (bif x128 then true else false) fun x129 =>
          iS x129
        )
      ) else (
        bno (mY) fun x130 =>
        bnd (decide (x11.1 = 0)) fun x182 =>
        bnd (decide (x12.1 = 0)) fun x183 =>
        bnd (x182 && x183) fun x184 =>
        bnd (decide (x13.1 = 0)) fun x185 =>
        bnd (x184 && x185) fun x186 =>
        bnd (decide (x14.1 = 0)) fun x187 =>
        bnd (x186 && x187) fun x188 =>
        bno (gd (x188 == true) (iG x16 ([(⟨1,5,4,false⟩ : aZ),(⟨3,1,32,false⟩ : aZ),(⟨5,0,8,false⟩ : aZ)] : (List aZ))) default) fun x189 =>
        bnd (x188 && x189) fun x190 =>
        bno (gd (x190 == true) (dG x17 ([1,5] : (List Int))) default) fun x191 =>
        bnd (x190 && x191) fun x192 =>
        bno (gd (x192 == true) (dG x18 ([1] : (List Int))) default) fun x193 =>
        bnd (x192 && x193) fun x194 =>
        bnd (decide (x19.1 = 0)) fun x195 =>
        bnd (x194 && x195) fun x196 =>
        bnd (decide (x20.1 = 9)) fun x197 =>
        bnd (x196 && x197) fun x198 =>
        bno (gd (x198 == true) (dG x21 ([3] : (List Int))) default) fun x199 =>
        bnd (x198 && x199) fun x200 =>
        bnd (decide (x22.1 = 0)) fun x201 =>
        bnd (x200 && x201) fun x202 =>
        bno (gd (x202 == true) (dG x23 ([3] : (List Int))) default) fun x203 =>
        bnd (x202 && x203) fun x204 =>
        bnd (decide (x24.1 = 13)) fun x205 =>
        bnd (x204 && x205) fun x206 =>
        bnd (decide (0 = 8)) fun x207 =>
        bnd (x206 && x207) fun x208 =>
        bno (gd (x208 == true) (dI x24.2.1 x24.2.2.1 x24.2.2.2.1 x24.2.2.2.2.1 x24.2.2.2.2.2.1 x24.2.2.2.2.2.2.1 x24.2.2.2.2.2.2.2.1 x24.2.2.2.2.2.2.2.2) default) fun x209 =>
        bnd (decide (x209 = 2)) fun x210 =>
        bnd (x208 && x210) fun x211 =>
        bif (x211 == true) then (
          bno (iW x24.2.1 x24.2.2.1 x24.2.2.2.1 x24.2.2.2.2.1 x24.2.2.2.2.2.1 x24.2.2.2.2.2.2.1 x24.2.2.2.2.2.2.2.1 x24.2.2.2.2.2.2.2.2) fun x213 =>
          bnd (decide ((x213.length : Int) = 0)) fun x214 =>
          bnd (x211 && x214) fun x215 =>
          bnd (bif x215 then true else false) fun x216 =>
          bnd (bif x216 then true else false) fun x217 =>
          bnd (bif x217 then true else false) fun x218 =>
          bnd (bif x218 then true else false) fun x219 =>
          bnd (bif x219 then true else false) fun x220 =>
          bnd (bif x220 then true else false) fun x221 =>
          bnd (bif x221 then true else false) fun x222 =>
          iR x222
        ) else (
          bnd (decide ((([] : (List Int)).length : Int) = 0)) fun x223 =>
          bnd (x211 && x223) fun x224 =>
          bnd (bif x224 then true else false) fun x225 =>
          bnd (bif x225 then true else false) fun x226 =>
          bnd (bif x226 then true else false) fun x227 =>
          bnd (bif x227 then true else false) fun x228 =>
          bnd (bif x228 then true else false) fun x229 =>
          bnd (bif x229 then true else false) fun x230 =>
          bnd (bif x230 then true else false) fun x231 =>
          iR x231
        )
      )
    )
  )

def hM (a0 : cE) (a1 : Int) (a2 : Int) (a3 : (List aI)) (a4 : Int) (a5 : Int) (a6 : (List aG)) (a7 : Int) (a8 : (List Int)) (x1 : Int) (v11 : Bool) : Option (Int × Int × Int × (List aI) × Int × Int × (List aG) × Int × (List Int)) :=
  bif v11 then (
    bno (fN a0.ID a0.Dep a0.Weight a0.Only a1 a2 a3 a4 a5 a6 a7 a8) fun x13 =>
    some (x13.1,x13.2.1,x13.2.2.1,x13.2.2.2.1,x13.2.2.2.2.1,x13.2.2.2.2.2.1,x13.2.2.2.2.2.2.1,x13.2.2.2.2.2.2.2.1,x13.2.2.2.2.2.2.2.2)
  ) else (
    bnd (decide (x1 = 4)) fun x14 =>
    bif x14 then (
      bno (fS a0.ID a1 a2 a3 a4 a5 a6 a7 a8) fun x16 =>
      some (x16.1,x16.2.1,x16.2.2.1,x16.2.2.2.1,x16.2.2.2.2.1,x16.2.2.2.2.2.1,x16.2.2.2.2.2.2.1,x16.2.2.2.2.2.2.2.1,x16.2.2.2.2.2.2.2.2)
    ) else (
      bno (gA a0.ID a1 a2 a3 a4 a5 a6 a7 a8) fun x17 =>
      some (x17.1,x17.2.1,x17.2.2.1,x17.2.2.2.1,x17.2.2.2.2.1,x17.2.2.2.2.2.1,x17.2.2.2.2.2.2.1,x17.2.2.2.2.2.2.2.1,x17.2.2.2.2.2.2.2.2)
    )
  )
def hZ (a0 : cE) (a1 : Int) (a2 : Int) (a3 : (List aI)) (a4 : Int) (a5 : Int) (a6 : (List aG)) (a7 : Int) (a8 : (List Int)) (x1 : Int) (v5 : Bool) : Option (Int × Int × Int × (List aI) × Int × Int × (List aG) × Int × (List Int)) :=
  bif v5 then (
    bno (eC a0.ID a0.Dep a0.Weight a0.Only a1 a2 a3 a4 a5 a6 a7 a8) fun x7 =>
    some (x7.1,x7.2.1,x7.2.2.1,x7.2.2.2.1,x7.2.2.2.2.1,x7.2.2.2.2.2.1,x7.2.2.2.2.2.2.1,x7.2.2.2.2.2.2.2.1,x7.2.2.2.2.2.2.2.2)
  ) else (
    bnd (decide (x1 = 2)) fun x18 =>
    bif x18 then (
      hM a0 a1 a2 a3 a4 a5 a6 a7 a8 x1 x18
    ) else (
      bnd (decide (x1 = 3)) fun x20 =>
      hM a0 a1 a2 a3 a4 a5 a6 a7 a8 x1 x20
    )
  )
def iZ (a0 : cE) (a1 : Int) (a2 : Int) (a3 : (List aI)) (a4 : Int) (a5 : Int) (a6 : (List aG)) (a7 : Int) (a8 : (List Int)) : Option (Int × Int × Int × (List aI) × Int × Int × (List aG) × Int × (List Int)) :=
  bno (remI a0.Kind 6) fun x1 =>
  bnd (decide (x1 = 0)) fun x21 =>
  bif x21 then (
    hZ a0 a1 a2 a3 a4 a5 a6 a7 a8 x1 x21
  ) else (
    bnd (decide (x1 = 1)) fun x23 =>
    hZ a0 a1 a2 a3 a4 a5 a6 a7 a8 x1 x23
  )

def fI (a0 : (List Int)) (a1 : Int) : Nat → Int → Option Bool
  | 0,_=>none
  | n0 + 1, v7 =>
    bnd (decide (v7 < (a0.length : Int))) fun x14 =>
    bif x14 then (
      bno (gix a0 v7) fun x16 =>
      bnd (decide (x16 = a1)) fun x17 =>
      bif x17 then (
        some true
      ) else (
        bnd (IntKind.wrap .i64 (v7 + 1)) fun x19 =>
        (fI a0 a1 n0) x19
      )
    ) else (
      some false
    )
def dM (a0 : (List Int)) (a1 : Int) : Option Bool :=
  fI a0 a1 fuel 0

def cH (v247 : Bool) : Option Bool :=
  some v247
def cG (x40 : Int) (x42 : Int) (x43 : Int) (x44 : (List Int)) (x65 : (List Int)) (v79 : Bool) (x110 : (Int × Int × Int × (List aI) × Int × Int × (List aG) × Int × (List Int))) (x113 : (List Int)) (x114 : (List Int)) : Nat → Int → Option Bool
  | 0,_=>none
  | n3 + 1, v126 =>
    bnd (decide (v126 < (x44.length : Int))) fun x138 =>
    bif x138 then (
      bno (gix x44 v126) fun x140 =>
      bno (x44[(v126 : Int).toNat]?) fun x141 =>
      bnd (!decide (x141 = x40)) fun x142 =>
      bno (gd (x142 == true) (gix x44 v126) default) fun x143 =>
      bno (gd (x142 == true) (x44[(v126 : Int).toNat]?) default) fun x144 =>
      bno (gd (x142 == true) (dM x114 x144) default) fun x145 =>
      bnd (x142 && (!x145)) fun x146 =>
      bif x146 then (
        some false
      ) else (
        bnd (IntKind.wrap .i64 (v126 + 1)) fun x148 =>
        (cG x40 x42 x43 x44 x65 v79 x110 x113 x114 n3) x148
      )
    ) else (
      bnd (!decide ((x113.length : Int) = 1)) fun x149 =>
      bno (gd (x149 == false) (gix x113 0) default) fun x150 =>
      bno (gd (x149 == false) (x113[(0 : Int).toNat]?) default) fun x151 =>
      bnd (!decide (x151 = x40)) fun x152 =>
      bnd (x149 || x152) fun x153 =>
      bno (gd ((x153 == false) && (v79 == true)) (dI x110.2.1 x110.2.2.1 x110.2.2.2.1 x110.2.2.2.2.1 x110.2.2.2.2.2.1 x110.2.2.2.2.2.2.1 x110.2.2.2.2.2.2.2.1 x110.2.2.2.2.2.2.2.2) default) fun x154 =>
      bnd (!decide (x154 = x43)) fun x155 =>
      bnd (v79 && x155) fun x156 =>
      bnd (x153 || x156) fun x157 =>
      bno (gd ((x157 == false) && ((!v79) == true)) (dI x110.2.1 x110.2.2.1 x110.2.2.2.1 x110.2.2.2.2.1 x110.2.2.2.2.2.1 x110.2.2.2.2.2.2.1 x110.2.2.2.2.2.2.2.1 x110.2.2.2.2.2.2.2.2) default) fun x158 =>
      bnd (IntKind.wrap .i64 (x43 + 1)) fun x159 =>
      bnd (!decide (x158 = x159)) fun x160 =>
      bnd ((!v79) && x160) fun x161 =>
      bnd (x157 || x161) fun x162 =>
      bif x162 then (
        some false
      ) else (
        bnd (decide (x42 = 0)) fun x248 =>
        bif (x248 == false) then (
          bno (cM x40 x110.2.1 x110.2.2.1 x110.2.2.2.1 x110.2.2.2.2.1 x110.2.2.2.2.2.1 x110.2.2.2.2.2.2.1 x110.2.2.2.2.2.2.2.1 x110.2.2.2.2.2.2.2.2) fun x250 =>
          bnd (decide (0 < (x250.length : Int))) fun x251 =>
          bif ((x248 == false) && (x251 == true)) then (
            bno (cM x40 x110.2.1 x110.2.2.1 x110.2.2.2.1 x110.2.2.2.2.1 x110.2.2.2.2.2.1 x110.2.2.2.2.2.2.1 x110.2.2.2.2.2.2.2.1 x110.2.2.2.2.2.2.2.2) fun x253 =>
            bno (gd ((x248 == false) && (x251 == true)) (gix x253 0) default) fun x254 =>
            bno (gd ((x248 == false) && (x251 == true)) (x253[(0 : Int).toNat]?) default) fun x255 =>
            bnd (decide (x255 = x42)) fun x256 =>
            bnd (x251 && x256) fun x257 =>
            bnd (x248 || x257) fun x258 =>
            bif (x258 == true) then (
              bno (cM x40 x110.2.1 x110.2.2.1 x110.2.2.2.1 x110.2.2.2.2.1 x110.2.2.2.2.2.1 x110.2.2.2.2.2.2.1 x110.2.2.2.2.2.2.2.1 x110.2.2.2.2.2.2.2.2) fun x260 =>
              bno (gd (x258 == true) (dM x260 x40) default) fun x261 =>
              bnd (x258 && (!x261)) fun x262 =>
              bnd (decide ((x65.length : Int) < 24)) fun x263 =>
              bnd (x262 && x263) fun x264 =>
              bno (gd (x264 == true) (dA) default) fun x265 =>
              bnd (x264 && x265) fun x266 =>
              cH x266
            ) else (
              bno (gd (x258 == true) (dM ([] : (List Int)) x40) default) fun x267 =>
              bnd (x258 && (!x267)) fun x268 =>
              bnd (decide ((x65.length : Int) < 24)) fun x269 =>
              bnd (x268 && x269) fun x270 =>
              bno (gd (x270 == true) (dA) default) fun x271 =>
              bnd (x270 && x271) fun x272 =>
              cH x272
            )
          ) else (
            bno (gd ((x248 == false) && (x251 == true)) (gix ([] : (List Int)) 0) default) fun x273 =>
            bnd (decide (x273 = x42)) fun x274 =>
            bnd (x251 && x274) fun x275 =>
            bnd (x248 || x275) fun x276 =>
            bif (x276 == true) then (
              bno (cM x40 x110.2.1 x110.2.2.1 x110.2.2.2.1 x110.2.2.2.2.1 x110.2.2.2.2.2.1 x110.2.2.2.2.2.2.1 x110.2.2.2.2.2.2.2.1 x110.2.2.2.2.2.2.2.2) fun x278 =>
              bno (gd (x276 == true) (dM x278 x40) default) fun x279 =>
              bnd (x276 && (!x279)) fun x280 =>
              bnd (decide ((x65.length : Int) < 24)) fun x281 =>
              bnd (x280 && x281) fun x282 =>
              bno (gd (x282 == true) (dA) default) fun x283 =>
              bnd (x282 && x283) fun x284 =>
              cH x284
            ) else (
              bno (gd (x276 == true) (dM ([] : (List Int)) x40) default) fun x285 =>
              bnd (x276 && (!x285)) fun x286 =>
              bnd (decide ((x65.length : Int) < 24)) fun x287 =>
              bnd (x286 && x287) fun x288 =>
              bno (gd (x288 == true) (dA) default) fun x289 =>
              bnd (x288 && x289) fun x290 =>
              cH x290
            )
          )
        ) else (
          bnd (decide (0 < (([] : (List Int)).length : Int))) fun x291 =>
          bif ((x248 == false) && (x291 == true)) then (
            bno (cM x40 x110.2.1 x110.2.2.1 x110.2.2.2.1 x110.2.2.2.2.1 x110.2.2.2.2.2.1 x110.2.2.2.2.2.2.1 x110.2.2.2.2.2.2.2.1 x110.2.2.2.2.2.2.2.2) fun x293 =>
            bno (gd ((x248 == false) && (x291 == true)) (gix x293 0) default) fun x294 =>
            bno (gd ((x248 == false) && (x291 == true)) (x293[(0 : Int).toNat]?) default) fun x295 =>
            bnd (decide (x295 = x42)) fun x296 =>
            bnd (x291 && x296) fun x297 =>
            bnd (x248 || x297) fun x298 =>
            bif (x298 == true) then (
              bno (cM x40 x110.2.1 x110.2.2.1 x110.2.2.2.1 x110.2.2.2.2.1 x110.2.2.2.2.2.1 x110.2.2.2.2.2.2.1 x110.2.2.2.2.2.2.2.1 x110.2.2.2.2.2.2.2.2) fun x300 =>
              bno (gd (x298 == true) (dM x300 x40) default) fun x301 =>
              bnd (x298 && (!x301)) fun x302 =>
              bnd (decide ((x65.length : Int) < 24)) fun x303 =>
              bnd (x302 && x303) fun x304 =>
              bno (gd (x304 == true) (dA) default) fun x305 =>
              bnd (x304 && x305) fun x306 =>
              cH x306
            ) else (
              bno (gd (x298 == true) (dM ([] : (List Int)) x40) default) fun x307 =>
              bnd (x298 && (!x307)) fun x308 =>
              bnd (decide ((x65.length : Int) < 24)) fun x309 =>
              bnd (x308 && x309) fun x310 =>
              bno (gd (x310 == true) (dA) default) fun x311 =>
              bnd (x310 && x311) fun x312 =>
              cH x312
            )
          ) else (
            bno (gd ((x248 == false) && (x291 == true)) (gix ([] : (List Int)) 0) default) fun x313 =>
            bnd (decide (x313 = x42)) fun x314 =>
            bnd (x291 && x314) fun x315 =>
            bnd (x248 || x315) fun x316 =>
            bif (x316 == true) then (
              bno (cM x40 x110.2.1 x110.2.2.1 x110.2.2.2.1 x110.2.2.2.2.1 x110.2.2.2.2.2.1 x110.2.2.2.2.2.2.1 x110.2.2.2.2.2.2.2.1 x110.2.2.2.2.2.2.2.2) fun x318 =>
              bno (gd (x316 == true) (dM x318 x40) default) fun x319 =>
              bnd (x316 && (!x319)) fun x320 =>
              bnd (decide ((x65.length : Int) < 24)) fun x321 =>
              bnd (x320 && x321) fun x322 =>
              bno (gd (x322 == true) (dA) default) fun x323 =>
              bnd (x322 && x323) fun x324 =>
              cH x324
            ) else (
              bno (gd (x316 == true) (dM ([] : (List Int)) x40) default) fun x325 =>
              bnd (x316 && (!x325)) fun x326 =>
              bnd (decide ((x65.length : Int) < 24)) fun x327 =>
              bnd (x326 && x327) fun x328 =>
              bno (gd (x328 == true) (dA) default) fun x329 =>
              bnd (x328 && x329) fun x330 =>
              cH x330
            )
          )
        )
      )
    )
def cT (v20 : Int) (v21 : Int) (v22 : (List aI)) (v23 : Int) (v24 : Int) (v25 : (List aG)) (v26 : Int) (v27 : (List Int)) (x40 : Int) (x42 : Int) (x43 : Int) (x44 : (List Int)) (x65 : (List Int)) (x66 : (List aZ)) : Nat → Bool → Bool → Int → Option Bool
  | 0,_,_,_=>none
  | n2 + 1, v78, v79, v80 =>
    bnd (decide (v80 < (x66.length : Int))) fun x92 =>
    bif x92 then (
      bno (gd (v79 == false) (gix x66 v80) default) fun x94 =>
      bno (gd (v79 == false) (x66[(v80 : Int).toNat]?) default) fun x95 =>
      bnd (decide (x95.ID = x40)) fun x96 =>
      bnd (v79 || x96) fun x97 =>
      bno (gd (v78 == false) (gix x66 v80) default) fun x98 =>
      bno (gd (v78 == false) (x66[(v80 : Int).toNat]?) default) fun x99 =>
      bnd (decide (x99.ID = x42)) fun x100 =>
      bnd (v78 || x100) fun x101 =>
      bnd (IntKind.wrap .i64 (v80 + 1)) fun x102 =>
      (cT v20 v21 v22 v23 v24 v25 v26 v27 x40 x42 x43 x44 x65 x66 n2) x101 x97 x102
    ) else (
      bnd (decide (x40 = x42)) fun x103 =>
      bnd (x103 || (!v78)) fun x104 =>
      bnd (decide (x43 = 24)) fun x105 =>
      bnd ((!v79) && x105) fun x106 =>
      bnd (x104 || x106) fun x107 =>
      bif x107 then (
        bno (dA) fun x109 =>
        some x109
      ) else (
        bno (fN x40 x42 7 true v20 v21 v22 v23 v24 v25 v26 v27) fun x110 =>
        bnd (!decide (x110.1 = 0)) fun x111 =>
        bif x111 then (
          some false
        ) else (
          bno (dJ x42 x110.2.1 x110.2.2.1 x110.2.2.2.1 x110.2.2.2.2.1 x110.2.2.2.2.2.1 x110.2.2.2.2.2.2.1 x110.2.2.2.2.2.2.2.1 x110.2.2.2.2.2.2.2.2) fun x113 =>
          bno (dJ x40 x110.2.1 x110.2.2.1 x110.2.2.2.1 x110.2.2.2.2.1 x110.2.2.2.2.2.1 x110.2.2.2.2.2.2.1 x110.2.2.2.2.2.2.2.1 x110.2.2.2.2.2.2.2.2) fun x114 =>
          cG x40 x42 x43 x44 x65 v79 x110 x113 x114 fuel 0
        )
      )
    )
def cU (v20 : Int) (v21 : Int) (v22 : (List aI)) (v23 : Int) (v24 : Int) (v25 : (List aG)) (v26 : Int) (v27 : (List Int)) (x40 : Int) (x42 : Int) (x43 : Int) (x44 : (List Int)) (v64 : Bool) : Option Bool :=
  bno (cM x40 v20 v21 v22 v23 v24 v25 v26 v27) fun x65 =>
  bno (gM v20 v21 v22 v23 v24 v25 v26 v27) fun x66 =>
  cT v20 v21 v22 v23 v24 v25 v26 v27 x40 x42 x43 x44 x65 x66 fuel v64 false 0
def dF (a0 : (List cE)) (a1 : Int) (a2 : Int) : Nat → Int → Int → Int → (List aI) → Int → Int → (List aG) → Int → (List Int) → Option Bool
  | 0,_,_,_,_,_,_,_,_,_=>none
  | n0 + 1, v19, v20, v21, v22, v23, v24, v25, v26, v27 =>
    bnd (decide (v19 < (a0.length : Int))) fun x33 =>
    bif x33 then (
      bno (gix a0 v19) fun x35 =>
      bno (iZ x35 v20 v21 v22 v23 v24 v25 v26 v27) fun x36 =>
      bnd (IntKind.wrap .i64 (v19 + 1)) fun x37 =>
      (dF a0 a1 a2 n0) x37 x36.2.1 x36.2.2.1 x36.2.2.2.1 x36.2.2.2.2.1 x36.2.2.2.2.2.1 x36.2.2.2.2.2.2.1 x36.2.2.2.2.2.2.2.1 x36.2.2.2.2.2.2.2.2
    ) else (
      bno (remI a1 9) fun x38 =>
      bnd (IntKind.wrap .i64 x38) fun x39 =>
      bnd (IntKind.wrap .i64 (1 + x39)) fun x40 =>
      bno (remI a2 10) fun x41 =>
      bnd (IntKind.wrap .i64 x41) fun x42 =>
      bno (dI v20 v21 v22 v23 v24 v25 v26 v27) fun x43 =>
      bno (dJ x42 v20 v21 v22 v23 v24 v25 v26 v27) fun x44 =>
      bnd (decide (x42 = 0)) fun x331 =>
      bif (x331 == false) then (
        bno (cM x42 v20 v21 v22 v23 v24 v25 v26 v27) fun x333 =>
        bno (gd (x331 == false) (dM x333 x40) default) fun x334 =>
        bnd (x331 || x334) fun x335 =>
        bif (x335 == false) then (
          bno (dJ x42 v20 v21 v22 v23 v24 v25 v26 v27) fun x337 =>
          bnd (decide (0 < (x337.length : Int))) fun x338 =>
          bnd (x335 || x338) fun x339 =>
          cU v20 v21 v22 v23 v24 v25 v26 v27 x40 x42 x43 x44 x339
        ) else (
          bnd (decide (0 < (([] : (List Int)).length : Int))) fun x340 =>
          bnd (x335 || x340) fun x341 =>
          cU v20 v21 v22 v23 v24 v25 v26 v27 x40 x42 x43 x44 x341
        )
      ) else (
        bno (gd (x331 == false) (dM ([] : (List Int)) x40) default) fun x342 =>
        bnd (x331 || x342) fun x343 =>
        bif (x343 == false) then (
          bno (dJ x42 v20 v21 v22 v23 v24 v25 v26 v27) fun x345 =>
          bnd (decide (0 < (x345.length : Int))) fun x346 =>
          bnd (x343 || x346) fun x347 =>
          cU v20 v21 v22 v23 v24 v25 v26 v27 x40 x42 x43 x44 x347
        ) else (
          bnd (decide (0 < (([] : (List Int)).length : Int))) fun x348 =>
          bnd (x343 || x348) fun x349 =>
          cU v20 v21 v22 v23 v24 v25 v26 v27 x40 x42 x43 x44 x349
        )
      )
    )
def gI (a0 : (List cE)) (a1 : Int) (a2 : Int) : Option Bool :=
  bnd (decide (40 < (a0.length : Int))) fun x1 =>
  bif x1 then (
    bno (dA) fun x3 =>
    some x3
  ) else (
    bno (jJ 24 1 24) fun x4 =>
    bno (gd ((!x4) == false) (jJ 0 0 24) default) fun x5 =>
    bnd ((!x4) || (!x5)) fun x6 =>
    bif x6 then (
      bnd (!decide (8 = 0)) fun x8 =>
      bnd (x8 || true) fun x9 =>
      some false
    ) else (
      bno (mY) fun x10 =>
      bnd (!decide (0 = 0)) fun x11 =>
      bnd (x11 || false) fun x12 =>
      bif x12 then (
        some false
      ) else (
        dF a0 a1 a2 fuel 0 24 0 x10.Cells x10.Free x10.Used ((List.replicate 64 (⟨0,0,0,0,0,false⟩ : aG) : (List aG))) (-1) ([] : (List Int))
      )
    )
  )
end Go.Fn
