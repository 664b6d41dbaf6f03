/-
  A part of the proof: rules and plain facts. No condition.
-/
import Derived.Test.YtnokcmkfkfeaiaaGreatIlEq
set_option linter.all false
open Go.RowKit (Below)
namespace Go.IL
def cpy {α:Type} (xs ys:List α):List α:=ys.take xs.length++xs.drop ys.length
theorem cpy_len {α:Type} (xs ys:List α):(cpy xs ys).length=xs.length:=by simp [cpy]; omega
theorem aGI {α:Type} {xs ys zs:List α} {n:Nat} (h:cpy xs ys=zs) (hl:xs.length=n):zs.length=n:=by rw [←h,cpy_len,hl]
section
variable {P:Program} {O:cT} {N:Nat} {S S':St} {o:Oper} {t:Nat} {Q:Exit→St→Prop}
theorem aGF {α:Type} (f:Enc0 α) (xs ys:List α):fS (D.flat (xs.map f.d)) 0 ((D.flat (ys.map f.d)).take (min ys.length xs.length*f.sz))=D.flat ((cpy xs ys).map f.d):=by
 have e1:(D.flat (ys.map f.d)).take (min ys.length xs.length*f.sz)=D.flat ((ys.take xs.length).map f.d):=by
  have h:=vJ f ys (min ys.length xs.length)
  have hl:(D.flat ((ys.take (min ys.length xs.length)).map f.d)).length=min ys.length xs.length*f.sz:=by
   rw [f.flat_len,List.length_take]; congr 1; omega
  rw [h,←hl,List.take_append_of_le_length (Nat.le_refl _),List.take_length]
  congr 2
  rcases Nat.le_total ys.length xs.length with h | h
  · rw [Nat.min_eq_left h,List.take_length,List.take_of_length_le h]
  · rw [Nat.min_eq_right h]
 rw [e1]
 unfold fS cpy
 have e2:(D.flat ((ys.take xs.length).map f.d)).length=min ys.length xs.length*f.sz:=by rw [f.flat_len,List.length_take]; congr 1; omega
 have e3:(D.flat (xs.map f.d)).drop (min ys.length xs.length*f.sz)=D.flat ((xs.drop ys.length).map f.d):=by
  have h:=vJ f xs (min ys.length xs.length)
  have hl:(D.flat ((xs.take (min ys.length xs.length)).map f.d)).length=min ys.length xs.length*f.sz:=by
   rw [f.flat_len,List.length_take]; congr 1; omega
  rw [h,←hl,List.drop_append_of_le_length (Nat.le_refl _),List.drop_length,List.nil_append]
  congr 2
  rcases Nat.le_total ys.length xs.length with h | h
  · rw [Nat.min_eq_left h]
  · rw [Nat.min_eq_right h,List.drop_length,List.drop_of_length_le h]
 rw [e2,Nat.zero_add,e3,List.take_zero,List.nil_append,f.flat_append]
theorem aE9 {α:Type} (f:Enc0 α) {T T2 e:TypeId} {x y:Operand} {id n:Nat} {e':TypeId} {xs ys zs:List α} {z:Option Value} {bytes:Nat} (ho:o.op = .call { callee:=.builtin .copy,args:=#[x,y],argTypes:=#[T,T2] }) (hd:o.dst=some t) (ht:t<N)
 (hu:P.underlying T=some (.slice e)) (hi:TI P e z f.sz bytes) (hx:S.op x = .osl id f.sz n) (hl:xs.length=n) (he:S.ent id = .blk e' (D.flat (xs.map f.d)))
 (hy:∀ E β a,Rel O N S E β a→Src E β (a.eval y) ys.length (D.flat (ys.map f.d))) (hz:cpy xs ys=zs):IOp P O N o S ((S.setE id (.blk e' (D.flat (zs.map f.d)))).set t (.int .i64 ((min ys.length n:Nat):Int))):=by
 intro E β a hr next Q hn
 subst hz
 have h1:Rd E β (a.eval x) (.osl id f.sz n):=hx ▸ hr.op x
 have hone:((D.flat (ys.map f.d)).take (min ys.length n*f.sz)).all D.one=true:=zA (f.one ys) _
 generalize hv:a.eval x=v at h1
 cases h1 with
 | nosl =>
   have hx0:xs=[]:=List.length_eq_zero_iff.1 hl
   subst hx0
   have e0:cpy ([]:List α) ys=[]:=by simp [cpy]
   rw [e0] at hn
   have hsame:Rel O N (S.setE id (.blk e' (D.flat (([]:List α).map f.d)))) E β a:=hr.same (fun _=>rfl) (fun j=>by
    by_cases hj:j=id
    · subst hj; rw [aAY,he]
    · rw [xC hj])
   have hrun0:∀ r,(Builtin.copy_ #[T,T2] o.type #[a.eval x,a.eval y]).run P E.w=r→(execOp a.eval o).run P E.w=r.andThen fun v w'=>.ok (.value v) w':=fun r hr'=>by
    simp [execOp,ho,resolve,invoke,builtin,hr']
   have hra:(Builtin.copy_ #[T,T2] o.type #[a.eval x,a.eval y]).run P E.w = .ok (goInt 0) E.w:=by
    have hl0:∀ q:Addr,(loadCells q 0).run P E.w = .ok #[] E.w:=fun q=>by simpa using run_loadCells_list (P:=P) E.w q [] (by simp)
    have hmn:∀ k,Nat.min k 0=0:=fun k=>Nat.min_zero k
    rcases hy E β a hr with ⟨hyv | ⟨ad,sc,hyv⟩,_,_⟩ | ⟨yb,yoff,ycap,us,hyv,_,_⟩ <;>
    · rw [hv,hyv]
      simp [Builtin.copy_,run_underlying hu,Builtin.lenOf,Builtin.firstCells,hi.run_size,hmn,storeCells,hl0]
   unfold Oper.wp
   rw [hrun0 _ hra]
   simp only [Result.andThen_ok,Oper.upon,hd]
   exact hn E β _ (hsame.set ht (by rw [Nat.min_zero]; unfold goInt; exact .int _ _ _))
 | osl _ _ b _ cap _ hb hc hsz c e2 f2 hcap hcs hcm =>
   subst hl
   exact aCn ho hd ht hu hi he hy (f.flat_len ys) hone (by rw [f.flat_len]; omega) rfl (aGF f xs ys) E β a hr (by
    rw [hv]; exact .rsl _ _ _ 0 _ cap b 0 hb hc hsz ⟨fun _=>rfl,Nat.le_refl _⟩ c e2 f2 hcap (by omega) hcm) next Q hn
theorem aEh {E:Env} {β:cH} {v:Value} {l:List D} (h:Rd E β v (.slice true l)) :
 (v = .slice none 0 0∧l=[])∨(∃ b off sz vs,v = .slice (some ⟨b,off,none⟩) l.length l.length∧(∀ d∈l,d.cells.length=sz)∧0<sz∧E.row b off vs∧RdL E β0 vs (D.flat l))∨∃ ad,v = .slice (some ad) 0 0∧l=[]:=by
 cases h with
 | slice _ b off len cap sz _ vs _ hl hc hf hz hsz hr hv=>subst hl; rw [hf rfl]; exact .inr (.inl ⟨b,off,sz,vs,rfl,hz,hsz,hr,hv⟩)
 | nslice=>exact .inl ⟨rfl,rfl⟩
 | eslice _ ad cap _ hf=>rw [hf rfl]; exact .inr (.inr ⟨ad,rfl,rfl⟩)
theorem wC {E:Env} {β:cH} {a:Act} (hr:Rel O N S E β a) {len cap:Nat} {y m:Operand} {k1 k2:IntKind} {h:Int} (hy:SV S y (.int k1 h)) (hm:SV S m (.int k2 h)) (h0:0≤h) (h1:h≤cap) :
 (Instr.sliceBounds true len cap none (some (a.eval y)) (some (a.eval m))).run P E.w = .ok (0,h.toNat,h.toNat) E.w:=by
 have e1:(h.toNat:Int)=h:=by omega
 simp [Instr.sliceBounds,Instr.sliceBound,iH (hy.rd hr),iH (hm.rd hr),asIntOf,h0,h1,e1]
theorem aEH {T e:TypeId} {x y m:Operand} {s r:List D} {f:Bool} {h:Int} {k1 k2:IntKind} {z:Option Value} {size bytes:Nat} (ho:o.op = .slice T x none (some y) (some m)) (hd:o.dst=some t) (ht:t<N) (hu:P.underlying T=some (.slice e)) (hi':TI P e z size bytes)
 (hx:SV S x (.slice f s)) (hz:∀ d∈s,d.cells.length=size) (hy:SV S y (.int k1 h)) (hm:SV S m (.int k2 h)) (h0:0≤h) (h2:h≤s.length) (hr':s.take h.toNat=r):IOp P O N o S (S.set t (.slice true r)) :=
 gC hd ht fun E β a hr=>by
  subst hr'
  rcases rR (hx.rd hr) with ⟨hev,rfl⟩ | ⟨b,off,cap,sz,vs,hev,hc,_,hzz,hsp,hrow,hvs⟩ | ⟨ad,cap,hev,rfl⟩
  · have e1:h=0:=by simp at h2; omega
    subst e1
    have hb:=wC (P:=P) hr (len:=0) (cap:=0) hy hm (Int.le_refl 0) (Int.le_refl 0)
    refine ⟨.slice none 0 0,?_,by simpa using Rd.nslice β true⟩
    simp [execOp,ho,hev,Instr.sliceAt,Instr.slice,run_underlying hu,hb,hi'.run_size]
  · have hb:=wC (P:=P) hr (len:=s.length) (cap:=cap) hy hm h0 (by omega)
    have hlen:(s.take h.toNat).length=h.toNat:=by rw [List.length_take]; omega
    by_cases hs0:h.toNat=0
    · have hs:s.take h.toNat=[]:=by rw [hs0]; rfl
      refine ⟨.slice (some ⟨b,off,none⟩) 0 0,?_,by rw [hs]; exact .eslice _ _ 0 true (fun _=>rfl)⟩
      rw [hs0] at hb
      simp [execOp,ho,hev,Instr.sliceAt,Instr.slice,run_underlying hu,hb,hi'.run_size,iO]
    · have hflat:=hvs.take (h.toNat*size)
      have hsplit:D.flat s=D.flat (s.take h.toNat)++D.flat (s.drop h.toNat):=by
       have:D.flat (s.take h.toNat)++D.flat (s.drop h.toNat)=D.flat (s.take h.toNat++s.drop h.toNat):=by simp only [D.flat]; rw [←List.flatMap_append]
       rw [this,List.take_append_drop]
      have hfl:(D.flat (s.take h.toNat)).length=h.toNat*size:=by
       have:∀ l:List D,(∀ d∈l,d.cells.length=size)→(D.flat l).length=l.length*size:=by
        intro l
        induction l with
        | nil=>intro _; simp [D.flat]
        | cons d l ih=>intro hh; have h1:=ih (fun d' hd'=>hh d' (by simp [hd'])); have h2:=hh d (by simp); simp only [D.flat,List.flatMap_cons,List.length_append,List.length_cons] at *; rw [h1,h2,Nat.add_mul]; omega
       rw [this _ (fun d hd=>hz d (List.mem_of_mem_take hd)),hlen]
      rw [hsplit,←hfl,List.take_append_of_le_length (Nat.le_refl _),List.take_length] at hflat
      refine ⟨.slice (some ⟨b,off,none⟩) h.toNat h.toNat,?_,.slice _ b off _ _ size true (vs.take (D.flat (s.take h.toNat)).length) _ hlen (Nat.le_refl _) (fun _=>rfl) (fun d hd=>hz d (List.mem_of_mem_take hd)) ?_ (fun k v hk=>?_) hflat⟩
      · simp [execOp,ho,hev,Instr.sliceAt,Instr.slice,run_underlying hu,hb,hi'.run_size,iO]
      · have:s≠[]:=by rintro rfl; simp at h2; omega
        obtain ⟨d,hd⟩:=List.exists_mem_of_ne_nil s this
        have h1:=hz d hd
        have h3:=hzz d hd
        omega
      · rw [List.getElem?_take] at hk
        split at hk
        · exact hrow k v hk
        · cases hk
  · have e1:h=0:=by simp at h2; omega
    subst e1
    have hb:=wC (P:=P) hr (len:=0) (cap:=cap) hy hm (Int.le_refl 0) (by omega)
    refine ⟨.slice (some ad) 0 0,?_,by simpa using Rd.eslice β ad 0 true (fun _=>rfl)⟩
    simp [execOp,ho,hev,Instr.sliceAt,Instr.slice,run_underlying hu,hb,hi'.run_size,Addr.add]
theorem aCd {T e:TypeId} {x y:Operand} {z:Value} {size bytes m:Nat} {l es:List D} (id':Nat)
 (ho:o.op = .call { callee:=.builtin .append,args:=#[x,y],argTypes:=#[T,T] }) (hd:o.dst=some t) (ht:t<N)
 (hu:P.underlying T=some (.slice e)) (hi:TI P e (some z) size bytes) (hz:z.cells.size=size) (hsp:0<size) (hfr:S.ent id' = .fresh)
 (hx:SV S x (.slice true l)) (hl:(D.flat l).length=l.length*size) (hy:∀ E β a,Rel O N S E β a→Src E β (a.eval y) m es) (hes:es.length=m*size) (hne:0<m)
 (hm:l.length+m≤maxLen) (hb:(l.length+m)*bytes≤140737488355328) :
 IOp P O N o S ((S.setE id' (.blk e (D.flat l++es))).set t (.osl id' size (l.length+m))):=by
 have hs1:S.sl=S.sl:=rfl
 have hs2:∀ j,S.ent j=S.ent j∨S.ent j = .none:=fun _=>.inl rfl
 intro E β a hr next Q hn
 obtain ⟨i,hi1,hi2,hi3,hi4⟩:=hi.at
 have hfre:β id'=none:=by have:=hr.h.ent id'; rw [hfr] at this; exact this
 have hrun:∀ v,(Builtin.append_ #[T,T] o.type #[a.eval x,a.eval y]).run P E.w=v→(execOp a.eval o).run P E.w=v.andThen fun v w'=>.ok (.value v) w':=fun v hv=>by
  simp [execOp,ho,resolve,invoke,builtin,hv]
 have hts:t<a.tmps.size:=hr.n ▸ ht
 let S2:St:=(S.setE id' (.blk e (D.flat l++es))).set t (.osl id' size (l.length+m))
 have slots:∀ (E':Env) (β':cH) (v:Value),E.le E'→β.le β'→Rd E' β' v (.osl id' size (l.length+m))→∀ s,Rd E' β' ((a.put (some t) v).tmps.getD s undef) (S2.get s):=by
  intro E' β' v hle hβ hv s
  by_cases hst:t=s
  · subst hst
    simpa [S2,Act.put,St.get,St.set,bB,hts] using hv
  · have:=Rd.mono hle hβ (hr.sl s)
    simpa [S2,Act.put,St.get,St.set,St.setE,bB,hst,Array.getElem?_setIfInBounds_ne,hs1] using this
 let β':Nat→cH:=fun b j=>if j=id' then some b else β j
 have hβ:∀ b,β.le (β' b):=fun b j k hj=>by
  by_cases hji:j=id'
  · subst hji; rw [hfre] at hj; cases hj
  · simp [β',hji,hj]
 have hsame:∀ j,j≠id'→S2.ent j=S.ent j:=fun j hj=>by simp [S2,St.ent,entL,St.setE,St.set,bB,Ne.symm hj]
 have hother:∀ b j,j≠id'→(S2.ent j=S.ent j∧β' b j=β j)∨S2.ent j = .none:=by
  intro b j hj
  rw [hsame j hj]
  rcases hs2 j with h | h
  · exact .inl ⟨h,by simp [β',hj]⟩
  · exact .inr h
 have hheld:∀ j,j≠id'→(S2.ent j).held=true→(S.ent j).held=true:=fun j hj h=>by rw [←hsame j hj]; exact h
 have hheld0:∀ j,(S.ent j).held=true→(S.ent j).held=true:=fun j h=>by
  rcases hs2 j with h1 | h1
  · rw [←h1]; exact h
  · rw [h1] at h; cases h
 have hentid:S2.ent id' = .blk e (D.flat l++es):=by simp [S2,St.ent,entL,St.setE,St.set,bB]
 have fresh:∀ (vs us:List Value) (cap:Nat),RdL E β vs (D.flat l)→RdL E β us es→l.length+m≤cap→cap≤maxLen →
  (Builtin.append_ #[T,T] o.type #[a.eval x,a.eval y]).run P E.w = .ok (.slice (some ⟨E.w.heap.size,0,none⟩) (l.length+m) cap) (E.w.drew.alloc (.cells (vs.toArray++us.toArray++Builtin.zeroCells z.cells (cap-(l.length+m))) e)) →
  o.wp P a E.w next Q:=by
  intro vs us cap hvs hus hcap hcm hra
  unfold Oper.wp
  rw [hrun _ hra]
  simp only [Result.andThen_ok,Oper.upon,hd]
  let E':Env:=⟨E.w.drew.alloc (.cells (vs.toArray++us.toArray++Builtin.zeroCells z.cells (cap-(l.length+m))) e),fun b o=>b=E.w.heap.size∨E.X b o⟩
  have hs:Step O E E' E.w.heap.size :=
   ⟨rfl,rfl,rfl,by simp [E'],by simp [E'],.inl hr.h.size,fun k hk _=>heap_alloc_old E.w.drew _ hk,fun k o hk=>by simp [E',hk],fun _ h=>Nat.lt_irrefl _ (dQ h)⟩
  have hle:E.le E':=hs.le (fun o v h1 _=>by have:=World.block_lt_of_cell? _ _ h1; simp at this) (fun c e f h1=>by have:=dQ h1; simp at this)
  have hnew:E'.w.heap[E.w.heap.size]? = some (.cells (vs.toArray++us.toArray++Builtin.zeroCells z.cells (cap-(l.length+m))) e (0,0)):=heap_alloc_new E.w.drew _
  have hvl:=hvs.length
  have hul:=hus.length
  have hvs':=(RdL.mono hle (hβ E.w.heap.size) hvs).append (RdL.mono hle (hβ E.w.heap.size) hus)
  refine hn E' (β' E.w.heap.size) _ ⟨by simp [Act.put,hr.n],hr.nd.step hs,?_,slots E' _ _ hle (hβ _) ?_⟩
  · refine HOk.put hr.h hs hle (hβ _) (fun j hj=>hother _ j hj) ?_ (id:=id') (by simp [β']) ?_ (fun _ _=>trivial)
    · intro j hj hh hbj
      have:=hr.h.held_lt (hheld0 j (hheld j hj hh)) hbj
      omega
    · rw [hentid]
      exact ⟨vs++us,(Builtin.zeroCells z.cells (cap-(l.length+m))).toList,by rw [hnew]; simp,fun o=>.inl rfl,hvs'⟩
  · exact .osl _ _ E.w.heap.size _ cap size (by simp [β']) hcap hsp _ _ _ hnew
     (by simp only [Array.size_append,List.size_toArray,size_zeroCells,hz,hvl,hul,hl,hes]; rw [←Nat.add_mul,←Nat.add_mul]; exact Nat.mul_le_mul_right _ (by omega)) hcm
 rcases hy E β a hr with ⟨_,hm0,_⟩ | ⟨yb,yoff,ycap,us,hyv,hyr,hus⟩
 · omega
 · have hul:us.length=m*i.size:=by rw [hus.length,hes,hi3]
   have up:∀ {vs ds},RdL E β0 vs ds→RdL E β vs ds:=fun h=>RdL.mono (Env.le.refl _) (fun _ _ h=>by cases h) h
   rcases aEh (hx.rd hr) with ⟨hxv,rfl⟩ | ⟨b,off,sz,vs,hxv,_,_,hrow,hvs⟩ | ⟨ad,hxv,rfl⟩
   · simp only [List.length_nil,Nat.zero_add] at hm hb fresh ⊢
     have hra:=run_append_nil (P:=P) E.w T o.type e i z hu hi1 hi2 ⟨yb,yoff,none⟩ m ycap us hul hyr hne (by simp [maxLen] at hm; omega) (by rw [hi4]; omega)
     refine fresh [] us (grownCap E.w m 0 e) (.nil _) hus (by simpa using grownCap_ge _ _ _ _) (grownCap_le_maxLen _ _ _ _ (by simpa using hm)) ?_
     rw [hxv,hyv]
     simpa using hra
   · have hvl:vs.length=l.length*i.size:=by rw [hvs.length,hl,hi3]
     have hra:=run_append_grow (P:=P) E.w T o.type e i z hu hi1 hi2 ⟨b,off,none⟩ l.length l.length vs hvl (fun j u hj=>by rw [iO]; exact (hrow j u hj).1) ⟨yb,yoff,none⟩ m ycap us hul hyr (by omega) (by simp [maxLen] at hm; omega) (growslice_fits (by omega) (by rw [hi4]; exact hb))
     refine fresh vs us (grownCap E.w (l.length+m) l.length e) (up hvs) hus (grownCap_ge _ _ _ _) (grownCap_le_maxLen _ _ _ _ hm) ?_
     rw [hxv,hyv]
     exact hra
   · have hra:=run_append_grow (P:=P) E.w T o.type e i z hu hi1 hi2 ad 0 0 [] (by simp) (fun j u hj=>by simp at hj) ⟨yb,yoff,none⟩ m ycap us hul hyr (by omega) (by simp [maxLen] at hm; omega) (growslice_fits (by omega) (by rw [hi4]; simpa using hb))
     refine fresh [] us (grownCap E.w (0+m) 0 e) (.nil _) hus (by simpa using grownCap_ge _ _ _ _) (grownCap_le_maxLen _ _ _ _ (by simpa using hm)) ?_
     rw [hxv,hyv]
     simpa using hra
theorem aE8 {α:Type} (f:Enc α) {T e:TypeId} {x y m:Operand} {b:Bool} {k1 k2:IntKind} {xs r:List α} {h:Int} {z:Option Value} {bytes:Nat} (ho:o.op = .slice T x none (some y) (some m)) (hd:o.dst=some t) (ht:t<N) (hu:P.underlying T=some (.slice e)) (hi':TI P e z f.sz bytes)
 (hx:SV S x (.slice b (xs.map f.d))) (hy:SV S y (.int k1 h)) (hm:SV S m (.int k2 h)) (hc:cut xs 0 h=some r):IOp P O N o S (S.set t (.slice true (r.map f.d))):=by
 obtain ⟨⟨_,h0,h1⟩,hr⟩:=aEP hc
 exact aEH ho hd ht hu hi' hx (f.len xs) hy hm h0 (by simpa using h1) (by rw [←hr,←List.map_take]; simp)
theorem aF9 {α:Type} (f:Enc0 α) {T e:TypeId} {x y:Operand} {z:Value} {bytes:Nat} {xs ys zs:List α} (id':Nat)
 (ho:o.op = .call { callee:=.builtin .append,args:=#[x,y],argTypes:=#[T,T] }) (hd:o.dst=some t) (ht:t<N)
 (hu:P.underlying T=some (.slice e)) (hi:TI P e (some z) f.sz bytes) (hz:z.cells.size=f.sz)
 (hx:SV S x (.slice true (xs.map f.d))) (hfr:S.ent id' = .fresh)
 (hy:∀ E β a,Rel O N S E β a→Src E β (a.eval y) ys.length (D.flat (ys.map f.d))) (hne:0<ys.length) (ha:app bytes xs ys=some zs) :
 IOp P O N o S ((S.setE id' (.blk e (D.flat (zs.map f.d)))).set t (.osl id' f.sz zs.length)):=by
 obtain ⟨⟨h1,h2⟩,rfl⟩:=aFf ha
 have:=aCd id' ho hd ht hu hi hz f.pos hfr hx (by rw [f.flat_len,List.length_map]) hy (f.flat_len ys) hne (by rw [List.length_map]; exact h1) (by rw [List.length_map]; exact h2)
 rwa [List.length_map,f.flat_append,←List.length_append] at this
theorem aEN {ops:Array Oper} {o:Oper} {l:List Oper} {j tj t:Nat} {want g:Bool} (hg:o.guard=some (j,want)) (hj:(ops[j]?).bind (·.dst)=some tj)
 (hb:Grd S tj want g) (hd:(o.dst,sF o.op)=(some t,true)) (ht:t<N) (h1:g=true→ILS P O N ops ({ o with guard:=none }::l) S Q) (h2:g=false→ILS P O N ops l (S.set t (.cnd g (.bool false))) Q):ILS P O N ops (o::l) S Q:=by
 obtain ⟨hd,hnd⟩:=Prod.mk.inj hd
 intro E β a hr
 have hwant:=hb.yields hr hj hg
 unfold wpListIn
 rw [hwant]
 cases g with
 | true =>
   simp only [if_true]
   have h3:=h1 rfl E β a hr
   have h4:Oper.wpIn (fen O.round) 0 P { o with guard:=none } a E.w (wpListIn (fen O.round) 0 P ops (fun e a' w'=>∃ S' E' β',E'.w=w'∧Rel O N S' E' β' a'∧Q e S') l) (fun e a' w'=>∃ S' E' β',E'.w=w'∧Rel O N S' E' β' a'∧Q e S'):=by
    unfold wpListIn at h3
    simp only [Region.wanted,if_true] at h3
    exact h3
   have h5:Oper.wpIn (fen O.round) 0 P o a E.w (wpListIn (fen O.round) 0 P ops (fun e a' w'=>∃ S' E' β',E'.w=w'∧Rel O N S' E' β' a'∧Q e S') l) (fun e a' w'=>∃ S' E' β',E'.w=w'∧Rel O N S' E' β' a'∧Q e S'):=h4
   exact h5
 | false =>
   simp only [Bool.false_eq_true,if_false,hd]
   exact ⟨fun _ _=>trivial,(h2 rfl E β _ (hr.set ht (.cnd _ _ _ _ (fun h=>by cases h) fun _=>rfl)))⟩
theorem Rel.uncnd {E:Env} {β:cH} {a:Act} (h:Rel O N S E β a) {t:Nat} {g:Bool} {d:D} (hS:S.get t = .cnd g d) (hg:g=true):Rel O N (S.set t d) E β a:=by
 refine ⟨h.n,h.nd,h.h,fun s=>?_⟩
 by_cases hs:t=s
 · subst hs
   have:=h.sl t
   rw [hS] at this
   have e:(S.set t d).get t=d:=by simp [St.get,St.set,bB]
   rw [e]
   generalize a.tmps.getD t undef=v at this ⊢
   cases this with
   | cnd _ _ _ _ k _=>exact k hg
 · have e:(S.set t d).get s=S.get s:=by simp [St.get,St.set,bB,hs]
   rw [e]; exact h.sl s
theorem aCg {ops:Array Oper} {l:List Oper} (t:Nat) {g:Bool} {d:D} (hS:S.get t = .cnd g d) (hg:g=true) (k:ILS P O N ops l (S.set t d) Q):ILS P O N ops l S Q :=
 fun E β a hr=>k E β a (hr.uncnd hS hg)
end
end Go.IL
namespace Go.IL
theorem M.{u} {α : Sort u} {a : α} : a = a := rfl
def dd_ : Nat → List D → List D
  | 0, l => l
  | n + 1, l => .dead :: dd_ n l
theorem sj_ {α : Type} {a b : α} (h : some a = some b) : a = b := Option.some.inj h
section
variable {P:Program} {O:cT} {N:Nat} {S S':St} {o:Oper} {t:Nat} {Q:Exit→St→Prop}
theorem lb {a b:Nat} (h:Nat.ble (a+1) b=true):a<b:=Nat.le_of_ble_eq_true h
theorem svI {x:Operand} {k:IntKind} {n:Int} (h:S.op x = .int k n):SV S x (.int k n):=sv h
theorem svB {x:Operand} {n:Bool} (h:S.op x = .bool n):SV S x (.bool n):=sv h
theorem svR {x:Operand} {i j:Nat} (h:S.op x = .ref i j):SV S x (.ref i j):=sv h
theorem svL {x:Operand} {f:Bool} {l:List D} (h:S.op x = .slice f l):SV S x (.slice f l):=sv h
theorem svA {x:Operand} (l:List D) (h:S.op x = .agg l):SV S x (.agg l):=sv h
theorem svcI {x:Operand} {b:Bool} {k:IntKind} {n:Int} (h:S.op x = .cnd b (.int k n)) (hb:b=true):SV S x (.int k n):=svc h hb
theorem svcB {x:Operand} {b n:Bool} (h:S.op x = .cnd b (.bool n)) (hb:b=true):SV S x (.bool n):=svc h hb
theorem svcR {x:Operand} {b:Bool} {i j:Nat} (h:S.op x = .cnd b (.ref i j)) (hb:b=true):SV S x (.ref i j):=svc h hb
theorem svcL {x:Operand} {b:Bool} {f:Bool} {l:List D} (h:S.op x = .cnd b (.slice f l)) (hb:b=true):SV S x (.slice f l):=svc h hb
theorem svcA {x:Operand} {b:Bool} (l:List D) (h:S.op x = .cnd b (.agg l)) (hb:b=true):SV S x (.agg l):=svc h hb
theorem mvI {x:Operand} {k:IntKind} {n:Int} (ho:o.op = .move x) (hd:o.dst=some t) (ht:Nat.ble (t+1) N=true) (hx:S.op x = .int k n):IOp P O N o S (S.set t (.int k n)):=bI ho hd (lb ht) (sv hx)
theorem mvB {x:Operand} {n:Bool} (ho:o.op = .move x) (hd:o.dst=some t) (ht:Nat.ble (t+1) N=true) (hx:S.op x = .bool n):IOp P O N o S (S.set t (.bool n)):=bI ho hd (lb ht) (sv hx)
theorem mvR {x:Operand} {i j:Nat} (ho:o.op = .move x) (hd:o.dst=some t) (ht:Nat.ble (t+1) N=true) (hx:S.op x = .ref i j):IOp P O N o S (S.set t (.ref i j)):=bI ho hd (lb ht) (sv hx)
theorem mvL {x:Operand} {f:Bool} {l:List D} (ho:o.op = .move x) (hd:o.dst=some t) (ht:Nat.ble (t+1) N=true) (hx:S.op x = .slice f l):IOp P O N o S (S.set t (.slice f l)):=bI ho hd (lb ht) (sv hx)
theorem asI {x:Operand} {k:IntKind} {n:Int} (ho:o.op = .assign x) (hd:o.dst=some t) (ht:Nat.ble (t+1) N=true) (hx:S.op x = .int k n):IOp P O N o S (S.set t (.int k n)):=bV ho hd (lb ht) (sv hx)
theorem asB {x:Operand} {n:Bool} (ho:o.op = .assign x) (hd:o.dst=some t) (ht:Nat.ble (t+1) N=true) (hx:S.op x = .bool n):IOp P O N o S (S.set t (.bool n)):=bV ho hd (lb ht) (sv hx)
def LA (P:Program) (T:TypeId) (u:TypeDesc) (z:Option Value) (size bytes:Nat) (g:Bool):Prop:=P.underlying T=some u∧gH P T=g∧TI P T z size bytes∧0<size
theorem LA.mk {T:TypeId} {u:TypeDesc} {z:Option Value} {size bytes:Nat} {g:Bool} (h1:P.underlying T=some u) (h2:gH P T=g) (h3:TI P T z size bytes) (h4:0<size):LA P T u z size bytes g:=⟨h1,h2,h3,h4⟩
theorem lra {T:TypeId} {x:Operand} {u:TypeDesc} {z:Option Value} {size bytes:Nat} {id off:Nat} {e:TypeId} {ds:List D} (cs:List D) (l:LA P T u z size bytes true) (ho:o.op = .load T x) (hd:o.dst=some t) (ht:Nat.ble (t+1) N=true)
 (hx:S.op x = .ref id off) (he:S.ent id = .blk e ds) (hn:off+size≤ds.length) (hdd:(ds.drop off).take size=cs):IOp P O N o S (S.set t (.agg cs)):=bS ho hd (lb ht) l.1 l.2.1 l.2.2.1 l.2.2.2 (sv hx) he hn hdd
theorem lrL {T:TypeId} {x:Operand} {u:TypeDesc} {z:Option Value} {size bytes:Nat} {id off:Nat} {e:TypeId} {ds r:List D} {f:Bool} {m:List D} (l:LA P T u z size bytes false) (ho:o.op = .load T x) (hd:o.dst=some t) (ht:Nat.ble (t+1) N=true)
 (hx:S.op x = .ref id off) (he:S.ent id = .blk e ds) (hn:off+size≤ds.length) (hdd:ds.drop off = .slice f m::r):IOp P O N o S (S.set t (.slice f m)):=cD ho hd (lb ht) l.1 l.2.1 l.2.2.1 l.2.2.2 (sv hx) he hn hdd
theorem rva {x:Nat} {T:TypeId} {id off:Nat} {e:TypeId} {ds cs:List D} {u:TypeDesc} {z:Option Value} {size bytes:Nat} (l:LA P T u z size bytes true) (hx:S.get x = .ref id off) (he:S.ent id = .blk e ds)
 (hn:off+size≤ds.length) (hd:(ds.drop off).take size=cs):ResV P S (.cell x T) (.agg cs):=resv_a hx he l.1 l.2.1 l.2.2.1 l.2.2.2 hn hd
theorem stA {T:TypeId} {x y:Operand} {z:Option Value} {size bytes:Nat} {id off:Nat} {e:TypeId} {ds:List D} (c ds':List D) (hi:TI P T z size bytes) (ho:o.op = .store T x y) (hd:o.dst=none)
 (hx:S.op x = .ref id off) (he:S.ent id = .blk e ds) (hy:S.op y = .agg c) (hb:(D.agg c).boxable=true) (hsz:(D.agg c).cells.length=size) (h1:(D.agg c).cells.all D.one=true)
 (hn:off+size≤ds.length) (hds:fS ds off (D.agg c).cells=ds'):IOp P O N o S (S.setE id (.blk e ds')):=bK ho hd hi (sv hx) he (sv hy) hb hsz h1 hn hds
theorem faR {T:TypeId} {x:Operand} {i:Nat} {fs:Array Field} {F:Field} {z:Option Value} {size bytes:Nat} {id off:Nat} (off':Nat) (ho:o.op = .fieldAddr T x i) (hd:o.dst=some t) (ht:Nat.ble (t+1) N=true)
 (hu:P.underlying T=some (.struct fs)) (hf:fs[i]? = some F) (hi:TI P F.type z size bytes) (hs:0<size) (hx:S.op x = .ref id off) (ho':off+F.offset=off'):IOp P O N o S (S.set t (.ref id off')) :=
 aV ho hd (lb ht) hu hf hi hs (sv hx) ho'
theorem svaI {n:Node} {S0:St} {s:Nat} {k:IntKind} {m:Int} (hA:uE n S S0) (hm:n.rs.elem s=true) (h:S0.get s = .int k m):SV S (.tmp s) (.int k m):=sv (agr hA hm h)
theorem svaB {n:Node} {S0:St} {s:Nat} {m:Bool} (hA:uE n S S0) (hm:n.rs.elem s=true) (h:S0.get s = .bool m):SV S (.tmp s) (.bool m):=sv (agr hA hm h)
theorem svaR {n:Node} {S0:St} {s i j:Nat} (hA:uE n S S0) (hm:n.rs.elem s=true) (h:S0.get s = .ref i j):SV S (.tmp s) (.ref i j):=sv (agr hA hm h)
theorem svaL {n:Node} {S0:St} {s:Nat} {f:Bool} {l:List D} (hA:uE n S S0) (hm:n.rs.elem s=true) (h:S0.get s = .slice f l):SV S (.tmp s) (.slice f l):=sv (agr hA hm h)
theorem svaA {n:Node} {S0:St} {s:Nat} (l:List D) (hA:uE n S S0) (hm:n.rs.elem s=true) (h:S0.get s = .agg l):SV S (.tmp s) (.agg l):=sv (agr hA hm h)
theorem AllW.s {ρ:Nat→Nat} {t:Nat} {d:D} {l:List (Nat×D)} (h:S.get t=d.ren ρ) (hr:d.refsIn S'.okn=true) (k:AllW (SlW S S' ρ) l):AllW (SlW S S' ρ) ((t,d)::l):=.cons (.same h hr) k
theorem AllW.sames {ρ:Nat→Nat}:∀ {l:List (Nat×D)},l.map (fun p=>S.get p.1)=l.map (fun p=>p.2.ren ρ)→(l.all fun p=>p.2.refsIn S'.okn)=true→AllW (SlW S S' ρ) l
 | [],_,_=>.nil
 | (t,d)::l,h,hr=>by
   simp only [List.map_cons,List.cons.injEq] at h
   simp only [List.all_cons,Bool.and_eq_true] at hr
   exact .cons (.same h.1 hr.1) (AllW.sames h.2 hr.2)
end
theorem SubL.k {d:D} {ds ds':List D} (t:SubL ds ds'):SubL (d::ds) (d::ds'):=.cons (.refl d) t
theorem SubL.k4 {a b c d:D} {ds ds':List D} (t:SubL ds ds'):SubL (a::b::c::d::ds) (a::b::c::d::ds'):=.k (.k (.k (.k t)))
theorem FDL.k {S:St} {d:D} {ds ds':List D} (t:FDL S ds ds'):FDL S (d::ds) (d::ds'):=.cons (.refl d) t
theorem FDL.k4 {S:St} {a b c d:D} {ds ds':List D} (t:FDL S ds ds'):FDL S (a::b::c::d::ds) (a::b::c::d::ds'):=.k (.k (.k (.k t)))
theorem SubL.all:∀ (l:List D),SubL l l
 | []=>.nil
 | d::l=>.cons (.refl d) (SubL.all l)
theorem FDL.all {S:St} (l:List D):FDL S l l:=vK l
end Go.IL
namespace Go.IL
section
variable {P:Program} {O:cT} {N:Nat} {S S':St} {o:Oper} {t:Nat} {Q:Exit→St→Prop}
theorem gG {ops:Array Oper} {l:List Oper} {j tj:Nat} {want b:Bool} {d:D} (h:(o.guard,(ops[j]?).bind (·.dst),S.get tj,o.dst,sF o.op,Nat.ble (t+1) N)=(some (j,want),some tj,.bool b,some t,true,true))
 (x:(b == want)=true→IOp P O N o S (S.set t d)) (k:ILS P O N ops l (S.set t (.cnd (b == want) d)) Q):ILS P O N ops (o::l) S Q:=by
 simp only [Prod.mk.injEq] at h
 obtain ⟨h1,h2,h3,h4,h5,h6⟩:=h
 exact cG h1 h2 (.one h3) (by rw [h4,h5]) (lb h6) x k
theorem tFa {T:TypeId} {x:Operand} {i:Nat} {fs:Array Field} {F:Field} {z:Option Value} {size bytes:Nat} {id off:Nat} (off':Nat) (hu:P.underlying T=some (.struct fs)) (h:(o.op,o.dst,Nat.ble (t+1) N,fs[i]?)=(.fieldAddr T x i,some t,true,some F)) (hi:TI P F.type z size bytes)
 (h2:(Nat.ble (0+1) size,S.op x,off+F.offset)=(true,.ref id off,off')):IOp P O N o S (S.set t (.ref id off')):=by
 simp only [Prod.mk.injEq] at h h2
 exact faR off' h.1 h.2.1 h.2.2.1 hu h.2.2.2 hi (lb h2.1) h2.2.1 h2.2.2
theorem tLd {T:TypeId} {x:Operand} {u:TypeDesc} {z:Option Value} {size bytes:Nat} {id off:Nat} {e:TypeId} {ds r:List D} {d:D} (hu:P.underlying T=some u) (hg:gH P T=false) (hi:TI P T z size bytes)
 (h:(o.op,o.dst,Nat.ble (t+1) N,Nat.ble (0+1) size,S.op x,S.ent id,Nat.ble (off+size) ds.length,ds.drop off)=(.load T x,some t,true,true,.ref id off,.blk e ds,true,d::r)):IOp P O N o S (S.set t d):=by
 simp only [Prod.mk.injEq] at h
 exact cD h.1 h.2.1 (lb h.2.2.1) hu hg hi (lb h.2.2.2.1) (svR h.2.2.2.2.1) h.2.2.2.2.2.1 (nle h.2.2.2.2.2.2.1) h.2.2.2.2.2.2.2
theorem tLc {T:TypeId} {x:Operand} {u:TypeDesc} {z:Option Value} {size bytes:Nat} {id off:Nat} {e:TypeId} {ds r:List D} {d:D} {b:Bool} (hu:P.underlying T=some u) (hg:gH P T=false) (hi:TI P T z size bytes)
 (h:(o.op,o.dst,Nat.ble (t+1) N,Nat.ble (0+1) size,S.op x,S.ent id,Nat.ble (off+size) ds.length,ds.drop off)=(.load T x,some t,true,true,.cnd b (.ref id off),.blk e ds,true,d::r)) (hb:b=true):IOp P O N o S (S.set t d):=by
 simp only [Prod.mk.injEq] at h
 exact cD h.1 h.2.1 (lb h.2.2.1) hu hg hi (lb h.2.2.2.1) (svcR h.2.2.2.2.1 hb) h.2.2.2.2.2.1 (nle h.2.2.2.2.2.2.1) h.2.2.2.2.2.2.2
theorem tSt {T:TypeId} {x y:Operand} {z:Option Value} {size bytes:Nat} {id off:Nat} {e:TypeId} {ds:List D} (c ds':List D) (hi:TI P T z size bytes)
 (h:(o.op,o.dst,S.op x,S.ent id,S.op y,(D.agg c).boxable,(D.agg c).cells.length,(D.agg c).cells.all D.one,Nat.ble (off+size) ds.length,fS ds off (D.agg c).cells)=(.store T x y,none,.ref id off,.blk e ds,.agg c,true,size,true,true,ds')):IOp P O N o S (S.setE id (.blk e ds')):=by
 simp only [Prod.mk.injEq] at h
 exact stA c ds' hi h.1 h.2.1 h.2.2.1 h.2.2.2.1 h.2.2.2.2.1 h.2.2.2.2.2.1 h.2.2.2.2.2.2.1 h.2.2.2.2.2.2.2.1 (nle h.2.2.2.2.2.2.2.2.1) h.2.2.2.2.2.2.2.2.2
theorem tLr {T:TypeId} {x:Operand} {u:TypeDesc} {z:Option Value} {size bytes:Nat} {id off:Nat} {e:TypeId} {ds:List D} (cs:List D) (l:LA P T u z size bytes true)
 (h:(o.op,o.dst,Nat.ble (t+1) N,S.op x,S.ent id,Nat.ble (off+size) ds.length,(ds.drop off).take size)=(.load T x,some t,true,.ref id off,.blk e ds,true,cs)):IOp P O N o S (S.set t (.agg cs)):=by
 simp only [Prod.mk.injEq] at h
 exact lra cs l h.1 h.2.1 h.2.2.1 h.2.2.2.1 h.2.2.2.2.1 (nle h.2.2.2.2.2.1) h.2.2.2.2.2.2
theorem tAs {x:Operand} (d:D) (h:(o.op,o.dst,Nat.ble (t+1) N,S.op x)=(.assign x,some t,true,d)):IOp P O N o S (S.set t d):=by
 simp only [Prod.mk.injEq] at h
 exact bV h.1 h.2.1 (lb h.2.2.1) (sv h.2.2.2)
theorem tBx {e:TypeId} {x:Operand} {cs:List D} (c:List D) (id:Nat) (h:(o.op,o.dst,Nat.ble (t+1) N,S.ent id,S.op x,(D.agg c).boxable,(D.agg c).cells)=(.box e x,some t,true,.fresh,.agg c,true,cs)):IOp P O N o S ((S.setE id (.blk e cs)).set t (.ref id 0)):=by
 simp only [Prod.mk.injEq] at h
 exact sA id h.1 h.2.1 (lb h.2.2.1) h.2.2.2.1 (svA c h.2.2.2.2.1) h.2.2.2.2.2.1 h.2.2.2.2.2.2
theorem tI {x:Operand} {k:IntKind} {n:Int} (h:(o.op,o.dst,Nat.ble (t+1) N,S.op x)=(.move x,some t,true,.int k n)):IOp P O N o S (S.set t (.int k n)):=by
 simp only [Prod.mk.injEq] at h
 exact mvI h.1 h.2.1 h.2.2.1 h.2.2.2
theorem tB {x:Operand} {n:Bool} (h:(o.op,o.dst,Nat.ble (t+1) N,S.op x)=(.move x,some t,true,.bool n)):IOp P O N o S (S.set t (.bool n)):=by
 simp only [Prod.mk.injEq] at h
 exact mvB h.1 h.2.1 h.2.2.1 h.2.2.2
theorem tAI {x:Operand} {k:IntKind} {n:Int} (h:(o.op,o.dst,Nat.ble (t+1) N,S.op x)=(.assign x,some t,true,.int k n)):IOp P O N o S (S.set t (.int k n)):=by
 simp only [Prod.mk.injEq] at h
 exact asI h.1 h.2.1 h.2.2.1 h.2.2.2
theorem tAB {x:Operand} {n:Bool} (h:(o.op,o.dst,Nat.ble (t+1) N,S.op x)=(.assign x,some t,true,.bool n)):IOp P O N o S (S.set t (.bool n)):=by
 simp only [Prod.mk.injEq] at h
 exact asB h.1 h.2.1 h.2.2.1 h.2.2.2
theorem tMv {x:Operand} (d:D) (h:(o.op,o.dst,Nat.ble (t+1) N,S.op x)=(.move x,some t,true,d)):IOp P O N o S (S.set t d):=by
 simp only [Prod.mk.injEq] at h
 exact bI h.1 h.2.1 (lb h.2.2.1) (sv h.2.2.2)
theorem tEx {x:Operand} {i:Nat} {cs:List D} {d:D} (h:(o.op,o.dst,Nat.ble (t+1) N,S.op x,cs[i]?)=(.extract x i,some t,true,.tuple cs,some d)):IOp P O N o S (S.set t d):=by
 simp only [Prod.mk.injEq] at h
 exact fE h.1 h.2.1 (lb h.2.2.1) (sv h.2.2.2.1) h.2.2.2.2
theorem tCm {op:BinOp} {xt yt:TypeId} {x y:Operand} {k:IntKind} {a b:Int} {c c':Bool} (h:(o.op,o.dst,Nat.ble (t+1) N,S.op x,S.op y,int2 op k a b)=(.binOp op xt x y yt,some t,true,.int k a,.int k b,some (.bool c))) (hc:c=c'):IOp P O N o S (S.set t (.bool c')):=by
 simp only [Prod.mk.injEq] at h
 exact cU h.1 h.2.1 (lb h.2.2.1) (svI h.2.2.2.1) (svI h.2.2.2.2.1) h.2.2.2.2.2 hc
theorem tCg {op:BinOp} {xt yt:TypeId} {x y:Operand} {k:IntKind} {a b:Int} {c c' g:Bool} (h:(o.op,o.dst,Nat.ble (t+1) N,S.op x,S.op y,int2 op k a b)=(.binOp op xt x y yt,some t,true,.cnd g (.int k a),.int k b,some (.bool c))) (hb:g=true) (hc:c=c'):IOp P O N o S (S.set t (.bool c')):=by
 simp only [Prod.mk.injEq] at h
 exact cU h.1 h.2.1 (lb h.2.2.1) (svcI h.2.2.2.1 hb) (svI h.2.2.2.2.1) h.2.2.2.2.2 hc
theorem tCh {op:BinOp} {xt yt:TypeId} {x y:Operand} {k:IntKind} {a b:Int} {c c' g:Bool} (h:(o.op,o.dst,Nat.ble (t+1) N,S.op x,S.op y,int2 op k a b)=(.binOp op xt x y yt,some t,true,.cnd g (.int k a),.cnd g (.int k b),some (.bool c))) (hb:g=true) (hc:c=c'):IOp P O N o S (S.set t (.bool c')):=by
 simp only [Prod.mk.injEq] at h
 exact cU h.1 h.2.1 (lb h.2.2.1) (svcI h.2.2.2.1 hb) (svcI h.2.2.2.2.1 hb) h.2.2.2.2.2 hc
theorem tOr {c x y:Operand} {b z r:Bool} (h:(o.op,o.dst,Nat.ble (t+1) N,S.op c,S.op x,S.op y)=(.pick c x y,some t,true,.bool b,.bool true,.cnd (b == false) (.bool z))) (hr:(b||z)=r):IOp P O N o S (S.set t (.bool r)):=by
 simp only [Prod.mk.injEq] at h
 exact mB h.1 h.2.1 (lb h.2.2.1) (svB h.2.2.2.1) h.2.2.2.2.1 h.2.2.2.2.2 hr
theorem tAn {c x y:Operand} {b z r:Bool} (h:(o.op,o.dst,Nat.ble (t+1) N,S.op c,S.op x,S.op y)=(.pick c x y,some t,true,.bool b,.cnd (b == true) (.bool z),.bool false)) (hr:(b&&z)=r):IOp P O N o S (S.set t (.bool r)):=by
 simp only [Prod.mk.injEq] at h
 exact kK h.1 h.2.1 (lb h.2.2.1) (svB h.2.2.2.1) h.2.2.2.2.1 h.2.2.2.2.2 hr
theorem dMv {ops:Array Oper} {i:Nat} {S0:St} {rs ri:List Nat} {s:Nat} {d:D} (h:(ops[i]?,pG o,o.op,o.dst,Nat.ble (t+1) N,rs.elem s,S0.get s)=(some o,true,.move (.tmp s),some t,true,true,d)):LOp P O N ops i S0 ⟨rs,ri,[(t,d)],[]⟩:=by
 simp only [Prod.mk.injEq] at h
 exact lop h.1 h.2.1 fun S hA=>bI h.2.2.1 h.2.2.2.1 (lb h.2.2.2.2.1) (sv (agr hA h.2.2.2.2.2.1 h.2.2.2.2.2.2))
theorem dFa {ops:Array Oper} {i:Nat} {S0:St} {rs ri:List Nat} {T:TypeId} {s:Nat} {k:Nat} {fs:Array Field} {F:Field} {z:Option Value} {size bytes:Nat} {id off:Nat} (off':Nat) (hu:P.underlying T=some (.struct fs)) (h:(ops[i]?,pG o,o.op,o.dst,Nat.ble (t+1) N,fs[k]?)=(some o,true,.fieldAddr T (.tmp s) k,some t,true,some F)) (hi:TI P F.type z size bytes)
 (h2:(Nat.ble (0+1) size,rs.elem s,S0.get s,off+F.offset)=(true,true,.ref id off,off')):LOp P O N ops i S0 ⟨rs,ri,[(t,.ref id off')],[]⟩:=by
 simp only [Prod.mk.injEq] at h h2
 exact lop h.1 h.2.1 fun S hA=>aV h.2.2.1 h.2.2.2.1 (lb h.2.2.2.2.1) hu h.2.2.2.2.2 hi (lb h2.1) (sv (agr hA h2.2.1 h2.2.2.1)) h2.2.2.2
theorem dLd {ops:Array Oper} {i:Nat} {S0:St} {rs ri:List Nat} {T:TypeId} {s:Nat} {u:TypeDesc} {z:Option Value} {size bytes:Nat} {id off:Nat} {e:TypeId} {ds r:List D} {d:D} (hu:P.underlying T=some u) (hg:gH P T=false) (hi:TI P T z size bytes)
 (h:(ops[i]?,pG o,o.op,o.dst,Nat.ble (t+1) N,Nat.ble (0+1) size,rs.elem s,S0.get s,ri.elem id,S0.ent id,Nat.ble (off+size) ds.length,ds.drop off)=(some o,true,.load T (.tmp s),some t,true,true,true,.ref id off,true,.blk e ds,true,d::r)):LOp P O N ops i S0 ⟨rs,ri,[(t,d)],[]⟩:=by
 simp only [Prod.mk.injEq] at h
 obtain ⟨h1,h2,h3,h4,h5,h6,h7,h8,h9,h10,h11,h12⟩:=h
 exact lop h1 h2 fun S hA=>cD h3 h4 (lb h5) hu hg hi (lb h6) (sv (agr hA h7 h8)) (agi hA h9 h10) (nle h11) h12
theorem dLa {ops:Array Oper} {i:Nat} {S0:St} {rs ri:List Nat} {T:TypeId} {s:Nat} {u:TypeDesc} {z:Option Value} {size bytes:Nat} {id off:Nat} {e:TypeId} {ds cs:List D} (hu:P.underlying T=some u) (hg:gH P T=true) (hi:TI P T z size bytes)
 (h:(ops[i]?,pG o,o.op,o.dst,Nat.ble (t+1) N,Nat.ble (0+1) size,rs.elem s,S0.get s,ri.elem id,S0.ent id,Nat.ble (off+size) ds.length,(ds.drop off).take size)=(some o,true,.load T (.tmp s),some t,true,true,true,.ref id off,true,.blk e ds,true,cs)):LOp P O N ops i S0 ⟨rs,ri,[(t,.agg cs)],[]⟩:=by
 simp only [Prod.mk.injEq] at h
 obtain ⟨h1,h2,h3,h4,h5,h6,h7,h8,h9,h10,h11,h12⟩:=h
 exact lop h1 h2 fun S hA=>bS h3 h4 (lb h5) hu hg hi (lb h6) (sv (agr hA h7 h8)) (agi hA h9 h10) (nle h11) h12
theorem dSt {ops:Array Oper} {i:Nat} {S0:St} {rs ri:List Nat} {T:TypeId} {s v:Nat} {z:Option Value} {size bytes:Nat} {id off:Nat} {e:TypeId} {ds ds':List D} (c:List D) (hi:TI P T z size bytes)
 (h:(ops[i]?,pG o,o.op,o.dst,rs.elem s,S0.get s,ri.elem id,S0.ent id,rs.elem v,S0.get v,(D.agg c).boxable,(D.agg c).cells.length,(D.agg c).cells.all D.one,Nat.ble (off+size) ds.length,fS ds off (D.agg c).cells)=(some o,true,.store T (.tmp s) (.tmp v),none,true,.ref id off,true,.blk e ds,true,.agg c,true,size,true,true,ds')):LOp P O N ops i S0 ⟨rs,ri,[],[(id,.blk e ds')]⟩:=by
 simp only [Prod.mk.injEq] at h
 obtain ⟨h1,h2,h3,h4,h5,h6,h7,h8,h9,h10,h11,h12,h13,h14,h15⟩:=h
 exact lop h1 h2 fun S hA=>bK h3 h4 hi (sv (agr hA h5 h6)) (agi hA h7 h8) (sv (agr hA h9 h10)) h11 h12 h13 (nle h14) h15
theorem gD {ops:Array Oper} {i:Nat} {S0:St} {rs ri:List Nat} {d:D} {j tj:Nat} {want b:Bool} (h:(ops[i]?,o.guard,(ops[j]?).bind (·.dst),o.dst,sF o.op,Nat.ble (t+1) N,rs.elem tj,S0.get tj)=(some o,some (j,want),some tj,some t,true,true,true,.bool b))
 (x:∀ S,uE ⟨rs,ri,[(t,.cnd (b == want) d)],[]⟩ S S0→(b == want)=true→IOp P O N o S (S.set t d)):LOp P O N ops i S0 ⟨rs,ri,[(t,.cnd (b == want) d)],[]⟩:=by
 simp only [Prod.mk.injEq] at h
 obtain ⟨h1,h2,h3,h4,h5,h6,h7,h8⟩:=h
 exact lopg h1 h2 h3 (by rw [h4,h5]) (lb h6) (fun S hA=>grd1 hA h7 h8) x
theorem aK {α:Type} {c:Operand} {x y:Code} {b:Bool} {A B r:α} (h:(bif b then A else B)=r) (hc:S.op c = .bool b) (h1:A=r→IWP P O N x S Q) (h2:B=r→IWP P O N y S Q):IWP P O N (.cond c x y) S Q :=
 pZ hc (fun k=>h1 (bif_t h k)) (fun k=>h2 (bif_f h k))
theorem eoo {α β ρ:Type} {e:Option α} {f:α→Option β} {q:α→β→Option ρ} {r:ρ} (h:bno (e) (fun x=>bno (f x) (q x))=some r):∃ x,e=some x∧∃ y,f x=some y∧q x y=some r:=by
 obtain ⟨x,h0,h⟩:=bR h
 obtain ⟨y,h1,h⟩:=bR h
 exact ⟨x,h0,y,h1,h⟩
theorem eod {α β ρ:Type} {e:Option α} {f:α→β} {q:α→β→Option ρ} {r:ρ} (h:bno (e) (fun x=>bnd (f x) (q x))=some r):∃ x,e=some x∧∃ y,f x=y∧q x y=some r:=by
 obtain ⟨x,h0,h⟩:=bR h
 obtain ⟨y,h1,h⟩:=bF h
 exact ⟨x,h0,y,h1,h⟩
theorem edo {α β ρ:Type} {e:α} {f:α→Option β} {q:α→β→Option ρ} {r:ρ} (h:bnd (e) (fun x=>bno (f x) (q x))=some r):∃ x,e=x∧∃ y,f x=some y∧q x y=some r:=by
 obtain ⟨x,h0,h⟩:=bF h
 obtain ⟨y,h1,h⟩:=bR h
 exact ⟨x,h0,y,h1,h⟩
theorem edd {α β ρ:Type} {e:α} {f:α→β} {q:α→β→Option ρ} {r:ρ} (h:bnd (e) (fun x=>bnd (f x) (q x))=some r):∃ x,e=x∧∃ y,f x=y∧q x y=some r:=by
 obtain ⟨x,h0,h⟩:=bF h
 obtain ⟨y,h1,h⟩:=bF h
 exact ⟨x,h0,y,h1,h⟩
theorem eooo {α β γ ρ:Type} {e:Option α} {f:α→Option β} {g:α→β→Option γ} {q:α→β→γ→Option ρ} {r:ρ} (h:bno (e) (fun x=>bno (f x) (fun y=>bno (g x y) (q x y)))=some r):∃ x,e=some x∧∃ y,f x=some y∧∃ z,g x y=some z∧q x y z=some r:=by
 obtain ⟨x,h0,h⟩:=bR h
 obtain ⟨y,h1,h⟩:=bR h
 obtain ⟨z,h2,h⟩:=bR h
 exact ⟨x,h0,y,h1,z,h2,h⟩
theorem eood {α β γ ρ:Type} {e:Option α} {f:α→Option β} {g:α→β→γ} {q:α→β→γ→Option ρ} {r:ρ} (h:bno (e) (fun x=>bno (f x) (fun y=>bnd (g x y) (q x y)))=some r):∃ x,e=some x∧∃ y,f x=some y∧∃ z,g x y=z∧q x y z=some r:=by
 obtain ⟨x,h0,h⟩:=bR h
 obtain ⟨y,h1,h⟩:=bR h
 obtain ⟨z,h2,h⟩:=bF h
 exact ⟨x,h0,y,h1,z,h2,h⟩
theorem eodo {α β γ ρ:Type} {e:Option α} {f:α→β} {g:α→β→Option γ} {q:α→β→γ→Option ρ} {r:ρ} (h:bno (e) (fun x=>bnd (f x) (fun y=>bno (g x y) (q x y)))=some r):∃ x,e=some x∧∃ y,f x=y∧∃ z,g x y=some z∧q x y z=some r:=by
 obtain ⟨x,h0,h⟩:=bR h
 obtain ⟨y,h1,h⟩:=bF h
 obtain ⟨z,h2,h⟩:=bR h
 exact ⟨x,h0,y,h1,z,h2,h⟩
theorem eodd {α β γ ρ:Type} {e:Option α} {f:α→β} {g:α→β→γ} {q:α→β→γ→Option ρ} {r:ρ} (h:bno (e) (fun x=>bnd (f x) (fun y=>bnd (g x y) (q x y)))=some r):∃ x,e=some x∧∃ y,f x=y∧∃ z,g x y=z∧q x y z=some r:=by
 obtain ⟨x,h0,h⟩:=bR h
 obtain ⟨y,h1,h⟩:=bF h
 obtain ⟨z,h2,h⟩:=bF h
 exact ⟨x,h0,y,h1,z,h2,h⟩
theorem edoo {α β γ ρ:Type} {e:α} {f:α→Option β} {g:α→β→Option γ} {q:α→β→γ→Option ρ} {r:ρ} (h:bnd (e) (fun x=>bno (f x) (fun y=>bno (g x y) (q x y)))=some r):∃ x,e=x∧∃ y,f x=some y∧∃ z,g x y=some z∧q x y z=some r:=by
 obtain ⟨x,h0,h⟩:=bF h
 obtain ⟨y,h1,h⟩:=bR h
 obtain ⟨z,h2,h⟩:=bR h
 exact ⟨x,h0,y,h1,z,h2,h⟩
theorem edod {α β γ ρ:Type} {e:α} {f:α→Option β} {g:α→β→γ} {q:α→β→γ→Option ρ} {r:ρ} (h:bnd (e) (fun x=>bno (f x) (fun y=>bnd (g x y) (q x y)))=some r):∃ x,e=x∧∃ y,f x=some y∧∃ z,g x y=z∧q x y z=some r:=by
 obtain ⟨x,h0,h⟩:=bF h
 obtain ⟨y,h1,h⟩:=bR h
 obtain ⟨z,h2,h⟩:=bF h
 exact ⟨x,h0,y,h1,z,h2,h⟩
theorem eddo {α β γ ρ:Type} {e:α} {f:α→β} {g:α→β→Option γ} {q:α→β→γ→Option ρ} {r:ρ} (h:bnd (e) (fun x=>bnd (f x) (fun y=>bno (g x y) (q x y)))=some r):∃ x,e=x∧∃ y,f x=y∧∃ z,g x y=some z∧q x y z=some r:=by
 obtain ⟨x,h0,h⟩:=bF h
 obtain ⟨y,h1,h⟩:=bF h
 obtain ⟨z,h2,h⟩:=bR h
 exact ⟨x,h0,y,h1,z,h2,h⟩
theorem eddd {α β γ ρ:Type} {e:α} {f:α→β} {g:α→β→γ} {q:α→β→γ→Option ρ} {r:ρ} (h:bnd (e) (fun x=>bnd (f x) (fun y=>bnd (g x y) (q x y)))=some r):∃ x,e=x∧∃ y,f x=y∧∃ z,g x y=z∧q x y z=some r:=by
 obtain ⟨x,h0,h⟩:=bF h
 obtain ⟨y,h1,h⟩:=bF h
 obtain ⟨z,h2,h⟩:=bF h
 exact ⟨x,h0,y,h1,z,h2,h⟩
abbrev nd1 (rs:List Nat) (t:Nat) (d:D):Node:=⟨rs,[],[(t,d)],[]⟩
abbrev nd2 (rs ri:List Nat) (t:Nat) (d:D):Node:=⟨rs,ri,[(t,d)],[]⟩
theorem cFa {ops:Array Oper} {ll:List Oper} {T:TypeId} {x:Operand} {i:Nat} {fs:Array Field} {F:Field} {z:Option Value} {size bytes:Nat} {id off:Nat} (off':Nat) (hu:P.underlying T=some (.struct fs)) (h:(pG o,o.op,o.dst,Nat.ble (t+1) N,fs[i]?)=(true,.fieldAddr T x i,some t,true,some F)) (hi:TI P F.type z size bytes) (h2:(Nat.ble (0+1) size,S.op x,off+F.offset)=(true,.ref id off,off')) (q:ILS P O N ops ll (S.set t (.ref id off')) Q):ILS P O N ops (o::ll) S Q :=
 aA (congrArg Prod.fst h) (tFa off' hu (congrArg Prod.snd h) hi h2) q
theorem cLd {ops:Array Oper} {ll:List Oper} {T:TypeId} {x:Operand} {u:TypeDesc} {z:Option Value} {size bytes:Nat} {id off:Nat} {e:TypeId} {ds r:List D} {d:D} (hu:P.underlying T=some u) (hg:gH P T=false) (hi:TI P T z size bytes) (h:(pG o,o.op,o.dst,Nat.ble (t+1) N,Nat.ble (0+1) size,S.op x,S.ent id,Nat.ble (off+size) ds.length,ds.drop off)=(true,.load T x,some t,true,true,.ref id off,.blk e ds,true,d::r)) (q:ILS P O N ops ll (S.set t d) Q):ILS P O N ops (o::ll) S Q :=
 aA (congrArg Prod.fst h) (tLd hu hg hi (congrArg Prod.snd h)) q
theorem cSt {ops:Array Oper} {ll:List Oper} {T:TypeId} {x y:Operand} {z:Option Value} {size bytes:Nat} {id off:Nat} {e:TypeId} {ds:List D} (c ds':List D) (hi:TI P T z size bytes) (h:(pG o,o.op,o.dst,S.op x,S.ent id,S.op y,(D.agg c).boxable,(D.agg c).cells.length,(D.agg c).cells.all D.one,Nat.ble (off+size) ds.length,fS ds off (D.agg c).cells)=(true,.store T x y,none,.ref id off,.blk e ds,.agg c,true,size,true,true,ds')) (q:ILS P O N ops ll (S.setE id (.blk e ds')) Q):ILS P O N ops (o::ll) S Q :=
 aA (congrArg Prod.fst h) (tSt c ds' hi (congrArg Prod.snd h)) q
theorem cLr {ops:Array Oper} {ll:List Oper} {T:TypeId} {x:Operand} {u:TypeDesc} {z:Option Value} {size bytes:Nat} {id off:Nat} {e:TypeId} {ds:List D} (cs:List D) (l:LA P T u z size bytes true) (h:(pG o,o.op,o.dst,Nat.ble (t+1) N,S.op x,S.ent id,Nat.ble (off+size) ds.length,(ds.drop off).take size)=(true,.load T x,some t,true,.ref id off,.blk e ds,true,cs)) (q:ILS P O N ops ll (S.set t (.agg cs)) Q):ILS P O N ops (o::ll) S Q :=
 aA (congrArg Prod.fst h) (tLr cs l (congrArg Prod.snd h)) q
theorem cAs {ops:Array Oper} {ll:List Oper} {x:Operand} (d:D) (h:(pG o,o.op,o.dst,Nat.ble (t+1) N,S.op x)=(true,.assign x,some t,true,d)) (q:ILS P O N ops ll (S.set t d) Q):ILS P O N ops (o::ll) S Q :=
 aA (congrArg Prod.fst h) (tAs d (congrArg Prod.snd h)) q
theorem cBx {ops:Array Oper} {ll:List Oper} {e:TypeId} {x:Operand} {cs:List D} (c:List D) (id:Nat) (h:(pG o,o.op,o.dst,Nat.ble (t+1) N,S.ent id,S.op x,(D.agg c).boxable,(D.agg c).cells)=(true,.box e x,some t,true,.fresh,.agg c,true,cs)) (q:ILS P O N ops ll ((S.setE id (.blk e cs)).set t (.ref id 0)) Q):ILS P O N ops (o::ll) S Q :=
 aA (congrArg Prod.fst h) (tBx c id (congrArg Prod.snd h)) q
theorem cI {ops:Array Oper} {ll:List Oper} {x:Operand} {k:IntKind} {n:Int} (h:(pG o,o.op,o.dst,Nat.ble (t+1) N,S.op x)=(true,.move x,some t,true,.int k n)) (q:ILS P O N ops ll (S.set t (.int k n)) Q):ILS P O N ops (o::ll) S Q :=
 aA (congrArg Prod.fst h) (tI (congrArg Prod.snd h)) q
theorem cB {ops:Array Oper} {ll:List Oper} {x:Operand} {n:Bool} (h:(pG o,o.op,o.dst,Nat.ble (t+1) N,S.op x)=(true,.move x,some t,true,.bool n)) (q:ILS P O N ops ll (S.set t (.bool n)) Q):ILS P O N ops (o::ll) S Q :=
 aA (congrArg Prod.fst h) (tB (congrArg Prod.snd h)) q
theorem cAI {ops:Array Oper} {ll:List Oper} {x:Operand} {k:IntKind} {n:Int} (h:(pG o,o.op,o.dst,Nat.ble (t+1) N,S.op x)=(true,.assign x,some t,true,.int k n)) (q:ILS P O N ops ll (S.set t (.int k n)) Q):ILS P O N ops (o::ll) S Q :=
 aA (congrArg Prod.fst h) (tAI (congrArg Prod.snd h)) q
theorem cAB {ops:Array Oper} {ll:List Oper} {x:Operand} {n:Bool} (h:(pG o,o.op,o.dst,Nat.ble (t+1) N,S.op x)=(true,.assign x,some t,true,.bool n)) (q:ILS P O N ops ll (S.set t (.bool n)) Q):ILS P O N ops (o::ll) S Q :=
 aA (congrArg Prod.fst h) (tAB (congrArg Prod.snd h)) q
theorem cMv {ops:Array Oper} {ll:List Oper} {x:Operand} (d:D) (h:(pG o,o.op,o.dst,Nat.ble (t+1) N,S.op x)=(true,.move x,some t,true,d)) (q:ILS P O N ops ll (S.set t d) Q):ILS P O N ops (o::ll) S Q :=
 aA (congrArg Prod.fst h) (tMv d (congrArg Prod.snd h)) q
theorem cEx {ops:Array Oper} {ll:List Oper} {x:Operand} {i:Nat} {cs:List D} {d:D} (h:(pG o,o.op,o.dst,Nat.ble (t+1) N,S.op x,cs[i]?)=(true,.extract x i,some t,true,.tuple cs,some d)) (q:ILS P O N ops ll (S.set t d) Q):ILS P O N ops (o::ll) S Q :=
 aA (congrArg Prod.fst h) (tEx (congrArg Prod.snd h)) q
theorem cCm {ops:Array Oper} {ll:List Oper} {op:BinOp} {xt yt:TypeId} {x y:Operand} {k:IntKind} {a b:Int} {c c':Bool} (h:(pG o,o.op,o.dst,Nat.ble (t+1) N,S.op x,S.op y,int2 op k a b)=(true,.binOp op xt x y yt,some t,true,.int k a,.int k b,some (.bool c))) (hc:c=c') (q:ILS P O N ops ll (S.set t (.bool c')) Q):ILS P O N ops (o::ll) S Q :=
 aA (congrArg Prod.fst h) (tCm (congrArg Prod.snd h) hc) q
theorem cOr {ops:Array Oper} {ll:List Oper} {c x y:Operand} {b z r:Bool} (h:(pG o,o.op,o.dst,Nat.ble (t+1) N,S.op c,S.op x,S.op y)=(true,.pick c x y,some t,true,.bool b,.bool true,.cnd (b == false) (.bool z))) (hr:(b||z)=r) (q:ILS P O N ops ll (S.set t (.bool r)) Q):ILS P O N ops (o::ll) S Q :=
 aA (congrArg Prod.fst h) (tOr (congrArg Prod.snd h) hr) q
theorem cAn {ops:Array Oper} {ll:List Oper} {c x y:Operand} {b z r:Bool} (h:(pG o,o.op,o.dst,Nat.ble (t+1) N,S.op c,S.op x,S.op y)=(true,.pick c x y,some t,true,.bool b,.cnd (b == true) (.bool z),.bool false)) (hr:(b&&z)=r) (q:ILS P O N ops ll (S.set t (.bool r)) Q):ILS P O N ops (o::ll) S Q :=
 aA (congrArg Prod.fst h) (tAn (congrArg Prod.snd h) hr) q
end
end Go.IL
open Go Go.IL
namespace Go.Fn
structure aES where
 Kind:Int
 N:Int
 Path:Int
 Fin:Bool
 deriving DecidableEq,Inhabited
structure aI where
 From:Int
 To:Int
 Path:Int
 Fin:Bool
 deriving DecidableEq,Inhabited
def aD:Enc aI:=⟨⟨fun x=>.agg [.int .i64 x.From,.int .i64 x.To,.int .i64 x.Path,.bool x.Fin],4,by decide,fun _=>⟨rfl,rfl⟩⟩,fun _=>rfl⟩

structure aG where
 From:Int
 To:Int
 deriving DecidableEq,Inhabited
def aE:Enc aG:=⟨⟨fun x=>.agg [.int .i64 x.From,.int .i64 x.To],2,by decide,fun _=>⟨rfl,rfl⟩⟩,fun _=>rfl⟩

structure aN where
 Base:Int
 Data:(List UInt8)
 Next:Int
 Pieces:(List aI)
 Lost:(List aG)
 Closed:Bool
 Sent:Bool
 Again:Bool
 Done:Bool
 deriving DecidableEq,Inhabited
def aBc  : Option aN :=
 some (⟨0,[],0,[],[],false,false,false,false⟩:aN)

def dR (a0:(List aG)):Option (List aG) :=
 aB2 a0 (
  some []
 ) (
   bno (app 16 ([]:(List aG)) a0) fun x3 =>
   some x3
 )

def fV (a0:aN):Option (Int×(List UInt8)×Int×(List aI)×(List aG)×Bool×Bool×Bool×Bool) :=
 bno (made 32 (a0.Pieces.length:Int) ((⟨0,0,0,false⟩:aI):aI)) fun x1 =>
 bnd (cpy x1 a0.Pieces) fun x2 =>
 bno (dR a0.Lost) fun x3 =>
 some (a0.Base,a0.Data,a0.Next,x2,x3,a0.Closed,a0.Sent,a0.Again,a0.Done)

def uY (a0:Int):Option Bool :=
 bnd (decide (0≤a0)) fun x1 =>
 bnd (decide (a0≤4611686018427387903)) fun x2 =>
 bnd (x1&&x2) fun x3 =>
 some x3

def iW (a0:aG):Option Bool :=
 bno (uY a0.From) fun x1 =>
 bno (gd (x1 == true) (uY a0.To) default) fun x2 =>
 bnd (x1&&x2) fun x3 =>
 some x3

def pL (a0:aG):Option Bool :=
 bno (iW (⟨a0.From,a0.To⟩:aG)) fun x1 =>
 some (!x1)

def bT (a0:(List aG)):Nat→Int→Option Int
 | 0,_=>none
 | n0 + 1,v7 =>
   bnd (decide (v7<(a0.length:Int))) fun x14 =>
   bif x14 then (
    bno (gix a0 v7) fun x16 =>
    bno (pL (⟨x16.From,x16.To⟩:aG)) fun x17 =>
    bif x17 then (
     some v7
    ) else (
      bnd (IntKind.wrap .i64 (v7+1)) fun x19 =>
      (bT a0 n0) x19
    )
   ) else (
     some (-1)
   )
def dY (a0:(List aG)):Option Int :=
 bT a0 fuel 0

def dA (a0:(List aG)):Option Bool :=
 bno (dY a0) fun x1 =>
 bnd (decide (0≤x1)) fun x2 =>
 some x2

def gN (a0:aG):Option Bool :=
 bnd (decide (a0.To≤a0.From)) fun x1 =>
 some x1

def cE (a0:(List aG)):Nat→Int→Option Int
 | 0,_=>none
 | n0 + 1,v7 =>
   bnd (decide (v7<(a0.length:Int))) fun x14 =>
   bif x14 then (
    bno (gix a0 v7) fun x16 =>
    bno (gN (⟨x16.From,x16.To⟩:aG)) fun x17 =>
    bif x17 then (
     some v7
    ) else (
      bnd (IntKind.wrap .i64 (v7+1)) fun x19 =>
      (cE a0 n0) x19
    )
   ) else (
     some (-1)
   )
def eH (a0:(List aG)):Option Int :=
 cE a0 fuel 0

def dI (a0:(List aG)):Option Bool :=
 bno (eH a0) fun x1 =>
 bnd (decide (0≤x1)) fun x2 =>
 some x2

def iB (a0:(List aG)):Nat→Int→Option Int
 | 0,_=>none
 | n0 + 1,v13 =>
   bnd (decide (v13<(a0.length:Int))) fun x22 =>
   bif x22 then (
    bno (gix a0 v13) fun x24 =>
    bnd (IntKind.wrap .i64 (v13-1)) fun x25 =>
    bno (gix a0 x25) fun x26 =>
    bnd (decide (x24.From≤x26.To)) fun x27 =>
    bif x27 then (
     some 10
    ) else (
      bnd (IntKind.wrap .i64 (v13+1)) fun x29 =>
      (iB a0 n0) x29
    )
   ) else (
     some 0
   )
def nL (a0:(List aG)):Option Int :=
 bno (dA a0) fun x1 =>
 bif x1 then (
  some 8
 ) else (
   bno (dI a0) fun x3 =>
   bif x3 then (
    some 4
   ) else (
     iB a0 fuel 1
   )
 )

def nF (a0:aN):Option Bool :=
 bno (nL a0.Lost) fun x1 =>
 bnd (!decide (x1=0)) fun x2 =>
 bif x2 then (
  some false
 ) else (
   bnd (decide ((a0.Lost.length:Int)=0)) fun x4 =>
   bno (gd (x4 == false) (gix a0.Lost 0) default) fun x5 =>
   bnd (decide (a0.Base≤x5.From)) fun x6 =>
   bnd (IntKind.wrap .i64 ((a0.Lost.length:Int)-1)) fun x7 =>
   bno (gd ((x4 == false)&&(x6 == true)) (gix a0.Lost x7) default) fun x8 =>
   bnd (decide (x8.To≤a0.Next)) fun x9 =>
   bnd (x6&&x9) fun x10 =>
   bnd (x4||x10) fun x11 =>
   some x11
 )

def nE (a0:Int):Option Bool :=
 bnd (decide (0≤a0)) fun x1 =>
 bnd (decide (a0<4)) fun x2 =>
 bnd (x1&&x2) fun x3 =>
 some x3

def gL (a0:aI):Option aG :=
 some (⟨a0.From,a0.To⟩:aG)

def dB (a0:(List aG)):Option (List aG) :=
 aB2 a0 (
  some ([]:(List aG))
 ) (
   bno (app 16 ([]:(List aG)) a0) fun x3 =>
   some x3
 )

def gQ (v52:Int) (kk0:Int→(List aG)→Option (List aG)) (x99:aG) (x100:Int) (x101:Int):Nat→Int→(List aG)→Option (List aG)
 | 0,_,_=>none
 | n1 + 1,v113,v114 =>
   bnd (decide (v113<2)) fun x127 =>
   bif x127 then (
    bno (gix ([(⟨x99.From,x100⟩:aG),(⟨x101,x99.To⟩:aG)]:List aG) v113) fun x129 =>
    bno (gN (⟨x129.From,x129.To⟩:aG)) fun x130 =>
    bif ((!x130) == true) then (
     bno (app 16 v114 (([(⟨x129.From,x129.To⟩:aG)]:(List aG)))) fun x132 =>
     bnd ((!x130)&&(!true)) fun x133 =>
     bif x133 then (
      some x132
     ) else (
       bnd (IntKind.wrap .i64 (v113+1)) fun x135 =>
       (gQ v52 kk0 x99 x100 x101 n1) x135 x132
     )
    ) else (
      bnd ((!x130)&&(!false)) fun x136 =>
      bif x136 then (
       some v114
      ) else (
        bnd (IntKind.wrap .i64 (v113+1)) fun x138 =>
        (gQ v52 kk0 x99 x100 x101 n1) x138 v114
      )
    )
   ) else (
     bnd (IntKind.wrap .i64 (v52+1)) fun x139 =>
     kk0 x139 v114
   )
def kJ (a0:(List aG)) (a1:aG):Nat→Int→(List aG)→Option (List aG)
 | 0,_,_=>none
 | n0+1,v52,v53 =>
   bnd (decide (v52<(a0.length:Int))) fun x97 =>
   bif x97 then (
    bno (gix a0 v52) fun x99 =>
    bnd (min x99.To a1.From) fun x100 =>
    bnd (max x99.From a1.To) fun x101 =>
    gQ v52 (kJ a0 a1 n0) x99 x100 x101 fuel 0 v53
   ) else (
     some v53
   )
def rN (a0:(List aG)) (a1:aG):Option (List aG) :=
 bno (iW (⟨a1.From,a1.To⟩:aG)) fun x1 =>
 bno (gd ((!x1) == false) (gN (⟨a1.From,a1.To⟩:aG)) default) fun x2 =>
 bnd ((!x1)||x2) fun x3 =>
 bno (gd (x3 == false) (nL a0) default) fun x4 =>
 bnd (!decide (x4=0)) fun x5 =>
 bnd (x3||x5) fun x6 =>
 bif x6 then (
  bno (dB a0) fun x8 =>
  some x8
 ) else (
   kJ a0 a1 fuel 0 ([]:(List aG))
 )

def kI (a0:(List aG)):Nat→(List aG)→Int→Option (List aG)
 | 0,_,_=>none
 | n0+1,v13,v14 =>
   bnd (decide (v14<(a0.length:Int))) fun x20 =>
   bif x20 then (
    bno (gix a0 v14) fun x22 =>
    bno (rN v13 (⟨x22.From,x22.To⟩:aG)) fun x23 =>
    bnd (IntKind.wrap .i64 (v14+1)) fun x24 =>
    (kI a0 n0) x23 x24
   ) else (
     some v13
   )
def tA (a0:(List aG)) (a1:aG):Option (List aG) :=
 bno (iW (⟨a1.From,a1.To⟩:aG)) fun x1 =>
 bno (gd ((!x1) == false) (nL a0) default) fun x2 =>
 bnd (!decide (x2=0)) fun x3 =>
 bnd ((!x1)||x3) fun x4 =>
 bno (gd (x4 == false) (gN (⟨a1.From,a1.To⟩:aG)) default) fun x5 =>
 bnd (x4||x5) fun x6 =>
 bif x6 then (
  some []
 ) else (
   kI a0 fuel (([(⟨a1.From,a1.To⟩:aG)]:(List aG))) 0
 )

def cP (a0:(List aG)) (a1:(List aG)):Nat→Int→Option Bool
 | 0,_=>none
 | n0 + 1,v10 =>
   bnd (decide (v10<(a0.length:Int))) fun x18 =>
   bif x18 then (
    bno (gix a0 v10) fun x20 =>
    bno (gix a1 v10) fun x21 =>
    bnd ((decide (x20.From=x21.From)&&(decide (x20.To=x21.To)&&true))) fun x22 =>
    bif (!x22) then (
     some false
    ) else (
      bnd (IntKind.wrap .i64 (v10+1)) fun x24 =>
      (cP a0 a1 n0) x24
    )
   ) else (
     some true
   )
def eQ (a0:(List aG)) (a1:(List aG)):Option Bool :=
 bnd (!decide ((a0.length:Int)=(a1.length:Int))) fun x1 =>
 bif x1 then (
  some false
 ) else (
   cP a0 a1 fuel 0
 )

def qX (a0:(List aG)) (a1:(List aG)):Option Bool :=
 bno (eQ a0 a1) fun x1 =>
 some x1

def nG (a0:aN) (a1:aI) (a2:Int):Option Bool :=
 bnd (decide (a1.From<a2)) fun x1 =>
 bnd (decide (a1.To<a1.From)) fun x2 =>
 bnd (x1||x2) fun x3 =>
 bnd (decide (a0.Next<a1.To)) fun x4 =>
 bnd (x3||x4) fun x5 =>
 bno (gd (x5 == false) (nE a1.Path) default) fun x6 =>
 bnd (x5||(!x6)) fun x7 =>
 bif x7 then (
  some false
 ) else (
   bnd (decide (a1.From=a1.To)) fun x9 =>
   bif x9 then (
    some a1.Fin
   ) else (
     bno (gL a1) fun x11 =>
     bno (tA a0.Lost (⟨x11.From,x11.To⟩:aG)) fun x12 =>
     bno (gL a1) fun x13 =>
     bno (qX x12 ([(⟨x13.From,x13.To⟩:aG)]:(List aG))) fun x14 =>
     some x14
   )
 )

def fJ (a0:aN):Option Int :=
 bnd (IntKind.wrap .i64 (a0.Base+(a0.Data.length:Int))) fun x1 =>
 some x1

def eS (a0:aN):Nat→Int→Int→Option Bool
 | 0,_,_=>none
 | n0 + 1,v11,v12 =>
   bnd (decide (v12<(a0.Pieces.length:Int))) fun x23 =>
   bif x23 then (
    bno (gix a0.Pieces v12) fun x25 =>
    bif x25.Fin then (
     bnd (IntKind.wrap .i64 (v11+1)) fun x27 =>
     bno (fJ a0) fun x28 =>
     bnd (!decide (x25.To=x28)) fun x29 =>
     bif x29 then (
      some false
     ) else (
       bnd (IntKind.wrap .i64 (v12+1)) fun x31 =>
       (eS a0 n0) x27 x31
     )
    ) else (
      bnd (IntKind.wrap .i64 (v12+1)) fun x32 =>
      (eS a0 n0) v11 x32
    )
   ) else (
     bif (!a0.Sent) then (
      bnd (decide (v11=0)) fun x34 =>
      bnd (x34&&(!a0.Again)) fun x35 =>
      bnd (x35&&(!a0.Done)) fun x36 =>
      some x36
     ) else (
       bno (gd ((!a0.Closed) == false) (fJ a0) default) fun x37 =>
       bnd (!decide (a0.Next=x37)) fun x38 =>
       bnd ((!a0.Closed)||x38) fun x39 =>
       bnd (a0.Again&&a0.Done) fun x40 =>
       bnd (x39||x40) fun x41 =>
       bif x41 then (
        some false
       ) else (
         bnd ((!a0.Again)&&(!a0.Done)) fun x43 =>
         bnd (decide (v11=1)) fun x44 =>
         bnd (x43&&x44) fun x45 =>
         bnd (decide (v11=0)) fun x46 =>
         bnd ((!x43)&&x46) fun x47 =>
         bnd (x45||x47) fun x48 =>
         some x48
       )
     )
   )
def pE (a0:aN):Option Bool :=
 eS a0 fuel 0 0

def jY (a0:aN):Nat→Int→Int→Option Int
 | 0,_,_=>none
 | n1 + 1,v21,v22 =>
   bnd (decide (v22<(a0.Pieces.length:Int))) fun x29 =>
   bif x29 then (
    bno (gix a0.Pieces v22) fun x31 =>
    bno (nG a0 x31 v21) fun x32 =>
    bif (!x32) then (
     some 10
    ) else (
      bnd (IntKind.wrap .i64 (v22+1)) fun x34 =>
      (jY a0 n1) x31.To x34
    )
   ) else (
     bno (pE a0) fun x35 =>
     bif (!x35) then (
      some 9
     ) else (
       some 0
     )
   )
def lY (a0:aN) (v9:Bool):Option Int :=
 bif v9 then (
  some 8
 ) else (
   bnd (decide (4096<(a0.Data.length:Int))) fun x11 =>
   bif x11 then (
    some 5
   ) else (
     bno (nF a0) fun x13 =>
     bif (!x13) then (
      some 4
     ) else (
       jY a0 fuel a0.Base 0
     )
   )
 )
def lQ (a0:aN):Option Int :=
 bnd (decide (a0.Base<0)) fun x37 =>
 bif x37 then (
  lY a0 x37
 ) else (
   bnd (decide (1099511623680<a0.Base)) fun x39 =>
   bif x39 then (
    lY a0 x39
   ) else (
     bnd (decide (a0.Next<a0.Base)) fun x41 =>
     bif x41 then (
      lY a0 x41
     ) else (
       bnd (IntKind.wrap .i64 (a0.Next-a0.Base)) fun x43 =>
       bnd (decide ((a0.Data.length:Int)<x43)) fun x44 =>
       lY a0 x44
     )
   )
 )

def uJ (a0:aN):Option Int :=
 bif a0.Closed then (
  some 0
 ) else (
   bnd (IntKind.wrap .i64 (4096-(a0.Data.length:Int))) fun x2 =>
   some x2
 )

def sM (a0:aN) (a1:(List UInt8)):Option (aN×Int) :=
 bno (fV a0) fun x1 =>
 bno (lQ a0) fun x2 =>
 bnd (!decide (x2=0)) fun x3 =>
 bif x3 then (
  some ((⟨x1.1,x1.2.1,x1.2.2.1,x1.2.2.2.1,x1.2.2.2.2.1,x1.2.2.2.2.2.1,x1.2.2.2.2.2.2.1,x1.2.2.2.2.2.2.2.1,x1.2.2.2.2.2.2.2.2⟩:aN),0)
 ) else (
   bno (uJ a0) fun x5 =>
   bnd (min x5 (a1.length:Int)) fun x6 =>
   bno (fJ a0) fun x7 =>
   bnd (IntKind.wrap .i64 (1099511623680-x6)) fun x8 =>
   bnd (decide (x8<x7)) fun x9 =>
   bif x9 then (
    some ((⟨x1.1,x1.2.1,x1.2.2.1,x1.2.2.2.1,x1.2.2.2.2.1,x1.2.2.2.2.2.1,x1.2.2.2.2.2.2.1,x1.2.2.2.2.2.2.2.1,x1.2.2.2.2.2.2.2.2⟩:aN),0)
   ) else (
     bno (cut a1 0 x6) fun x11 =>
     bno (cat x1.2.1 x11) fun x12 =>
     some ((⟨x1.1,x12,x1.2.2.1,x1.2.2.2.1,x1.2.2.2.2.1,x1.2.2.2.2.2.1,x1.2.2.2.2.2.2.1,x1.2.2.2.2.2.2.2.1,x1.2.2.2.2.2.2.2.2⟩:aN),x6)
   )
 )

def sN (a0:aN):Option aN :=
 bno (fV a0) fun x1 =>
 bno (gd (x1.2.2.2.2.2.1 == false) (lQ a0) default) fun x2 =>
 bnd (decide (x2=0)) fun x3 =>
 bnd (x1.2.2.2.2.2.1||x3) fun x4 =>
 some (⟨x1.1,x1.2.1,x1.2.2.1,x1.2.2.2.1,x1.2.2.2.2.1,x4,x1.2.2.2.2.2.2.1,x1.2.2.2.2.2.2.2.1,x1.2.2.2.2.2.2.2.2⟩:aN)

def mT (a0:aN):Option Bool :=
 bnd ((!a0.Closed)||a0.Done) fun x1 =>
 bif x1 then (
  some false
 ) else (
   bnd (a0.Again||(!a0.Sent)) fun x3 =>
   some x3
 )

def lP (a0:aN) (a1:Int) (a2:Int):Option (aI×Bool) :=
 bnd (decide (0<(a0.Lost.length:Int))) fun x1 =>
 bif x1 then (
  bno (gix a0.Lost 0) fun x3 =>
  bnd (IntKind.wrap .i64 (x3.To-x3.From)) fun x4 =>
  bnd (min a1 x4) fun x5 =>
  bnd (IntKind.wrap .i64 (x3.From+x5)) fun x6 =>
  some ((⟨x3.From,x6,0,false⟩:aI),true)
 ) else (
   bno (fJ a0) fun x7 =>
   bnd (IntKind.wrap .i64 (x7-a0.Next)) fun x8 =>
   bnd (decide (0<x8)) fun x9 =>
   bif x9 then (
    bnd (max a2 a0.Next) fun x11 =>
    bnd (IntKind.wrap .i64 (x11-a0.Next)) fun x12 =>
    bnd (min (min x8 a1) x12) fun x13 =>
    bnd (IntKind.wrap .i64 (a0.Next+x13)) fun x14 =>
    bnd (decide (0<x13)) fun x15 =>
    some ((⟨a0.Next,x14,0,false⟩:aI),x15)
   ) else (
     bno (mT a0) fun x16 =>
     some ((⟨a0.Next,a0.Next,0,false⟩:aI),x16)
   )
 )

def mV (a0:aI) (a1:aI):Option Bool :=
 bnd (decide (a1.From<a0.From)) fun x1 =>
 bnd (decide (a0.From=a1.From)) fun x2 =>
 bnd (decide (a1.To≤a0.To)) fun x3 =>
 bnd (x2&&x3) fun x4 =>
 bnd (x1||x4) fun x5 =>
 some x5

def bO (a0:(List aI)) (a1:aI):Nat→Int→Option Int
 | 0,_=>none
 | n0 + 1,v7 =>
   bnd (decide (v7<(a0.length:Int))) fun x14 =>
   bif x14 then (
    bno (gix a0 v7) fun x16 =>
    bno (mV x16 a1) fun x17 =>
    bif x17 then (
     some v7
    ) else (
      bnd (IntKind.wrap .i64 (v7+1)) fun x19 =>
      (bO a0 a1 n0) x19
    )
   ) else (
     some (-1)
   )
def dG (a0:(List aI)) (a1:aI):Option Int :=
 bO a0 a1 fuel 0

def mQ (a0:aN) (a1:aI):Option Int :=
 bno (cut a0.Pieces 0 (a0.Pieces.length:Int)) fun x1 =>
 bno (fJ a0) fun x2 =>
 bno (fJ a0) fun x3 =>
 bnd (IntKind.wrap .i64 (x3+1)) fun x4 =>
 bno (app 32 x1 (([(⟨x2,x4,0,false⟩:aI)]:(List aI)))) fun x5 =>
 bno (dG x5 a1) fun x6 =>
 some x6

def fN (a0:Int) (a1:(List aI)) (a2:(List aI)):Option (List aI):=insS 32 a2 a0 a1

def lV (a0:aN) (a1:Int) (x1:(Int×(List UInt8)×Int×(List aI)×(List aG)×Bool×Bool×Bool×Bool)) (x9:(aI×Bool)) (x11:Int) (v16:(List aG)) (v22:Bool) (v23:Bool) (v24:Bool):Option (aN×aI×(List UInt8)×Bool) :=
 bno (mQ a0 (⟨x9.1.From,x9.1.To,a1,v24⟩:aI)) fun x25 =>
 bno (fN x25 ([(⟨x9.1.From,x9.1.To,a1,v24⟩:aI)]:(List aI)) x1.2.2.2.1) fun x26 =>
 bnd (IntKind.wrap .i64 (x9.1.From-a0.Base)) fun x27 =>
 bnd (IntKind.wrap .i64 (x9.1.To-a0.Base)) fun x28 =>
 bno (cut a0.Data x27 x28) fun x29 =>
 some (((⟨x1.1,x1.2.1,x11,x26,v16,x1.2.2.2.2.2.1,v22,v23,x1.2.2.2.2.2.2.2.2⟩:aN),(⟨x9.1.From,x9.1.To,a1,v24⟩:aI),x29,true))
def oV (a0:aN) (a1:Int) (x1:(Int×(List UInt8)×Int×(List aI)×(List aG)×Bool×Bool×Bool×Bool)) (x9:(aI×Bool)) (x11:Int) (v16:(List aG)):Option (aN×aI×(List UInt8)×Bool) :=
 bno (fJ a0) fun x30 =>
 bnd (decide (x9.1.To=x30)) fun x31 =>
 bno (gd (x31 == true) (mT a0) default) fun x32 =>
 bnd (x31&&x32) fun x33 =>
 bif x33 then (
  lV a0 a1 x1 x9 x11 v16 true false x33
 ) else (
   lV a0 a1 x1 x9 x11 v16 x1.2.2.2.2.2.2.1 x1.2.2.2.2.2.2.2.1 x33
 )
def nH (a0:aN) (a1:Int) (a2:Int) (a3:Int):Option (aN×aI×(List UInt8)×Bool) :=
 bno (fV a0) fun x1 =>
 bno (nE a1) fun x2 =>
 bnd (decide (a2<1)) fun x3 =>
 bnd ((!x2)||x3) fun x4 =>
 bno (gd (x4 == false) (lQ a0) default) fun x5 =>
 bnd (!decide (x5=0)) fun x6 =>
 bnd (x4||x6) fun x7 =>
 bif x7 then (
  some (((⟨x1.1,x1.2.1,x1.2.2.1,x1.2.2.2.1,x1.2.2.2.2.1,x1.2.2.2.2.2.1,x1.2.2.2.2.2.2.1,x1.2.2.2.2.2.2.2.1,x1.2.2.2.2.2.2.2.2⟩:aN),(⟨0,0,0,false⟩:aI),[],false))
 ) else (
   bno (lP a0 a2 a3) fun x9 =>
   bif (!x9.2) then (
    some (((⟨x1.1,x1.2.1,x1.2.2.1,x1.2.2.2.1,x1.2.2.2.2.1,x1.2.2.2.2.2.1,x1.2.2.2.2.2.2.1,x1.2.2.2.2.2.2.2.1,x1.2.2.2.2.2.2.2.2⟩:aN),(⟨0,0,0,false⟩:aI),[],false))
   ) else (
     bnd (max x1.2.2.1 x9.1.To) fun x11 =>
     bnd (decide (x9.1.From<x9.1.To)) fun x35 =>
     bif x35 then (
      bno (gL (⟨x9.1.From,x9.1.To,a1,x9.1.Fin⟩:aI)) fun x37 =>
      bno (rN x1.2.2.2.2.1 (⟨x37.From,x37.To⟩:aG)) fun x38 =>
      oV a0 a1 x1 x9 x11 x38
     ) else (
       oV a0 a1 x1 x9 x11 x1.2.2.2.2.1
     )
   )
 )

def oM (a0:aI) (a1:Int):Option Bool :=
 bnd (decide (a0.Path=a1)) fun x1 =>
 some x1

def jH (a0:aG) (a1:(List aG)):Option (List aG) :=
 bno (gN (⟨a0.From,a0.To⟩:aG)) fun x1 =>
 bif x1 then (
  some a1
 ) else (
   bnd (decide (0<(a1.length:Int))) fun x3 =>
   bnd (IntKind.wrap .i64 ((a1.length:Int)-1)) fun x4 =>
   bno (gd (x3 == true) (gix a1 x4) default) fun x5 =>
   bno (gd (x3 == true) (a1[(x4:Int).toNat]?) default) fun x6 =>
   bnd (decide (a0.From≤x6.To)) fun x7 =>
   bnd (x3&&x7) fun x8 =>
   bif x8 then (
    bnd (IntKind.wrap .i64 ((a1.length:Int)-1)) fun x10 =>
    bnd (IntKind.wrap .i64 ((a1.length:Int)-1)) fun x11 =>
    bno (gix a1 x11) fun x12 =>
    bno (a1[(x11:Int).toNat]?) fun x13 =>
    bnd (max x13.To a0.To) fun x14 =>
    bno (gix a1 x10) fun x15 =>
    bno (a1[(x10:Int).toNat]?) fun x16 =>
    bnd (a1.set ((x10:Int).toNat) (⟨x16.From,x14⟩:aG)) fun x17 =>
    some x17
   ) else (
     bno (app 16 a1 (([(⟨a0.From,a0.To⟩:aG)]:(List aG)))) fun x18 =>
     some x18
   )
 )

def oZ (v26:Int) (kk0:(List aG)→Bool→Int→Option (List aG)) (x44:aG) (v49:(List aG)) (v50:Bool):Option (List aG) :=
 bno (jH (⟨x44.From,x44.To⟩:aG) v49) fun x51 =>
 bnd (IntKind.wrap .i64 (v26+1)) fun x52 =>
 kk0 x51 v50 x52
def iI (a0:(List aG)) (a1:aG):Nat→(List aG)→Bool→Int→Option (List aG)
 | 0,_,_,_=>none
 | n0 + 1,v24,v25,v26 =>
   bnd (decide (v26<(a0.length:Int))) fun x42 =>
   bif x42 then (
    bno (gix a0 v26) fun x44 =>
    bnd (decide (a1.From≤x44.From)) fun x53 =>
    bnd ((!v25)&&x53) fun x54 =>
    bif x54 then (
     bno (jH (⟨a1.From,a1.To⟩:aG) v24) fun x56 =>
     oZ v26 (iI a0 a1 n0) x44 x56 true
    ) else (
      oZ v26 (iI a0 a1 n0) x44 v24 v25
    )
   ) else (
     bif (!v25) then (
      bno (jH (⟨a1.From,a1.To⟩:aG) v24) fun x58 =>
      some x58
     ) else (
       some v24
     )
   )
def uZ (a0:(List aG)) (a1:aG):Option (List aG) :=
 bno (iW (⟨a1.From,a1.To⟩:aG)) fun x1 =>
 bno (gd ((!x1) == false) (gN (⟨a1.From,a1.To⟩:aG)) default) fun x2 =>
 bnd ((!x1)||x2) fun x3 =>
 bno (gd (x3 == false) (nL a0) default) fun x4 =>
 bnd (!decide (x4=0)) fun x5 =>
 bnd (x3||x5) fun x6 =>
 bif x6 then (
  bno (dB a0) fun x8 =>
  some x8
 ) else (
   iI a0 a1 fuel ([]:(List aG)) false 0
 )

def cL (a0:(List aI)) (a1:Int):Nat→Int→Option Int
 | 0,_=>none
 | n0 + 1,v7 =>
   bnd (decide (v7<(a0.length:Int))) fun x14 =>
   bif x14 then (
    bno (gix a0 v7) fun x16 =>
    bno (oM x16 a1) fun x17 =>
    bif x17 then (
     some v7
    ) else (
      bnd (IntKind.wrap .i64 (v7+1)) fun x19 =>
      (cL a0 a1 n0) x19
    )
   ) else (
     some (-1)
   )
def dW (a0:(List aI)) (a1:Int):Option Int :=
 cL a0 a1 fuel 0

def bZ (a1:Int):Nat→(List aI)→Int→Int→Option (List aI)
 | 0,_,_,_=>none
 | n0 + 1,v17,v18,v19 =>
   bnd (decide (v19<(v17.length:Int))) fun x32 =>
   bif x32 then (
    bno (gix v17 v19) fun x34 =>
    bno (v17[(v19:Int).toNat]?) fun x35 =>
    bno (oM x35 a1) fun x36 =>
    bif (!x36) then (
     bno (gix v17 v18) fun x38 =>
     bno (v17[(v18:Int).toNat]?) fun x39 =>
     bnd (v17.set ((v18:Int).toNat) x35) fun x40 =>
     bnd (IntKind.wrap .i64 (v18+1)) fun x41 =>
     bnd (IntKind.wrap .i64 (v19+1)) fun x42 =>
     (bZ a1 n0) x40 x41 x42
    ) else (
      bnd (IntKind.wrap .i64 (v19+1)) fun x43 =>
      (bZ a1 n0) v17 v18 x43
    )
   ) else (
     bno (cut v17 0 v18) fun x44 =>
     bno (cut x44 0 v18) fun x45 =>
     some x45
   )
def cY (a0:(List aI)) (a1:Int):Option (List aI) :=
 bno (dW a0 a1) fun x1 =>
 bnd (decide (x1=(-1))) fun x2 =>
 bif x2 then (
  some a0
 ) else (
   bnd (IntKind.wrap .i64 (x1+1)) fun x4 =>
   bZ a1 fuel a0 x1 x4
 )

def jX (a0:aN) (a1:Int) (x1:(Int×(List UInt8)×Int×(List aI)×(List aG)×Bool×Bool×Bool×Bool)):Nat→Int→(List aG)→Bool→Option aN
 | 0,_,_,_=>none
 | n0 + 1,v15,v16,v17 =>
   bnd (decide (v15<(a0.Pieces.length:Int))) fun x28 =>
   bif x28 then (
    bno (gix a0.Pieces v15) fun x30 =>
    bno (oM x30 a1) fun x31 =>
    bif x31 then (
     bno (gL x30) fun x33 =>
     bno (uZ v16 (⟨x33.From,x33.To⟩:aG)) fun x34 =>
     bnd (v17||x30.Fin) fun x35 =>
     bnd (IntKind.wrap .i64 (v15+1)) fun x36 =>
     (jX a0 a1 x1 n0) x36 x34 x35
    ) else (
      bnd (IntKind.wrap .i64 (v15+1)) fun x37 =>
      (jX a0 a1 x1 n0) x37 v16 v17
    )
   ) else (
     bno (cY x1.2.2.2.1 a1) fun x38 =>
     some (⟨x1.1,x1.2.1,x1.2.2.1,x38,v16,x1.2.2.2.2.2.1,x1.2.2.2.2.2.2.1,v17,x1.2.2.2.2.2.2.2.2⟩:aN)
   )
def uK (a0:aN) (a1:Int):Option aN :=
 bno (fV a0) fun x1 =>
 bno (lQ a0) fun x2 =>
 bnd (!decide (x2=0)) fun x3 =>
 bif x3 then (
  some (⟨x1.1,x1.2.1,x1.2.2.1,x1.2.2.2.1,x1.2.2.2.2.1,x1.2.2.2.2.2.1,x1.2.2.2.2.2.2.1,x1.2.2.2.2.2.2.2.1,x1.2.2.2.2.2.2.2.2⟩:aN)
 ) else (
   jX a0 a1 x1 fuel 0 x1.2.2.2.2.1 x1.2.2.2.2.2.2.2.1
 )

def rF (a0:aI):Option Bool :=
 bnd (decide (a0.From=a0.To)) fun x1 =>
 bnd (x1&&(!a0.Fin)) fun x2 =>
 some x2

def cM (a0:(List aI)):Nat→Int→Option Int
 | 0,_=>none
 | n0 + 1,v7 =>
   bnd (decide (v7<(a0.length:Int))) fun x14 =>
   bif x14 then (
    bno (gix a0 v7) fun x16 =>
    bno (rF x16) fun x17 =>
    bif x17 then (
     some v7
    ) else (
      bnd (IntKind.wrap .i64 (v7+1)) fun x19 =>
      (cM a0 n0) x19
    )
   ) else (
     some (-1)
   )
def dX (a0:(List aI)):Option Int :=
 cM a0 fuel 0

def cA  : Nat→(List aI)→Int→Int→Option (List aI)
 | 0,_,_,_=>none
 | n0 + 1,v17,v18,v19 =>
   bnd (decide (v19<(v17.length:Int))) fun x32 =>
   bif x32 then (
    bno (gix v17 v19) fun x34 =>
    bno (v17[(v19:Int).toNat]?) fun x35 =>
    bno (rF x35) fun x36 =>
    bif (!x36) then (
     bno (gix v17 v18) fun x38 =>
     bno (v17[(v18:Int).toNat]?) fun x39 =>
     bnd (v17.set ((v18:Int).toNat) x35) fun x40 =>
     bnd (IntKind.wrap .i64 (v18+1)) fun x41 =>
     bnd (IntKind.wrap .i64 (v19+1)) fun x42 =>
     (cA n0) x40 x41 x42
    ) else (
      bnd (IntKind.wrap .i64 (v19+1)) fun x43 =>
      (cA n0) v17 v18 x43
    )
   ) else (
     bno (cut v17 0 v18) fun x44 =>
     bno (cut x44 0 v18) fun x45 =>
     some x45
   )
def cZ (a0:(List aI)):Option (List aI) :=
 bno (dX a0) fun x1 =>
 bnd (decide (x1=(-1))) fun x2 =>
 bif x2 then (
  some a0
 ) else (
   bnd (IntKind.wrap .i64 (x1+1)) fun x4 =>
   cA fuel a0 x1 x4
 )

def lW (a0:aN) (a2:Bool) (x1:(Int×(List UInt8)×Int×(List aI)×(List aG)×Bool×Bool×Bool×Bool)) (x14:Int):Nat→Int→(List aI)→Option aN
 | 0,_,_=>none
 | n0 + 1,v31,v32 =>
   bnd (decide (v31<(x1.2.2.2.1.length:Int))) fun x49 =>
   bif x49 then (
    bno (gix v32 v31) fun x51 =>
    bno (v32[(v31:Int).toNat]?) fun x52 =>
    bnd (max x52.From x14) fun x53 =>
    bno (v32[(v31:Int).toNat]?) fun x54 =>
    bnd (max x54.To x14) fun x55 =>
    bno (v32[(v31:Int).toNat]?) fun x56 =>
    bnd (v32.set ((v31:Int).toNat) (⟨x53,x56.To,x56.Path,x56.Fin⟩:aI)) fun x57 =>
    bno (x57[(v31:Int).toNat]?) fun x58 =>
    bnd (x57.set ((v31:Int).toNat) (⟨x58.From,x55,x58.Path,x58.Fin⟩:aI)) fun x59 =>
    bno (x59[(v31:Int).toNat]?) fun x60 =>
    bnd (x60.Fin&&(!a2)) fun x61 =>
    bno (x59[(v31:Int).toNat]?) fun x62 =>
    bnd (x59.set ((v31:Int).toNat) (⟨x62.From,x62.To,x62.Path,x61⟩:aI)) fun x63 =>
    bnd (IntKind.wrap .i64 (v31+1)) fun x64 =>
    (lW a0 a2 x1 x14 n0) x64 x63
   ) else (
     bno (cZ v32) fun x65 =>
     bnd (IntKind.wrap .i64 (x14-a0.Base)) fun x66 =>
     bno (cut a0.Data x66 (a0.Data.length:Int)) fun x67 =>
     bno (rN x1.2.2.2.2.1 (⟨0,x14⟩:aG)) fun x68 =>
     bif a2 then (
      some (⟨x14,x67,x1.2.2.1,x65,x68,x1.2.2.2.2.2.1,x1.2.2.2.2.2.2.1,false,true⟩:aN)
     ) else (
       some (⟨x14,x67,x1.2.2.1,x65,x68,x1.2.2.2.2.2.1,x1.2.2.2.2.2.2.1,x1.2.2.2.2.2.2.2.1,x1.2.2.2.2.2.2.2.2⟩:aN)
     )
   )
def uL (a0:aN) (a1:Int) (a2:Bool):Option aN :=
 bno (fV a0) fun x1 =>
 bno (lQ a0) fun x2 =>
 bnd (!decide (x2=0)) fun x3 =>
 bnd (decide (a1<0)) fun x4 =>
 bnd (x3||x4) fun x5 =>
 bnd (decide (a0.Next<a1)) fun x6 =>
 bnd (x5||x6) fun x7 =>
 bno (gd ((x7 == false)&&(a2 == true)) (fJ a0) default) fun x8 =>
 bnd (!decide (a1=x8)) fun x9 =>
 bnd (x9||(!a0.Sent)) fun x10 =>
 bnd (a2&&x10) fun x11 =>
 bnd (x7||x11) fun x12 =>
 bif x12 then (
  some (⟨x1.1,x1.2.1,x1.2.2.1,x1.2.2.2.1,x1.2.2.2.2.1,x1.2.2.2.2.2.1,x1.2.2.2.2.2.2.1,x1.2.2.2.2.2.2.2.1,x1.2.2.2.2.2.2.2.2⟩:aN)
 ) else (
   bnd (max a1 a0.Base) fun x14 =>
   lW a0 a2 x1 x14 fuel 0 x1.2.2.2.1
 )

def aAb (a0:aN):Option Bool :=
 bnd (decide (a0.Data=([]:List UInt8))) fun x1 =>
 bnd (a0.Done&&x1) fun x2 =>
 some x2

def uH (a0:aN) (a1:Int):Option Bool :=
 bno (lQ a0) fun x1 =>
 bnd (!decide (x1=0)) fun x2 =>
 bif x2 then (
  some false
 ) else (
   bno (lP a0 1 a1) fun x4 =>
   some x4.2
 )

def cN (a0:(List aI)) (a1:(List aI)):Nat→Int→Option Bool
 | 0,_=>none
 | n0 + 1,v10 =>
   bnd (decide (v10<(a0.length:Int))) fun x18 =>
   bif x18 then (
    bno (gix a0 v10) fun x20 =>
    bno (gix a1 v10) fun x21 =>
    bnd ((decide (x20.From=x21.From)&&(decide (x20.To=x21.To)&&(decide (x20.Path=x21.Path)&&((x20.Fin == x21.Fin)&&true))))) fun x22 =>
    bif (!x22) then (
     some false
    ) else (
      bnd (IntKind.wrap .i64 (v10+1)) fun x24 =>
      (cN a0 a1 n0) x24
    )
   ) else (
     some true
   )
def eI (a0:(List aI)) (a1:(List aI)):Option Bool :=
 bnd (!decide ((a0.length:Int)=(a1.length:Int))) fun x1 =>
 bif x1 then (
  some false
 ) else (
   cN a0 a1 fuel 0
 )

def uI (a0:aN) (a1:aN):Option Bool :=
 bno (eI a0.Pieces a1.Pieces) fun x1 =>
 bno (gd ((!x1) == false) (qX a0.Lost a1.Lost) default) fun x2 =>
 bnd ((!x1)||(!x2)) fun x3 =>
 bif x3 then (
  some false
 ) else (
   bnd (a0.Closed == a1.Closed) fun x5 =>
   bnd (a0.Sent == a1.Sent) fun x6 =>
   bnd (x5&&x6) fun x7 =>
   bnd (a0.Again == a1.Again) fun x8 =>
   bnd (x7&&x8) fun x9 =>
   bnd (a0.Done == a1.Done) fun x10 =>
   bnd (x9&&x10) fun x11 =>
   bnd (decide (a0.Base=a1.Base)) fun x12 =>
   bnd (x11&&x12) fun x13 =>
   bnd (decide (a0.Data=a1.Data)) fun x14 =>
   bnd (x13&&x14) fun x15 =>
   bnd (decide (a0.Next=a1.Next)) fun x16 =>
   bnd (x15&&x16) fun x17 =>
   some x17
 )

end Go.Fn
open Go Go.IL
namespace Go.Fn
structure aD0 where
 Kind:Int
 N:Int
 Path:Int
 Text:(List UInt8)
 deriving DecidableEq,Inhabited
structure aS where
 At:Int
 Data:(List UInt8)
 deriving DecidableEq,Inhabited
def aF:Enc aS:=⟨⟨fun x=>.agg [.int .i64 x.At,.str x.Data],2,by decide,fun _=>⟨rfl,rfl⟩⟩,fun _=>rfl⟩

structure aW where
 Base:Int
 Ready:(List UInt8)
 Parts:(List aS)
 deriving DecidableEq,Inhabited
structure bE where
 Recv:aW
 End:Int
 deriving DecidableEq,Inhabited
structure aY where
 Window:Int
 Limit:Int
 Used:Int
 Read:Int
 deriving DecidableEq,Inhabited
structure aH where
 ID:Int
 Send:aN
 Recv:bE
 Out:aY
 In:aY
 Mine:Int
 Hers:Int
 deriving DecidableEq,Inhabited
structure iC where
 State:aW
 end_:Int
 deriving DecidableEq,Inhabited
structure xE where
 at_:Int
 s:(List UInt8)
 fin:Bool
 deriving DecidableEq,Inhabited
structure aDz where
 a:aH
 b:aH
 went:(List xE)
 wrote:(List UInt8)
 read:(List UInt8)
 given:Int
 end_:Bool
 deriving DecidableEq,Inhabited
def gF (a0:aY):Option Int :=
 bnd (decide (0≤a0.Read)) fun x1 =>
 bnd (decide (a0.Read≤a0.Used)) fun x2 =>
 bnd (x1&&x2) fun x3 =>
 bnd (decide (a0.Used≤a0.Limit)) fun x4 =>
 bnd (x3&&x4) fun x5 =>
 bnd (decide (a0.Limit≤1099511627776)) fun x6 =>
 bnd (x5&&x6) fun x7 =>
 bnd (decide (a0.Window<1)) fun x8 =>
 bnd ((!x7)||x8) fun x9 =>
 bnd (decide (1048576<a0.Window)) fun x10 =>
 bnd (x9||x10) fun x11 =>
 bif x11 then (
  some 8
 ) else (
   some 0
 )

def qY (a0:Int):Option (aY×Int) :=
 bno (gF (⟨a0,a0,0,0⟩:aY)) fun x1 =>
 bnd (!decide (x1=0)) fun x2 =>
 bif x2 then (
  some ((⟨0,0,0,0⟩:aY),x1)
 ) else (
   some ((⟨a0,a0,0,0⟩:aY),0)
 )

def aAe  : Option aW :=
 some (⟨0,[],[]⟩:aW)

def aBf  : Option bE :=
 bno (aAe) fun x1 =>
 some (⟨x1,(-1)⟩:bE)

def rQ (a0:Int) (a1:Int) (a2:Int):Option (aH×Int) :=
 bno (qY a1) fun x1 =>
 bno (qY a2) fun x2 =>
 bnd (!decide (x1.2=0)) fun x3 =>
 bnd (!decide (x2.2=0)) fun x4 =>
 bnd (x3||x4) fun x5 =>
 bnd (decide (4096<a2)) fun x6 =>
 bnd (x5||x6) fun x7 =>
 bnd (decide (a0<0)) fun x8 =>
 bnd (x7||x8) fun x9 =>
 bnd (decide (1048576<a0)) fun x10 =>
 bnd (x9||x10) fun x11 =>
 bif x11 then (
  some (((⟨0,(⟨0,[],0,[],[],false,false,false,false⟩:aN),(⟨(⟨0,[],[]⟩:aW),0⟩:bE),(⟨0,0,0,0⟩:aY),(⟨0,0,0,0⟩:aY),0,0⟩:aH),8))
 ) else (
   bno (aBc) fun x13 =>
   bno (aBf) fun x14 =>
   some (((⟨a0,x13,x14,x1.1,x2.1,(-1),(-1)⟩:aH),0))
 )

def qZ (a0:Int) (a1:Int) (a2:Int):Option Bool :=
 bnd (decide (a1≤a0)) fun x1 =>
 bnd (decide (a0≤a2)) fun x2 =>
 bnd (x1&&x2) fun x3 =>
 some x3

def pR (a0:aW):Option Int :=
 bnd (IntKind.wrap .i64 (a0.Base-(a0.Ready.length:Int))) fun x1 =>
 bnd (IntKind.wrap .i64 (x1+4096)) fun x2 =>
 bnd (min x2 1099511627776) fun x3 =>
 some x3

def fT (a0:aS):Option Int :=
 bnd (IntKind.wrap .i64 (a0.At+(a0.Data.length:Int))) fun x1 =>
 some x1

def iT (a0:aW) (x8:Int):Nat→Int→Int→Option Int
 | 0,_,_=>none
 | n0 + 1,v23,v24 =>
   bnd (decide (v24<(a0.Parts.length:Int))) fun x39 =>
   bif x39 then (
    bno (gix a0.Parts v24) fun x41 =>
    bnd (decide (x41.At≤v23)) fun x42 =>
    bnd (decide (x41.Data=([]:List UInt8))) fun x43 =>
    bnd (x42||x43) fun x44 =>
    bnd (decide (x8<x41.At)) fun x45 =>
    bnd (x44||x45) fun x46 =>
    bnd (IntKind.wrap .i64 (x8-x41.At)) fun x47 =>
    bnd (decide (x47<(x41.Data.length:Int))) fun x48 =>
    bnd (x46||x48) fun x49 =>
    bif x49 then (
     some 10
    ) else (
      bno (fT x41) fun x51 =>
      bnd (IntKind.wrap .i64 (v24+1)) fun x52 =>
      (iT a0 x8 n0) x51 x52
    )
   ) else (
     some 0
   )
def oN (a0:aW):Option Int :=
 bnd (decide (a0.Base<0)) fun x1 =>
 bnd (decide (1099511627776<a0.Base)) fun x2 =>
 bnd (x1||x2) fun x3 =>
 bnd (min a0.Base 4096) fun x4 =>
 bnd (decide (x4<(a0.Ready.length:Int))) fun x5 =>
 bnd (x3||x5) fun x6 =>
 bif x6 then (
  some 8
 ) else (
   bno (pR a0) fun x8 =>
   iT a0 x8 fuel a0.Base 0
 )

def pF (a0:bE):Option iC :=
 some (⟨a0.Recv,a0.End⟩:iC)

def jS (a0:iC):Option Int :=
 bnd (decide (0<(a0.State.Parts.length:Int))) fun x1 =>
 bif x1 then (
  bnd (IntKind.wrap .i64 ((a0.State.Parts.length:Int)-1)) fun x3 =>
  bno (gix a0.State.Parts x3) fun x4 =>
  bnd (IntKind.wrap .i64 ((a0.State.Parts.length:Int)-1)) fun x5 =>
  bno (gix a0.State.Parts x5) fun x6 =>
  bnd (IntKind.wrap .i64 (x4.At+(x6.Data.length:Int))) fun x7 =>
  some x7
 ) else (
   some a0.State.Base
 )

def qE (a0:bE):Option Int :=
 bno (pF a0) fun x1 =>
 bno (jS x1) fun x2 =>
 some x2

def oY (a0:bE):Option Int :=
 bno (oN a0.Recv) fun x1 =>
 bnd (!decide (x1=0)) fun x2 =>
 bif x2 then (
  some x1
 ) else (
   bnd (!decide (a0.End=(-1))) fun x4 =>
   bno (gd (x4 == true) (qE a0) default) fun x5 =>
   bnd (decide (a0.End<x5)) fun x6 =>
   bnd (decide (1099511627776<a0.End)) fun x7 =>
   bnd (x6||x7) fun x8 =>
   bnd (x4&&x8) fun x9 =>
   bif x9 then (
    some 8
   ) else (
     some 0
   )
 )

def nY (a0:aH):Option Int :=
 bno (gF a0.Out) fun x1 =>
 bnd (!decide (x1=0)) fun x2 =>
 bif x2 then (
  some x1
 ) else (
   bno (gF a0.In) fun x4 =>
   bnd (!decide (x4=0)) fun x5 =>
   bif x5 then (
    some x4
   ) else (
     bno (lQ a0.Send) fun x7 =>
     bnd (!decide (x7=0)) fun x8 =>
     bif x8 then (
      some x7
     ) else (
       bno (oY a0.Recv) fun x10 =>
       some x10
     )
   )
 )

def nZ (a0:aH):Option Bool :=
 bno (qE a0.Recv) fun x1 =>
 bnd (max a0.Recv.End x1) fun x2 =>
 bnd (IntKind.wrap .i64 (a0.Recv.Recv.Base-(a0.Recv.Recv.Ready.length:Int))) fun x3 =>
 bnd (decide (a0.Out.Used=a0.Send.Next)) fun x4 =>
 bnd (decide (a0.In.Used=x2)) fun x5 =>
 bnd (x4&&x5) fun x6 =>
 bnd (decide (a0.In.Read=x3)) fun x7 =>
 bnd (x6&&x7) fun x8 =>
 bnd (IntKind.wrap .i64 (x3+a0.In.Window)) fun x9 =>
 bnd (decide (a0.In.Limit≤x9)) fun x10 =>
 bnd (x8&&x10) fun x11 =>
 some x11

def nR (a0:aH):Option Int :=
 bno (qZ a0.ID 0 1048576) fun x1 =>
 bno (gd ((!x1) == false) (qZ a0.Mine (-1) 255) default) fun x2 =>
 bnd ((!x1)||(!x2)) fun x3 =>
 bno (gd (x3 == false) (qZ a0.Hers (-1) 255) default) fun x4 =>
 bnd (x3||(!x4)) fun x5 =>
 bnd (decide (4096<a0.In.Window)) fun x6 =>
 bnd (x5||x6) fun x7 =>
 bif x7 then (
  some 8
 ) else (
   bno (nY a0) fun x9 =>
   bnd (!decide (x9=0)) fun x10 =>
   bif x10 then (
    some x9
   ) else (
     bno (nZ a0) fun x12 =>
     bif (!x12) then (
      some 4
     ) else (
       some 0
     )
   )
 )

def mR (a0:aH):Option Bool :=
 bnd (!decide (a0.Mine=(-1))) fun x1 =>
 bnd (!decide (a0.Hers=(-1))) fun x2 =>
 bnd (x1||x2) fun x3 =>
 some x3

def eK (a0:aH):Option Int :=
 bno (nR a0) fun x1 =>
 bnd (!decide (x1=0)) fun x2 =>
 bif x2 then (
  some x1
 ) else (
   bno (mR a0) fun x4 =>
   bif x4 then (
    some 15
   ) else (
     some 0
   )
 )

def kT (a0:aH):Option Int :=
 bno (eK a0) fun x1 =>
 bnd (!decide (x1=0)) fun x2 =>
 bif x2 then (
  some x1
 ) else (
   bif a0.Send.Closed then (
    some 9
   ) else (
     some 0
   )
 )

def qU (a0:aH) (a1:(List UInt8)):Option (aH×Int×Int) :=
 bno (kT a0) fun x1 =>
 bnd (!decide (x1=0)) fun x2 =>
 bif x2 then (
  some (a0,0,x1)
 ) else (
   bno (sM a0.Send a1) fun x4 =>
   some ((⟨a0.ID,x4.1,a0.Recv,a0.Out,a0.In,a0.Mine,a0.Hers⟩:aH),x4.2,0)
 )

def gO (a0:aH) (a1:Int):Option Int :=
 bnd (IntKind.wrap .i64 (a0.Out.Limit-a0.Send.Next)) fun x1 =>
 bnd (min a1 x1) fun x2 =>
 bnd (IntKind.wrap .i64 (a0.Send.Next+x2)) fun x3 =>
 some x3

def sJ (a0:aH) (a1:Int) (a2:Int) (a3:Int):Option (aH×aI×(List UInt8)×Bool) :=
 bnd (decide (a3<0)) fun x1 =>
 bno (gd (x1 == false) (eK a0) default) fun x2 =>
 bnd (!decide (x2=0)) fun x3 =>
 bnd (x1||x3) fun x4 =>
 bif x4 then (
  some (a0,(⟨0,0,0,false⟩:aI),[],false)
 ) else (
   bno (gO a0 a3) fun x6 =>
   bno (nH a0.Send a1 a2 x6) fun x7 =>
   some ((⟨a0.ID,x7.1,a0.Recv,(⟨a0.Out.Window,a0.Out.Limit,x7.1.Next,a0.Out.Read⟩:aY),a0.In,a0.Mine,a0.Hers⟩:aH),x7.2.1,x7.2.2.1,x7.2.2.2)
 )

def qJ (a0:aY) (a1:Int):Option (aY×Int×Bool) :=
 bnd (decide (a1<0)) fun x1 =>
 bnd (decide (a0.Limit<a1)) fun x2 =>
 bnd (x1||x2) fun x3 =>
 bno (gd (x3 == false) (gF a0) default) fun x4 =>
 bnd (!decide (x4=0)) fun x5 =>
 bnd (x3||x5) fun x6 =>
 bif x6 then (
  some (a0,0,false)
 ) else (
   bnd (max a0.Used a1) fun x8 =>
   bnd (IntKind.wrap .i64 (x8-a0.Used)) fun x9 =>
   some ((⟨a0.Window,a0.Limit,x8,a0.Read⟩:aY),x9,true)
 )

def iY (a0:iC):Option Bool :=
 bnd (decide (0≤a0.end_)) fun x1 =>
 some x1

def kF (a0:iC) (a1:Int) (a2:Bool):Option Bool :=
 bno (iY a0) fun x1 =>
 bif x1 then (
  bnd (decide (a0.end_<a1)) fun x3 =>
  bnd (decide (a1<a0.end_)) fun x4 =>
  bnd (a2&&x4) fun x5 =>
  bnd (x3||x5) fun x6 =>
  some x6
 ) else (
   bno (gd (a2 == true) (jS a0) default) fun x7 =>
   bnd (decide (a1<x7)) fun x8 =>
   bnd (a2&&x8) fun x9 =>
   some x9
 )

def dD (a0:(List aS)):Option (List aS) :=
 aB2 a0 (
  some []
 ) (
   bno (app 24 ([]:(List aS)) a0) fun x3 =>
   some x3
 )

def kE (a0:aW):Nat→Int→Int→Option Int
 | 0,_,_=>none
 | n0+1,v6,v7 =>
   bnd (decide (v7<(a0.Parts.length:Int))) fun x13 =>
   bif x13 then (
    bno (gix a0.Parts v7) fun x15 =>
    bnd (IntKind.wrap .i64 (v6+(x15.Data.length:Int))) fun x16 =>
    bnd (IntKind.wrap .i64 (v7+1)) fun x17 =>
    (kE a0 n0) x16 x17
   ) else (
     some v6
   )
def qW (a0:aW):Option Int :=
 kE a0 fuel (a0.Ready.length:Int) 0

def lR (a0:(List aS)) (v10:(List aS)) (v102:Int) (v103:Int) (v104:(List UInt8)):Option (List aS) :=
 bno (app 24 v10 (([(⟨v103,v104⟩:aS)]:(List aS)))) fun x105 =>
 bno (cut a0 v102 (a0.length:Int)) fun x106 =>
 bno (app 24 x105 x106) fun x107 =>
 some x107
def gM (a0:(List aS)) (v10:(List aS)):Nat→Int→Int→(List UInt8)→Option (List aS)
 | 0,_,_,_=>none
 | n3 + 1,v131,v132,v133 =>
   bnd (decide (v131<(a0.length:Int))) fun x157 =>
   bif x157 then (
    bno (gix a0 v131) fun x159 =>
    bno (fT (⟨v132,v133⟩:aS)) fun x160 =>
    bnd (decide (x160<x159.At)) fun x161 =>
    bif x161 then (
     lR a0 v10 v131 v132 v133
    ) else (
      bnd (decide (x159.At≤v132)) fun x163 =>
      bif x163 then (
       bno (fT x159) fun x165 =>
       bnd (IntKind.wrap .i64 (x165-v132)) fun x166 =>
       bnd (min (v133.length:Int) x166) fun x167 =>
       bno (cut v133 x167 (v133.length:Int)) fun x168 =>
       bno (cat x159.Data x168) fun x169 =>
       bnd (IntKind.wrap .i64 (v131+1)) fun x170 =>
       (gM a0 v10 n3) x170 x159.At x169
      ) else (
        bnd (IntKind.wrap .i64 (x159.At-v132)) fun x171 =>
        bno (cut v133 0 x171) fun x172 =>
        bno (cat x172 x159.Data) fun x173 =>
        bno (fT x159) fun x174 =>
        bnd (IntKind.wrap .i64 (x174-v132)) fun x175 =>
        bnd (min (v133.length:Int) x175) fun x176 =>
        bno (cut v133 x176 (v133.length:Int)) fun x177 =>
        bno (cat x173 x177) fun x178 =>
        bnd (IntKind.wrap .i64 (v131+1)) fun x179 =>
        (gM a0 v10 n3) x179 v132 x178
      )
    )
   ) else (
     lR a0 v10 v131 v132 v133
   )
def iG (a0:(List aS)) (a1:aS):Nat→(List aS)→Int→Option (List aS)
 | 0,_,_=>none
 | n0+1,v10,v11 =>
   bnd (decide (v11<(a0.length:Int))) fun x21 =>
   bno (gd (x21 == true) (gix a0 v11) default) fun x22 =>
   bno (gd (x21 == true) (fT x22) default) fun x23 =>
   bnd (decide (x23<a1.At)) fun x24 =>
   bnd (x21&&x24) fun x25 =>
   bif x25 then (
    bno (gix a0 v11) fun x27 =>
    bno (app 24 v10 ([x27]:(List aS))) fun x28 =>
    bnd (IntKind.wrap .i64 (v11+1)) fun x29 =>
    (iG a0 a1 n0) x28 x29
   ) else (
     gM a0 v10 fuel v11 a1.At a1.Data
   )
def oW (a0:(List aS)) (a1:aS):Option (List aS) :=
 iG a0 a1 fuel ([]:(List aS)) 0

def dT (a0:Int) (a1:Int) (a2:(List aS)):Option (List aS):=delS a2 a0 a1

def oX (x24:Int) (v33:Int) (v34:(List UInt8)) (v35:(List aS)):Option (aW×Int) :=
 bno (qW (⟨v33,v34,v35⟩:aW)) fun x36 =>
 bnd (IntKind.wrap .i64 (x36-x24)) fun x37 =>
 some ((⟨v33,v34,v35⟩:aW),x37)
def kD (a0:aW) (x1:(List aS)) (v20:Int) (v21:(List UInt8)):Option (aW×Int) :=
 bnd (decide (v21=([]:List UInt8))) fun x22 =>
 bif x22 then (
  some ((⟨a0.Base,a0.Ready,x1⟩:aW),0)
 ) else (
   bno (qW (⟨a0.Base,a0.Ready,x1⟩:aW)) fun x24 =>
   bno (oW x1 (⟨v20,v21⟩:aS)) fun x25 =>
   bno (gix x25 0) fun x38 =>
   bno (x25[(0:Int).toNat]?) fun x39 =>
   bnd (decide (x39.At=a0.Base)) fun x40 =>
   bif x40 then (
    bno (fT x39) fun x42 =>
    bno (cat a0.Ready x39.Data) fun x43 =>
    bno (dT 0 1 x25) fun x44 =>
    oX x24 x42 x43 x44
   ) else (
     oX x24 a0.Base a0.Ready x25
   )
 )
def uM (a0:aW) (a1:Int) (a2:(List UInt8)):Option (aW×Int) :=
 bno (dD a0.Parts) fun x1 =>
 bnd (decide (a1<0)) fun x2 =>
 bnd (decide (1099511627776<a1)) fun x3 =>
 bnd (x2||x3) fun x4 =>
 bno (gd (x4 == false) (oN (⟨a0.Base,a0.Ready,x1⟩:aW)) default) fun x5 =>
 bnd (!decide (x5=0)) fun x6 =>
 bnd (x4||x6) fun x7 =>
 bif x7 then (
  some ((⟨a0.Base,a0.Ready,x1⟩:aW),0)
 ) else (
   bno (pR (⟨a0.Base,a0.Ready,x1⟩:aW)) fun x9 =>
   bnd (decide (x9≤a1)) fun x10 =>
   bif x10 then (
    some ((⟨a0.Base,a0.Ready,x1⟩:aW),0)
   ) else (
     bnd (IntKind.wrap .i64 (x9-a1)) fun x12 =>
     bnd (min (a2.length:Int) x12) fun x13 =>
     bno (cut a2 0 x13) fun x14 =>
     bnd (decide (a1<a0.Base)) fun x45 =>
     bif x45 then (
      bnd (IntKind.wrap .i64 (a0.Base-a1)) fun x47 =>
      bnd (min (x14.length:Int) x47) fun x48 =>
      bno (cut x14 x48 (x14.length:Int)) fun x49 =>
      kD a0 x1 a0.Base x49
     ) else (
       kD a0 x1 a1 x14
     )
   )
 )

def tK (x13:(aW×Int)) (v15:Int):Option (bE×Int×Int) :=
 some ((⟨x13.1,v15⟩:bE),x13.2,0)
def vG (a0:bE) (a1:Int) (a2:(List UInt8)) (a3:Bool):Option (bE×Int×Int) :=
 bnd (decide (a1<0)) fun x1 =>
 bnd (IntKind.wrap .i64 (1099511627776-(a2.length:Int))) fun x2 =>
 bnd (decide (x2<a1)) fun x3 =>
 bnd (x1||x3) fun x4 =>
 bno (gd (x4 == false) (oY a0) default) fun x5 =>
 bnd (!decide (x5=0)) fun x6 =>
 bnd (x4||x6) fun x7 =>
 bif x7 then (
  some (a0,0,2)
 ) else (
   bnd (IntKind.wrap .i64 (a1+(a2.length:Int))) fun x9 =>
   bno (pF a0) fun x10 =>
   bno (kF x10 x9 a3) fun x11 =>
   bif x11 then (
    some (a0,0,5)
   ) else (
     bno (uM a0.Recv a1 a2) fun x13 =>
     bif a3 then (
      tK x13 x9
     ) else (
       tK x13 a0.End
     )
   )
 )

def oL (a0:aH) (a1:Int) (a2:(List UInt8)) (a3:Bool):Option (aH×Int×Int) :=
 bno (eK a0) fun x1 =>
 bnd (!decide (x1=0)) fun x2 =>
 bnd (decide (a2=([]:List UInt8))) fun x3 =>
 bnd (x3&&(!a3)) fun x4 =>
 bnd (x2||x4) fun x5 =>
 bif x5 then (
  some (a0,0,0)
 ) else (
   bno (qZ a1 0 1099511627776) fun x7 =>
   bif (!x7) then (
    some (a0,0,3)
   ) else (
     bnd (IntKind.wrap .i64 (a1+(a2.length:Int))) fun x9 =>
     bno (qJ a0.In x9) fun x10 =>
     bif (!x10.2.2) then (
      some (a0,0,3)
     ) else (
       bno (vG a0.Recv a1 a2 a3) fun x12 =>
       bnd (!decide (x12.2.2=0)) fun x13 =>
       bif x13 then (
        some (a0,0,x12.2.2)
       ) else (
         some ((⟨a0.ID,a0.Send,x12.1,a0.Out,x10.1,a0.Mine,a0.Hers⟩:aH),x10.2.1,0)
       )
     )
   )
 )

def sQ (a0:aW) (a1:Int):Option (aW×(List UInt8)) :=
 bno (dD a0.Parts) fun x1 =>
 bnd (decide (a1<1)) fun x2 =>
 bno (gd (x2 == false) (oN (⟨a0.Base,a0.Ready,x1⟩:aW)) default) fun x3 =>
 bnd (!decide (x3=0)) fun x4 =>
 bnd (x2||x4) fun x5 =>
 bif x5 then (
  some ((⟨a0.Base,a0.Ready,x1⟩:aW),[])
 ) else (
   bnd (min a1 (a0.Ready.length:Int)) fun x7 =>
   bno (cut a0.Ready 0 x7) fun x8 =>
   bno (cut a0.Ready x7 (a0.Ready.length:Int)) fun x9 =>
   some ((⟨a0.Base,x9,x1⟩:aW),x8)
 )

def sR (a0:bE):Option Bool :=
 bno (pF a0) fun x1 =>
 bno (iY x1) fun x2 =>
 bnd (decide (x1.State.Base=x1.end_)) fun x3 =>
 bnd (x2&&x3) fun x4 =>
 bno (gd (x4 == true) (oY a0) default) fun x5 =>
 bnd (decide (x5=0)) fun x6 =>
 bnd (x4&&x6) fun x7 =>
 some x7

def pS (a0:bE):Option Bool :=
 bnd (decide (a0.Recv.Ready=([]:List UInt8))) fun x1 =>
 bno (gd (x1 == true) (sR a0) default) fun x2 =>
 bnd (x1&&x2) fun x3 =>
 some x3

def xI (a0:bE) (a1:Int):Option (bE×(List UInt8)×Bool) :=
 bno (sQ a0.Recv a1) fun x1 =>
 bno (pS (⟨x1.1,a0.End⟩:bE)) fun x2 =>
 some ((⟨x1.1,a0.End⟩:bE),x1.2,x2)

def tE (a0:aY) (a1:Int):Option aY :=
 bno (gF a0) fun x1 =>
 bnd (decide (x1=0)) fun x2 =>
 bnd (decide (0<a1)) fun x3 =>
 bnd (x2&&x3) fun x4 =>
 bif x4 then (
  bnd (IntKind.wrap .i64 (a0.Used-a0.Read)) fun x6 =>
  bnd (min a1 x6) fun x7 =>
  bnd (IntKind.wrap .i64 (a0.Read+x7)) fun x8 =>
  some (⟨a0.Window,a0.Limit,a0.Used,x8⟩:aY)
 ) else (
   some a0
 )

def rC (a0:aH) (a1:Int):Option (aH×(List UInt8)×Bool×Int) :=
 bno (eK a0) fun x1 =>
 bnd (!decide (x1=0)) fun x2 =>
 bif x2 then (
  some (a0,[],false,x1)
 ) else (
   bno (xI a0.Recv a1) fun x4 =>
   bno (tE a0.In (x4.2.1.length:Int)) fun x5 =>
   some ((⟨a0.ID,a0.Send,x4.1,a0.Out,x5,a0.Mine,a0.Hers⟩:aH),x4.2.1,x4.2.2,0)
 )

def oU (a0:aH):Option Int :=
 bnd (decide (0≤a0.Recv.End)) fun x1 =>
 bif x1 then (
  some 3
 ) else (
   some 2
 )

def qK (a0:aY):Option (aY×Int) :=
 bno (gF a0) fun x1 =>
 bnd (!decide (x1=0)) fun x2 =>
 bif x2 then (
  some (a0,0)
 ) else (
   bnd (IntKind.wrap .i64 (a0.Read+a0.Window)) fun x4 =>
   bnd (min x4 1099511627776) fun x5 =>
   bnd (IntKind.wrap .i64 (x5-a0.Limit)) fun x6 =>
   bno (quoI .i64 a0.Window 2) fun x7 =>
   bnd (max 1 x7) fun x8 =>
   bnd (decide (x6<x8)) fun x9 =>
   bif x9 then (
    some (a0,0)
   ) else (
     bnd (IntKind.wrap .i64 (a0.Limit+x6)) fun x11 =>
     some ((⟨a0.Window,x11,a0.Used,a0.Read⟩:aY),x6)
   )
 )

def pY (a0:aH) (a1:Int):Option (aH×Int) :=
 bno (oU a0) fun x1 =>
 bnd (decide (x1=2)) fun x2 =>
 bif x2 then (
  bno (qK a0.In) fun x4 =>
  some ((⟨a0.ID,a0.Send,a0.Recv,a0.Out,x4.1,a0.Mine,a0.Hers⟩:aH),x4.2)
 ) else (
   some (a0,a1)
 )

def iA (a0:aH) (a1:Int):Option (aH×Int) :=
 bno (eK a0) fun x1 =>
 bnd (decide (x1=0)) fun x2 =>
 bif x2 then (
  bno (pY a0 a1) fun x4 =>
  some (x4.1,x4.2)
 ) else (
   some (a0,a1)
 )

def pP (a0:aH):Option (aH×Int) :=
 bno (iA a0 0) fun x1 =>
 some (x1.1,x1.2)

def sH (a0:Int):Option Bool :=
 bno (qZ a0 0 255) fun x1 =>
 some x1

def oT (a0:aH) (a1:Int):Option aH :=
 bnd (decide (a0.Hers=(-1))) fun x1 =>
 bno (gd (x1 == true) (sH a1) default) fun x2 =>
 bnd (x1&&x2) fun x3 =>
 bno (gd (x3 == true) (nR a0) default) fun x4 =>
 bnd (decide (x4=0)) fun x5 =>
 bnd (x3&&x5) fun x6 =>
 bif x6 then (
  some (⟨a0.ID,a0.Send,a0.Recv,a0.Out,a0.In,a0.Mine,a1⟩:aH)
 ) else (
   some a0
 )

def qL (a0:aY) (a1:Int):Option (aY×Bool) :=
 bnd (decide (a1<1)) fun x1 =>
 bno (gd (x1 == false) (gF a0) default) fun x2 =>
 bnd (!decide (x2=0)) fun x3 =>
 bnd (x1||x3) fun x4 =>
 bnd (IntKind.wrap .i64 (1099511627776-a0.Limit)) fun x5 =>
 bnd (decide (x5<a1)) fun x6 =>
 bnd (x4||x6) fun x7 =>
 bif x7 then (
  some (a0,false)
 ) else (
   bnd (IntKind.wrap .i64 (a0.Limit+a1)) fun x9 =>
   some ((⟨a0.Window,x9,a0.Used,a0.Read⟩:aY),true)
 )

def nP (a0:aH) (a1:Int) (a2:Int):Option (aH×Int) :=
 bno (qL a0.Out a1) fun x1 =>
 bif (!x1.2) then (
  some ((⟨a0.ID,a0.Send,a0.Recv,x1.1,a0.In,a0.Mine,a0.Hers⟩:aH),3)
 ) else (
   some ((⟨a0.ID,a0.Send,a0.Recv,x1.1,a0.In,a0.Mine,a0.Hers⟩:aH),a2)
 )

def gI (a0:aH) (a1:Int) (a2:Int):Option (aH×Int) :=
 bno (eK a0) fun x1 =>
 bnd (decide (x1=0)) fun x2 =>
 bif x2 then (
  bno (nP a0 a1 a2) fun x4 =>
  some (x4.1,x4.2)
 ) else (
   some (a0,a2)
 )

def nQ (a0:aH) (a1:Int):Option (aH×Int) :=
 bno (gI a0 a1 0) fun x1 =>
 some (x1.1,x1.2)

def rD (a0:aH):Option Bool :=
 bno (mR a0) fun x1 =>
 bno (gd (x1 == false) (pS a0.Recv) default) fun x2 =>
 bno (gd ((x1 == false)&&(x2 == true)) (aAb a0.Send) default) fun x3 =>
 bnd (x2&&x3) fun x4 =>
 bnd (x1||x4) fun x5 =>
 some x5

def rA (a0:aH) (a1:Int):Option Bool :=
 bnd (decide (0≤a1)) fun x1 =>
 bno (gd (x1 == true) (eK a0) default) fun x2 =>
 bnd (decide (x2=0)) fun x3 =>
 bnd (x1&&x3) fun x4 =>
 bno (gd (x4 == true) (gO a0 a1) default) fun x5 =>
 bno (gd (x4 == true) (uH a0.Send x5) default) fun x6 =>
 bnd (x4&&x6) fun x7 =>
 some x7

def cO (a0:(List aS)) (a1:(List aS)):Nat→Int→Option Bool
 | 0,_=>none
 | n0 + 1,v10 =>
   bnd (decide (v10<(a0.length:Int))) fun x18 =>
   bif x18 then (
    bno (gix a0 v10) fun x20 =>
    bno (gix a1 v10) fun x21 =>
    bnd ((decide (x20.At=x21.At)&&(decide (x20.Data=x21.Data)&&true))) fun x22 =>
    bif (!x22) then (
     some false
    ) else (
      bnd (IntKind.wrap .i64 (v10+1)) fun x24 =>
      (cO a0 a1 n0) x24
    )
   ) else (
     some true
   )
def eJ (a0:(List aS)) (a1:(List aS)):Option Bool :=
 bnd (!decide ((a0.length:Int)=(a1.length:Int))) fun x1 =>
 bif x1 then (
  some false
 ) else (
   cO a0 a1 fuel 0
 )

def sP (a0:aW) (a1:aW):Option Bool :=
 bnd (decide (a0.Base=a1.Base)) fun x1 =>
 bnd (decide (a0.Ready=a1.Ready)) fun x2 =>
 bnd (x1&&x2) fun x3 =>
 bno (gd (x3 == true) (eJ a0.Parts a1.Parts) default) fun x4 =>
 bnd (x3&&x4) fun x5 =>
 some x5

def uP (a0:bE) (a1:bE):Option Bool :=
 bnd (decide (a0.End=a1.End)) fun x1 =>
 bno (gd (x1 == true) (sP a0.Recv a1.Recv) default) fun x2 =>
 bnd (x1&&x2) fun x3 =>
 some x3

def qC (a0:aH) (a1:aH):Option Bool :=
 bno (uI a0.Send a1.Send) fun x1 =>
 bno (gd ((!x1) == false) (uP a0.Recv a1.Recv) default) fun x2 =>
 bnd ((!x1)||(!x2)) fun x3 =>
 bif x3 then (
  some false
 ) else (
   bnd (decide (a0.ID=a1.ID)) fun x5 =>
   bnd ((decide (a0.Out.Window=a1.Out.Window)&&(decide (a0.Out.Limit=a1.Out.Limit)&&(decide (a0.Out.Used=a1.Out.Used)&&(decide (a0.Out.Read=a1.Out.Read)&&true))))) fun x6 =>
   bnd (x5&&x6) fun x7 =>
   bnd ((decide (a0.In.Window=a1.In.Window)&&(decide (a0.In.Limit=a1.In.Limit)&&(decide (a0.In.Used=a1.In.Used)&&(decide (a0.In.Read=a1.In.Read)&&true))))) fun x8 =>
   bnd (x7&&x8) fun x9 =>
   bnd (decide (a0.Mine=a1.Mine)) fun x10 =>
   bnd (x9&&x10) fun x11 =>
   bnd (decide (a0.Hers=a1.Hers)) fun x12 =>
   bnd (x11&&x12) fun x13 =>
   some x13
 )

def lO  : Option Bool :=
 bno (rQ 1 10 10) fun x1 =>
 bno (qU x1.1 [104,101,108,108,111]) fun x2 =>
 bno (sJ x2.1 0 3 99) fun x3 =>
 bno (rQ 1 10 10) fun x4 =>
 bno (oL x4.1 0 x3.2.2.1 false) fun x5 =>
 bno (oL x5.1 9 [120,121] false) fun x6 =>
 bno (rC x5.1 9) fun x7 =>
 bno (pP x7.1) fun x8 =>
 bno (oT x8.1 8) fun x9 =>
 bno (pP x9) fun x10 =>
 bno (rC x10.1 1) fun x11 =>
 bno (nQ x3.1 0) fun x12 =>
 bno (rQ 1 10 4097) fun x13 =>
 bnd (decide (x1.2=0)) fun x14 =>
 bnd (decide (x2.2.1=5)) fun x15 =>
 bnd (x14&&x15) fun x16 =>
 bnd (decide (x2.2.2=0)) fun x17 =>
 bnd (x16&&x17) fun x18 =>
 bnd (x18&&x3.2.2.2) fun x19 =>
 bnd (decide (x3.2.1.To=3)) fun x20 =>
 bnd (x19&&x20) fun x21 =>
 bnd (decide (x3.2.2.1=([104,101,108]:List UInt8))) fun x22 =>
 bnd (x21&&x22) fun x23 =>
 bnd (decide (x3.1.Out.Used=3)) fun x24 =>
 bnd (x23&&x24) fun x25 =>
 bnd (decide (x4.2=0)) fun x26 =>
 bnd (x25&&x26) fun x27 =>
 bnd (decide (x5.2.1=3)) fun x28 =>
 bnd (x27&&x28) fun x29 =>
 bnd (decide (x5.2.2=0)) fun x30 =>
 bnd (x29&&x30) fun x31 =>
 bnd (decide (x6.2.2=3)) fun x32 =>
 bnd (x31&&x32) fun x33 =>
 bnd (decide (x7.2.1=([104,101,108]:List UInt8))) fun x34 =>
 bnd (x33&&x34) fun x35 =>
 bnd (x35&&(!x7.2.2.1)) fun x36 =>
 bnd (decide (x7.2.2.2=0)) fun x37 =>
 bnd (x36&&x37) fun x38 =>
 bnd (decide (x8.2=0)) fun x39 =>
 bnd (x38&&x39) fun x40 =>
 bnd (decide (x10.2=0)) fun x41 =>
 bnd (x40&&x41) fun x42 =>
 bnd (decide (x11.2.2.2=15)) fun x43 =>
 bnd (x42&&x43) fun x44 =>
 bnd (decide (x12.2=3)) fun x45 =>
 bnd (x44&&x45) fun x46 =>
 bno (gd (x46 == true) (rD x10.1) default) fun x47 =>
 bnd (x46&&x47) fun x48 =>
 bno (gd (x48 == true) (rD x8.1) default) fun x49 =>
 bnd (x48&&(!x49)) fun x50 =>
 bno (gd (x50 == true) (oU x8.1) default) fun x51 =>
 bnd (decide (x51=2)) fun x52 =>
 bnd (x50&&x52) fun x53 =>
 bno (gd (x53 == true) (rA x3.1 1) default) fun x54 =>
 bnd (x53&&x54) fun x55 =>
 bno (gd (x55 == true) (rA x3.1 0) default) fun x56 =>
 bnd (x55&&(!x56)) fun x57 =>
 bnd (decide (x13.2=8)) fun x58 =>
 bnd (x57&&x58) fun x59 =>
 bno (gd (x59 == true) (nR x8.1) default) fun x60 =>
 bnd (decide (x60=0)) fun x61 =>
 bnd (x59&&x61) fun x62 =>
 bno (gd (x62 == true) (qC x8.1 x7.1) default) fun x63 =>
 bnd (x62&&x63) fun x64 =>
 bno (gd (x64 == true) (qC x8.1 x10.1) default) fun x65 =>
 bnd (x64&&(!x65)) fun x66 =>
 bnd (bif x66 then true else false) fun x67 =>
 bnd (bif x67 then true else false) fun x68 =>
 bnd (bif x68 then true else false) fun x69 =>
 bnd (bif x69 then true else false) fun x70 =>
 some x70

def sK (a0:aH):Option (aH×Int) :=
 bno (kT a0) fun x1 =>
 bnd (!decide (x1=0)) fun x2 =>
 bif x2 then (
  some (a0,x1)
 ) else (
   bno (sN a0.Send) fun x4 =>
   some ((⟨a0.ID,x4,a0.Recv,a0.Out,a0.In,a0.Mine,a0.Hers⟩:aH),0)
 )

def pC (a0:aH) (a1:Int) (a2:Bool):Option aH :=
 bno (uL a0.Send a1 a2) fun x1 =>
 some (⟨a0.ID,x1,a0.Recv,a0.Out,a0.In,a0.Mine,a0.Hers⟩:aH)

def gR (a0:aH) (a1:Int) (a2:Bool):Option aH :=
 bno (eK a0) fun x1 =>
 bnd (decide (x1=0)) fun x2 =>
 bif x2 then (
  bno (pC a0 a1 a2) fun x4 =>
  some x4
 ) else (
   some a0
 )

def rE (a0:aH) (a1:Int) (a2:Bool):Option aH :=
 bno (gR a0 a1 a2) fun x1 =>
 some x1

def uF (a0:aH) (a1:Int):Option aH :=
 bno (nR a0) fun x1 =>
 bnd (decide (x1=0)) fun x2 =>
 bif x2 then (
  bno (uK a0.Send a1) fun x4 =>
  some (⟨a0.ID,x4,a0.Recv,a0.Out,a0.In,a0.Mine,a0.Hers⟩:aH)
 ) else (
   some a0
 )

def pX (a0:aH) (a1:Int):Option aH :=
 bno (sH a1) fun x1 =>
 bif x1 then (
  some (⟨a0.ID,a0.Send,a0.Recv,a0.Out,a0.In,a1,a0.Hers⟩:aH)
 ) else (
   some a0
 )

def hG (a0:aH) (a1:Int):Option aH :=
 bno (eK a0) fun x1 =>
 bnd (decide (x1=0)) fun x2 =>
 bif x2 then (
  bno (pX a0 a1) fun x4 =>
  some x4
 ) else (
   some a0
 )

def sI (a0:aH) (a1:Int):Option aH :=
 bno (hG a0 a1) fun x1 =>
 some x1

end Go.Fn
abbrev Prod.e {a b c d e:Type} (x:a×b×c×d×e):e:=x.2.2.2.2
abbrev Prod.f {a b c d e f g h i j k l m n o p q:Type} (x:a×b×c×d×e×f×g×h×i×j×k×l×m×n×o×p×q):q:=x.2.2.2.2.2.2.2.2.2.2.2.2.2.2.2.2
open Go Go.IL
namespace Go.Fn


end Go.Fn
open Go Go.IL
namespace Go.Fn
structure tW where
 c0:Int
 c1:Int
 c2:Int
 deriving DecidableEq,Inhabited
def aGN:Enc tW:=⟨⟨fun x=>.agg [.int .i64 x.c0,.int .i64 x.c1,.int .i64 x.c2],3,by decide,fun _=>⟨rfl,rfl⟩⟩,fun _=>rfl⟩

structure dC where
 Kind:Int
 Text:(List UInt8)
 N:Int
 M:Int
 Flag:Bool
 deriving DecidableEq,Inhabited
def cQ:Enc dC:=⟨⟨fun x=>.agg [.int .u8 x.Kind,.str x.Text,.int .i64 x.N,.int .i64 x.M,.bool x.Flag],5,by decide,fun _=>⟨rfl,rfl⟩⟩,fun _=>rfl⟩

structure bL where
 N:Int
 Code:Int
 Text:(List UInt8)
 End:Bool
 P:aI
 deriving DecidableEq,Inhabited
def fQ (a0:(List dC)):Nat→Int→Option Int
 | 0,_=>none
 | n0 + 1,v9 =>
   bnd (decide (v9<(a0.length:Int))) fun x16 =>
   bif x16 then (
    bno (gix a0 v9) fun x18 =>
    bnd (decide (200<(x18.Text.length:Int))) fun x19 =>
    bif x19 then (
     some 1
    ) else (
      bnd (IntKind.wrap .i64 (v9+1)) fun x21 =>
      (fQ a0 n0) x21
    )
   ) else (
     some 0
   )
def nD (a0:(List dC)) (a1:Int):Option Int :=
 bnd (decide (a1<(a0.length:Int))) fun x1 =>
 bif x1 then (
  some 1
 ) else (
   fQ a0 fuel 0
 )

def dM (a0:aY):Option Int :=
 bnd (decide (a0.Window<1)) fun x1 =>
 bnd (decide (1048576<a0.Window)) fun x2 =>
 bnd (x1||x2) fun x3 =>
 bnd (decide (a0.Limit<0)) fun x4 =>
 bnd (x3||x4) fun x5 =>
 bnd (decide (1099511627776<a0.Limit)) fun x6 =>
 bnd (x5||x6) fun x7 =>
 bnd (decide (a0.Used<0)) fun x8 =>
 bnd (x7||x8) fun x9 =>
 bnd (decide (a0.Limit<a0.Used)) fun x10 =>
 bnd (x9||x10) fun x11 =>
 bnd (decide (a0.Read<0)) fun x12 =>
 bnd (x11||x12) fun x13 =>
 bnd (decide (a0.Used<a0.Read)) fun x14 =>
 bnd (x13||x14) fun x15 =>
 bif x15 then (
  some 8
 ) else (
   some 0
 )

def lG (a0:Int):Option (aY×Int) :=
 bno (dM (⟨a0,a0,0,0⟩:aY)) fun x1 =>
 bnd (!decide (x1=0)) fun x2 =>
 bif x2 then (
  some ((⟨0,0,0,0⟩:aY),8)
 ) else (
   some ((⟨a0,a0,0,0⟩:aY),0)
 )

def nA  : Option bE :=
 some ((⟨(⟨0,[],[]⟩:aW),(-1)⟩:bE))

def mZ (a0:Int) (a1:Int) (a2:Int):Option (aH×Int) :=
 bno (lG a1) fun x1 =>
 bno (lG a2) fun x2 =>
 bno (nA) fun x3 =>
 bnd (decide (a0<0)) fun x4 =>
 bnd (decide (1048576<a0)) fun x5 =>
 bnd (x4||x5) fun x6 =>
 bnd (!decide (x1.2=0)) fun x7 =>
 bnd (x6||x7) fun x8 =>
 bnd (!decide (x2.2=0)) fun x9 =>
 bnd (x8||x9) fun x10 =>
 bnd (decide (4096<a2)) fun x11 =>
 bnd (x10||x11) fun x12 =>
 bif x12 then (
  some (((⟨0,(⟨0,[],0,[],[],false,false,false,false⟩:aN),(⟨(⟨0,[],[]⟩:aW),0⟩:bE),(⟨0,0,0,0⟩:aY),(⟨0,0,0,0⟩:aY),0,0⟩:aH),8))
 ) else (
   some (((⟨a0,(⟨0,[],0,[],[],false,false,false,false⟩:aN),x3,x1.1,x2.1,(-1),(-1)⟩:aH),0))
 )

def fB (a0:(List aG)):Nat→(List aG)→Int→Option (List aG)
 | 0,_,_=>none
 | n0+1,v6,v7 =>
   bnd (decide (v7<(a0.length:Int))) fun x13 =>
   bif x13 then (
    bno (gix a0 v7) fun x15 =>
    bno (app 16 v6 (([(⟨x15.From,x15.To⟩:aG)]:(List aG)))) fun x16 =>
    bnd (IntKind.wrap .i64 (v7+1)) fun x17 =>
    (fB a0 n0) x16 x17
   ) else (
     some v6
   )
def oI (a0:(List aG)):Option (List aG) :=
 fB a0 fuel ([]:(List aG)) 0

def fA (a0:aN) (x1:(List aG)):Nat→Int→(List aI)→Option aN
 | 0,_,_=>none
 | n0+1,v7,v8 =>
   bnd (decide (v7<(a0.Pieces.length:Int))) fun x14 =>
   bif x14 then (
    bno (gix a0.Pieces v7) fun x16 =>
    bno (app 32 v8 ([x16]:(List aI))) fun x17 =>
    bnd (IntKind.wrap .i64 (v7+1)) fun x18 =>
    (fA a0 x1 n0) x18 x17
   ) else (
     some (⟨a0.Base,a0.Data,a0.Next,v8,x1,a0.Closed,a0.Sent,a0.Again,a0.Done⟩:aN)
   )
def mP (a0:aN):Option aN :=
 bno (oI a0.Lost) fun x1 =>
 fA a0 x1 fuel 0 ([]:(List aI))

def eF (a0:aW):Nat→Int→(List aS)→Option aW
 | 0,_,_=>none
 | n0+1,v6,v7 =>
   bnd (decide (v6<(a0.Parts.length:Int))) fun x13 =>
   bif x13 then (
    bno (gix a0.Parts v6) fun x15 =>
    bno (app 24 v7 ([x15]:(List aS))) fun x16 =>
    bnd (IntKind.wrap .i64 (v6+1)) fun x17 =>
    (eF a0 n0) x17 x16
   ) else (
     some (⟨a0.Base,a0.Ready,v7⟩:aW)
   )
def oH (a0:aW):Option aW :=
 eF a0 fuel 0 ([]:(List aS))

def mO (a0:bE):Option bE :=
 bno (oH a0.Recv) fun x1 =>
 some (⟨x1,a0.End⟩:bE)

def jQ (a0:aH):Option aH :=
 bno (mP a0.Send) fun x1 =>
 bno (mO a0.Recv) fun x2 =>
 some (⟨a0.ID,x1,x2,a0.Out,a0.In,a0.Mine,a0.Hers⟩:aH)

def eZ (a0:(List aG)) (a1:(List aG)):Nat→Int→Option Bool
 | 0,_=>none
 | n0 + 1,v10 =>
   bnd (decide (v10<(a0.length:Int))) fun x18 =>
   bif x18 then (
    bno (gix a0 v10) fun x20 =>
    bno (gix a1 v10) fun x21 =>
    bnd ((decide (x20.From=x21.From)&&(decide (x20.To=x21.To)&&true))) fun x22 =>
    bif (!x22) then (
     some false
    ) else (
      bnd (IntKind.wrap .i64 (v10+1)) fun x24 =>
      (eZ a0 a1 n0) x24
    )
   ) else (
     some true
   )
def oG (a0:(List aG)) (a1:(List aG)):Option Bool :=
 bnd (!decide ((a0.length:Int)=(a1.length:Int))) fun x1 =>
 bif x1 then (
  some false
 ) else (
   eZ a0 a1 fuel 0
 )

def eU (a0:aN) (a1:aN):Nat→Int→Option Bool
 | 0,_=>none
 | n0 + 1,v10 =>
   bnd (decide (v10<(a0.Pieces.length:Int))) fun x18 =>
   bif x18 then (
    bno (gix a0.Pieces v10) fun x20 =>
    bno (gix a1.Pieces v10) fun x21 =>
    bnd ((decide (x20.From=x21.From)&&(decide (x20.To=x21.To)&&(decide (x20.Path=x21.Path)&&((x20.Fin == x21.Fin)&&true))))) fun x22 =>
    bif (!x22) then (
     some false
    ) else (
      bnd (IntKind.wrap .i64 (v10+1)) fun x24 =>
      (eU a0 a1 n0) x24
    )
   ) else (
     bnd (decide (a0.Base=a1.Base)) fun x25 =>
     bnd (decide (a0.Data=a1.Data)) fun x26 =>
     bnd (x25&&x26) fun x27 =>
     bnd (decide (a0.Next=a1.Next)) fun x28 =>
     bnd (x27&&x28) fun x29 =>
     bno (gd (x29 == true) (oG a0.Lost a1.Lost) default) fun x30 =>
     bnd (x29&&x30) fun x31 =>
     bnd (a0.Closed == a1.Closed) fun x32 =>
     bnd (x31&&x32) fun x33 =>
     bnd (a0.Sent == a1.Sent) fun x34 =>
     bnd (x33&&x34) fun x35 =>
     bnd (a0.Again == a1.Again) fun x36 =>
     bnd (x35&&x36) fun x37 =>
     bnd (a0.Done == a1.Done) fun x38 =>
     bnd (x37&&x38) fun x39 =>
     some x39
   )
def oC (a0:aN) (a1:aN):Option Bool :=
 bnd (!decide ((a0.Pieces.length:Int)=(a1.Pieces.length:Int))) fun x1 =>
 bif x1 then (
  some false
 ) else (
   eU a0 a1 fuel 0
 )

def eW (a0:aW) (a1:aW):Nat→Int→Option Bool
 | 0,_=>none
 | n0 + 1,v10 =>
   bnd (decide (v10<(a0.Parts.length:Int))) fun x18 =>
   bif x18 then (
    bno (gix a0.Parts v10) fun x20 =>
    bno (gix a1.Parts v10) fun x21 =>
    bnd ((decide (x20.At=x21.At)&&(decide (x20.Data=x21.Data)&&true))) fun x22 =>
    bif (!x22) then (
     some false
    ) else (
      bnd (IntKind.wrap .i64 (v10+1)) fun x24 =>
      (eW a0 a1 n0) x24
    )
   ) else (
     bnd (decide (a0.Base=a1.Base)) fun x25 =>
     bnd (decide (a0.Ready=a1.Ready)) fun x26 =>
     bnd (x25&&x26) fun x27 =>
     some x27
   )
def oF (a0:aW) (a1:aW):Option Bool :=
 bnd (!decide ((a0.Parts.length:Int)=(a1.Parts.length:Int))) fun x1 =>
 bif x1 then (
  some false
 ) else (
   eW a0 a1 fuel 0
 )

def mH (a0:bE) (a1:bE):Option Bool :=
 bno (oF a0.Recv a1.Recv) fun x1 =>
 bnd (decide (a0.End=a1.End)) fun x2 =>
 bnd (x1&&x2) fun x3 =>
 some x3

def fG (a0:aH) (a1:aH):Option Bool :=
 bnd (decide (a0.ID=a1.ID)) fun x1 =>
 bno (gd (x1 == true) (oC a0.Send a1.Send) default) fun x2 =>
 bnd (x1&&x2) fun x3 =>
 bno (gd (x3 == true) (mH a0.Recv a1.Recv) default) fun x4 =>
 bnd (x3&&x4) fun x5 =>
 bnd ((decide (a0.Out.Window=a1.Out.Window)&&(decide (a0.Out.Limit=a1.Out.Limit)&&(decide (a0.Out.Used=a1.Out.Used)&&(decide (a0.Out.Read=a1.Out.Read)&&true))))) fun x6 =>
 bnd (x5&&x6) fun x7 =>
 bnd ((decide (a0.In.Window=a1.In.Window)&&(decide (a0.In.Limit=a1.In.Limit)&&(decide (a0.In.Used=a1.In.Used)&&(decide (a0.In.Read=a1.In.Read)&&true))))) fun x8 =>
 bnd (x7&&x8) fun x9 =>
 bnd (decide (a0.Mine=a1.Mine)) fun x10 =>
 bnd (x9&&x10) fun x11 =>
 bnd (decide (a0.Hers=a1.Hers)) fun x12 =>
 bnd (x11&&x12) fun x13 =>
 some x13

def mS (a0 : aH) (a1 : dC):Option (aH×bL) :=
 bno (remI a1.Kind 10) fun x1 =>
 bnd (decide (x1=0)) fun x2 =>
 bif x2 then (
  bno (qU a0 a1.Text) fun x4 =>
  some (x4.1,(⟨x4.2.1,x4.2.2,[],false,(⟨0,0,0,false⟩:aI)⟩:bL))
 ) else (
   bnd (decide (x1=1)) fun x5 =>
   bif x5 then (
    bno (sK a0) fun x7 =>
    some (x7.1,(⟨0,x7.2,[],false,(⟨0,0,0,false⟩:aI)⟩:bL))
   ) else (
     bnd (decide (x1=2)) fun x8 =>
     bif x8 then (
      bno (rC a0 a1.N) fun x10 =>
      some (x10.1,(⟨0,x10.2.2.2,x10.2.1,x10.2.2.1,(⟨0,0,0,false⟩:aI)⟩:bL))
     ) else (
       bnd (decide (x1=3)) fun x11 =>
       bif x11 then (
        bno (pP a0) fun x13 =>
        some (x13.1,(⟨x13.2,0,[],false,(⟨0,0,0,false⟩:aI)⟩:bL))
       ) else (
         bnd (decide (x1=4)) fun x14 =>
         bif x14 then (
          bno (oL a0 a1.N a1.Text a1.Flag) fun x16 =>
          bnd (IntKind.wrap .i64 x16.2.2) fun x17 =>
          some (x16.1,(⟨x16.2.1,x17,[],false,(⟨0,0,0,false⟩:aI)⟩:bL))
         ) else (
           bnd (decide (x1=5)) fun x18 =>
           bif x18 then (
            bno (nQ a0 a1.N) fun x20 =>
            bnd (IntKind.wrap .i64 x20.2) fun x21 =>
            some (x20.1,(⟨0,x21,[],false,(⟨0,0,0,false⟩:aI)⟩:bL))
           ) else (
             bnd (decide (x1=6)) fun x22 =>
             bif x22 then (
              bno (rE a0 a1.N a1.Flag) fun x24 =>
              some (x24,(⟨0,0,[],false,(⟨0,0,0,false⟩:aI)⟩:bL))
             ) else (
               bnd (decide (x1=7)) fun x25 =>
               bif x25 then (
                bno (sJ a0 a1.N a1.M a1.M) fun x27 =>
                some (x27.1,(⟨0,0,x27.2.2.1,x27.2.2.2,x27.2.1⟩:bL))
               ) else (
                 bnd (decide (x1=8)) fun x28 =>
                 bif x28 then (
                  bno (uF a0 a1.N) fun x30 =>
                  some (x30,(⟨0,0,[],false,(⟨0,0,0,false⟩:aI)⟩:bL))
                 ) else (
                   bnd (decide (a1.M=9)) fun x31 =>
                   bif x31 then (
                    bno (sI a0 a1.N) fun x33 =>
                    some (x33,(⟨0,0,[],false,(⟨0,0,0,false⟩:aI)⟩:bL))
                   ) else (
                     bnd (decide (a1.M=8)) fun x34 =>
                     bif x34 then (
                      bno (oT a0 a1.N) fun x36 =>
                      some (x36,(⟨0,0,[],false,(⟨0,0,0,false⟩:aI)⟩:bL))
                     ) else (
                       some (a0,(⟨0,0,[],false,(⟨0,0,0,false⟩:aI)⟩:bL))
                     )
                   )
                 )
               )
             )
           )
         )
       )
     )
   )
 )

def nV (a0:Int):Option Bool :=
 bnd (decide (0≤a0)) fun x1 =>
 bnd (decide (a0≤4611686018427387903)) fun x2 =>
 bnd (x1&&x2) fun x3 =>
 some x3

def jF (a0:aG):Option Bool :=
 bno (nV a0.From) fun x1 =>
 bno (gd (x1 == true) (nV a0.To) default) fun x2 =>
 bnd (x1&&x2) fun x3 =>
 some x3

def dV (a0:(List aG)):Nat→Int→Option Int
 | 0,_=>none
 | n2 + 1,v50 =>
   bnd (decide (v50<(a0.length:Int))) fun x59 =>
   bif x59 then (
    bno (gix a0 v50) fun x61 =>
    bnd (IntKind.wrap .i64 (v50-1)) fun x62 =>
    bno (gix a0 x62) fun x63 =>
    bnd (decide (x61.From≤x63.To)) fun x64 =>
    bif x64 then (
     some 10
    ) else (
      bnd (IntKind.wrap .i64 (v50+1)) fun x66 =>
      (dV a0 n2) x66
    )
   ) else (
     some 0
   )
def eO (a0:(List aG)):Nat→Int→Option Int
 | 0,_=>none
 | n1 + 1,v27 =>
   bnd (decide (v27<(a0.length:Int))) fun x35 =>
   bif x35 then (
    bno (gix a0 v27) fun x37 =>
    bno (gix a0 v27) fun x38 =>
    bnd (decide (x37.To≤x38.From)) fun x39 =>
    bif x39 then (
     some 4
    ) else (
      bnd (IntKind.wrap .i64 (v27+1)) fun x41 =>
      (eO a0 n1) x41
    )
   ) else (
     dV a0 fuel 1
   )
def eP (a0:(List aG)):Nat→Int→Option Int
 | 0,_=>none
 | n0 + 1,v7 =>
   bnd (decide (v7<(a0.length:Int))) fun x14 =>
   bif x14 then (
    bno (gix a0 v7) fun x16 =>
    bno (jF (⟨x16.From,x16.To⟩:aG)) fun x17 =>
    bif (!x17) then (
     some 8
    ) else (
      bnd (IntKind.wrap .i64 (v7+1)) fun x19 =>
      (eP a0 n0) x19
    )
   ) else (
     eO a0 fuel 0
   )
def gA (a0:(List aG)):Option Int :=
 eP a0 fuel 0

def eE (v27:(List Int)) (v79:(List Int)) (v80:Int) (kk2:(List Int)→Int→Option (List Int)):Nat→Int→Option (List Int)
 | 0,_=>none
 | n3 + 1,v128 =>
   bnd (decide (v128<(v79.length:Int))) fun x136 =>
   bno (gd (x136 == true) (gix v79 v128) default) fun x137 =>
   bno (gd (x136 == true) (gix v27 v80) default) fun x138 =>
   bnd (decide (x137<x138)) fun x139 =>
   bnd (x136&&x139) fun x140 =>
   bif x140 then (
    bnd (IntKind.wrap .i64 (v128+1)) fun x142 =>
    (eE v27 v79 v80 kk2 n3) x142
   ) else (
     bnd (decide (v128<(v79.length:Int))) fun x143 =>
     bno (gd (x143 == true) (gix v79 v128) default) fun x144 =>
     bno (gd (x143 == true) (gix v27 v80) default) fun x145 =>
     bnd (decide (x144=x145)) fun x146 =>
     bnd (x143&&x146) fun x147 =>
     bif x147 then (
      bnd (IntKind.wrap .i64 (v80+1)) fun x149 =>
      kk2 v79 x149
     ) else (
       bno (cut v79 0 v128) fun x150 =>
       bno (app 8 ([]:(List Int)) x150) fun x151 =>
       bno (gix v27 v80) fun x152 =>
       bno (app 8 x151 ([x152]:(List Int))) fun x153 =>
       bno (cut v79 v128 (v79.length:Int)) fun x154 =>
       bno (app 8 x153 x154) fun x155 =>
       bnd (IntKind.wrap .i64 (v80+1)) fun x156 =>
       kk2 x155 x156
     )
   )
def cX (v27:(List Int)):Nat→(List Int)→Int→Option (List Int)
 | 0,_,_=>none
 | n2+1,v79,v80 =>
   bnd (decide (v80<(v27.length:Int))) fun x119 =>
   bif x119 then (
    eE v27 v79 v80 (cX v27 n2) fuel 0
   ) else (
     some v79
   )
def eX (a1:(List aG)):Nat→(List Int)→Int→Option (List Int)
 | 0,_,_=>none
 | n1+1,v27,v28 =>
   bnd (decide (v28<(a1.length:Int))) fun x35 =>
   bif x35 then (
    bno (gix a1 v28) fun x37 =>
    bno (gix a1 v28) fun x38 =>
    bno (app 8 v27 ([x37.From,x38.To]:(List Int))) fun x39 =>
    bnd (IntKind.wrap .i64 (v28+1)) fun x40 =>
    (eX a1 n1) x39 x40
   ) else (
     cX v27 fuel ([]:(List Int)) 0
   )
def eY (a0:(List aG)) (a1:(List aG)):Nat→(List Int)→Int→Option (List Int)
 | 0,_,_=>none
 | n0+1,v7,v8 =>
   bnd (decide (v8<(a0.length:Int))) fun x15 =>
   bif x15 then (
    bno (gix a0 v8) fun x17 =>
    bno (gix a0 v8) fun x18 =>
    bno (app 8 v7 ([x17.From,x18.To]:(List Int))) fun x19 =>
    bnd (IntKind.wrap .i64 (v8+1)) fun x20 =>
    (eY a0 a1 n0) x19 x20
   ) else (
     eX a1 fuel v7 0
   )
def mM (a0:(List aG)) (a1:(List aG)):Option (List Int) :=
 eY a0 a1 fuel ([]:(List Int)) 0

def fP (a0:(List aG)) (a1:Int):Nat→Int→Option Bool
 | 0,_=>none
 | n0 + 1,v10 =>
   bnd (decide (v10<(a0.length:Int))) fun x20 =>
   bif x20 then (
    bno (gix a0 v10) fun x22 =>
    bnd (decide (x22.From≤a1)) fun x23 =>
    bno (gd (x23 == true) (gix a0 v10) default) fun x24 =>
    bnd (decide (a1<x24.To)) fun x25 =>
    bnd (x23&&x25) fun x26 =>
    bif x26 then (
     some true
    ) else (
      bnd (IntKind.wrap .i64 (v10+1)) fun x28 =>
      (fP a0 a1 n0) x28
    )
   ) else (
     some false
   )
def nC (a0:(List aG)) (a1:Int):Option Bool :=
 fP a0 a1 fuel 0

def lL (a0:aG) (a1:(List aG)):Option (List aG) :=
 bnd (decide ((a1.length:Int)=0)) fun x1 =>
 bnd (IntKind.wrap .i64 ((a1.length:Int)-1)) fun x2 =>
 bno (gd (x1 == false) (gix a1 x2) default) fun x3 =>
 bno (gd (x1 == false) (a1[(x2:Int).toNat]?) default) fun x4 =>
 bnd (decide (x4.To<a0.From)) fun x5 =>
 bnd (x1||x5) fun x6 =>
 bif x6 then (
  bno (app 16 a1 (([(⟨a0.From,a0.To⟩:aG)]:(List aG)))) fun x8 =>
  some x8
 ) else (
   bno (app 16 ([]:(List aG)) a1) fun x9 =>
   bnd (IntKind.wrap .i64 ((a1.length:Int)-1)) fun x10 =>
   bno (gix x9 x10) fun x11 =>
   bno (x9[(x10:Int).toNat]?) fun x12 =>
   bnd (x9.set ((x10:Int).toNat) (⟨x12.From,a0.To⟩:aG)) fun x13 =>
   some x13
 )

def dS (a0:(List aG)) (a1:(List aG)) (a2:Int) (x1:(List Int)):Nat→(List aG)→Int→Option (List aG)
 | 0,_,_=>none
 | n0 + 1,v28,v29 =>
   bnd (decide (v29<(x1.length:Int))) fun x56 =>
   bif x56 then (
    bnd (IntKind.wrap .i64 (v29-1)) fun x58 =>
    bno (gix x1 x58) fun x59 =>
    bno (nC a0 x59) fun x60 =>
    bnd (IntKind.wrap .i64 (v29-1)) fun x61 =>
    bno (gix x1 x61) fun x62 =>
    bno (nC a1 x62) fun x63 =>
    bnd (decide (a2=0)) fun x64 =>
    bnd (x60||x63) fun x65 =>
    bnd (x64&&x65) fun x66 =>
    bnd (decide (a2=1)) fun x67 =>
    bnd (x67&&x60) fun x68 =>
    bnd (x68&&(!x63)) fun x69 =>
    bnd (x66||x69) fun x70 =>
    bnd (decide (a2=2)) fun x71 =>
    bnd (x71&&x60) fun x72 =>
    bnd (x72&&x63) fun x73 =>
    bnd (x70||x73) fun x74 =>
    bif x74 then (
     bnd (IntKind.wrap .i64 (v29-1)) fun x76 =>
     bno (gix x1 x76) fun x77 =>
     bno (gix x1 v29) fun x78 =>
     bno (lL (⟨x77,x78⟩:aG) v28) fun x79 =>
     bnd (IntKind.wrap .i64 (v29+1)) fun x80 =>
     (dS a0 a1 a2 x1 n0) x79 x80
    ) else (
      bnd (IntKind.wrap .i64 (v29+1)) fun x81 =>
      (dS a0 a1 a2 x1 n0) v28 x81
    )
   ) else (
     some v28
   )
def iQ (a0:(List aG)) (a1:(List aG)) (a2:Int):Option (List aG) :=
 bno (mM a0 a1) fun x1 =>
 dS a0 a1 a2 x1 fuel ([]:(List aG)) 1

def mN (a0:(List aG)) (a1:(List aG)):Option (List aG) :=
 bno (gA a0) fun x1 =>
 bnd (!decide (x1=0)) fun x2 =>
 bno (gd (x2 == false) (gA a1) default) fun x3 =>
 bnd (!decide (x3=0)) fun x4 =>
 bnd (x2||x4) fun x5 =>
 bif x5 then (
  some []
 ) else (
   bno (iQ a0 a1 2) fun x7 =>
   some x7
 )

def lC (a0:aI) (a1:(List aG)):Option Bool :=
 bnd (decide (a0.From=a0.To)) fun x1 =>
 bif x1 then (
  some false
 ) else (
   bno (mN ([(⟨a0.From,a0.To⟩:aG)]:(List aG)) a1) fun x3 =>
   bnd (decide (0<(x3.length:Int))) fun x4 =>
   some x4
 )

def dE (a0:aN):Option Int :=
 bnd (IntKind.wrap .i64 (a0.Base+(a0.Data.length:Int))) fun x1 =>
 some x1

def eC (a0:aN):Nat→Int→Int→Option Int
 | 0,_,_=>none
 | n0 + 1,v8,v9 =>
   bnd (decide (v9<(a0.Pieces.length:Int))) fun x17 =>
   bif x17 then (
    bno (gix a0.Pieces v9) fun x19 =>
    bif x19.Fin then (
     bnd (IntKind.wrap .i64 (v8+1)) fun x21 =>
     bnd (IntKind.wrap .i64 (v9+1)) fun x22 =>
     (eC a0 n0) x21 x22
    ) else (
      bnd (IntKind.wrap .i64 (v9+1)) fun x23 =>
      (eC a0 n0) v8 x23
    )
   ) else (
     some v8
   )
def oB (a0:aN):Option Int :=
 eC a0 fuel 0 0

def eA (a0:aN) (v15:Int):Nat→Int→Option Bool
 | 0,_=>none
 | n1 + 1,v25 =>
   bnd (decide (v25<(a0.Pieces.length:Int))) fun x35 =>
   bif x35 then (
    bno (gix a0.Pieces v25) fun x37 =>
    bno (gd (x37.Fin == true) (gix a0.Pieces v25) default) fun x38 =>
    bno (gd (x37.Fin == true) (dE a0) default) fun x39 =>
    bnd (!decide (x38.To=x39)) fun x40 =>
    bnd (x37.Fin&&x40) fun x41 =>
    bif x41 then (
     some false
    ) else (
      bnd (IntKind.wrap .i64 (v25+1)) fun x43 =>
      (eA a0 v15 n1) x43
    )
   ) else (
     bno (oB a0) fun x44 =>
     bnd (decide (x44=v15)) fun x45 =>
     some x45
   )
def iD (a0:aN) (v15:Int):Option Bool :=
 eA a0 v15 fuel 0
def jW (a0:aN):Option Bool :=
 bno (gd ((a0.Sent == true)&&((!a0.Closed) == false)) (dE a0) default) fun x1 =>
 bnd (!decide (a0.Next=x1)) fun x2 =>
 bnd ((!a0.Closed)||x2) fun x3 =>
 bnd (a0.Sent&&x3) fun x4 =>
 bnd (a0.Again&&(!a0.Sent)) fun x5 =>
 bnd (x4||x5) fun x6 =>
 bnd (a0.Done&&(!a0.Sent)) fun x7 =>
 bnd (x6||x7) fun x8 =>
 bnd (a0.Again&&a0.Done) fun x9 =>
 bnd (x8||x9) fun x10 =>
 bif x10 then (
  some false
 ) else (
   bnd (a0.Sent&&(!a0.Again)) fun x46 =>
   bnd (x46&&(!a0.Done)) fun x47 =>
   bif x47 then (
    iD a0 1
   ) else (
     iD a0 0
   )
 )

def dU (a0:aN):Nat→Int→Int→Option Int
 | 0,_,_=>none
 | n0 + 1,v43,v44 =>
   bnd (decide (v44<(a0.Pieces.length:Int))) fun x64 =>
   bif x64 then (
    bno (gix a0.Pieces v44) fun x66 =>
    bnd (decide (x66.From<v43)) fun x67 =>
    bnd (decide (x66.To<x66.From)) fun x68 =>
    bnd (x67||x68) fun x69 =>
    bnd (decide (a0.Next<x66.To)) fun x70 =>
    bnd (x69||x70) fun x71 =>
    bnd (decide (x66.From=x66.To)) fun x72 =>
    bnd (x72&&(!x66.Fin)) fun x73 =>
    bnd (x71||x73) fun x74 =>
    bnd (decide (x66.Path<0)) fun x75 =>
    bnd (x74||x75) fun x76 =>
    bnd (decide (4≤x66.Path)) fun x77 =>
    bnd (x76||x77) fun x78 =>
    bno (gd (x78 == false) (lC x66 a0.Lost) default) fun x79 =>
    bnd (x78||x79) fun x80 =>
    bif x80 then (
     some 10
    ) else (
      bnd (IntKind.wrap .i64 (v44+1)) fun x82 =>
      (dU a0 n0) x66.To x82
    )
   ) else (
     bno (jW a0) fun x83 =>
     bif (!x83) then (
      some 9
     ) else (
       some 0
     )
   )
def eL (a0:aN):Option Int :=
 bnd (decide (a0.Base<0)) fun x1 =>
 bnd (decide (1099511623680<a0.Base)) fun x2 =>
 bnd (x1||x2) fun x3 =>
 bnd (decide (a0.Next<a0.Base)) fun x4 =>
 bnd (x3||x4) fun x5 =>
 bnd (IntKind.wrap .i64 (a0.Next-a0.Base)) fun x6 =>
 bnd (decide ((a0.Data.length:Int)<x6)) fun x7 =>
 bnd (x5||x7) fun x8 =>
 bif x8 then (
  some 8
 ) else (
   bnd (decide (4096<(a0.Data.length:Int))) fun x10 =>
   bif x10 then (
    some 5
   ) else (
     bno (gA a0.Lost) fun x12 =>
     bnd (!decide (x12=0)) fun x13 =>
     bnd (decide (0<(a0.Lost.length:Int))) fun x14 =>
     bno (gd ((x13 == false)&&(x14 == true)) (gix a0.Lost 0) default) fun x15 =>
     bnd (decide (x15.From<a0.Base)) fun x16 =>
     bnd (IntKind.wrap .i64 ((a0.Lost.length:Int)-1)) fun x17 =>
     bno (gd (((x13 == false)&&(x14 == true))&&(x16 == false)) (gix a0.Lost x17) default) fun x18 =>
     bnd (decide (a0.Next<x18.To)) fun x19 =>
     bnd (x16||x19) fun x20 =>
     bnd (x14&&x20) fun x21 =>
     bnd (x13||x21) fun x22 =>
     bif x22 then (
      some 4
     ) else (
       dU a0 fuel a0.Base 0
     )
   )
 )

def gW (a0:aW):Option Int :=
 bnd (IntKind.wrap .i64 (a0.Base-(a0.Ready.length:Int))) fun x1 =>
 bnd (IntKind.wrap .i64 (x1+4096)) fun x2 =>
 bnd (min 1099511627776 x2) fun x3 =>
 some x3

def eN (a0:aW):Nat→Int→Int→Option Int
 | 0,_,_=>none
 | n0 + 1,v25,v26 =>
   bnd (decide (v26<(a0.Parts.length:Int))) fun x43 =>
   bif x43 then (
    bno (gix a0.Parts v26) fun x45 =>
    bnd (decide (x45.At≤v25)) fun x46 =>
    bnd (decide (x45.Data=([]:List UInt8))) fun x47 =>
    bnd (x46||x47) fun x48 =>
    bno (gd (x48 == false) (gW a0) default) fun x49 =>
    bnd (decide (x49<x45.At)) fun x50 =>
    bnd (x48||x50) fun x51 =>
    bno (gd (x51 == false) (gW a0) default) fun x52 =>
    bnd (IntKind.wrap .i64 (x52-x45.At)) fun x53 =>
    bnd (decide (x53<(x45.Data.length:Int))) fun x54 =>
    bnd (x51||x54) fun x55 =>
    bif x55 then (
     some 10
    ) else (
      bnd (IntKind.wrap .i64 (x45.At+(x45.Data.length:Int))) fun x57 =>
      bnd (IntKind.wrap .i64 (v26+1)) fun x58 =>
      (eN a0 n0) x57 x58
    )
   ) else (
     some 0
   )
def gX (a0:aW):Option Int :=
 bnd (decide (a0.Base<0)) fun x1 =>
 bnd (decide (1099511627776<a0.Base)) fun x2 =>
 bnd (x1||x2) fun x3 =>
 bnd (decide (4096<(a0.Ready.length:Int))) fun x4 =>
 bnd (x3||x4) fun x5 =>
 bnd (decide (a0.Base<(a0.Ready.length:Int))) fun x6 =>
 bnd (x5||x6) fun x7 =>
 bif x7 then (
  some 8
 ) else (
   eN a0 fuel a0.Base 0
 )

def fU (a0:bE):Option Int :=
 bnd (decide ((a0.Recv.Parts.length:Int)=0)) fun x1 =>
 bif x1 then (
  some a0.Recv.Base
 ) else (
   bnd (IntKind.wrap .i64 ((a0.Recv.Parts.length:Int)-1)) fun x3 =>
   bno (gix a0.Recv.Parts x3) fun x4 =>
   bnd (IntKind.wrap .i64 (x4.At+(x4.Data.length:Int))) fun x5 =>
   some x5
 )

def fZ (a0:bE):Option Int :=
 bno (gX a0.Recv) fun x1 =>
 bnd (!decide (x1=0)) fun x2 =>
 bif x2 then (
  some x1
 ) else (
   bnd (!decide (a0.End=(-1))) fun x4 =>
   bno (gd (x4 == true) (fU a0) default) fun x5 =>
   bnd (decide (a0.End<x5)) fun x6 =>
   bnd (decide (1099511627776<a0.End)) fun x7 =>
   bnd (x6||x7) fun x8 =>
   bnd (x4&&x8) fun x9 =>
   bif x9 then (
    some 8
   ) else (
     some 0
   )
 )

def eM (a0:aH) (v44:Int):Option Int :=
 bnd (!decide (a0.Out.Used=a0.Send.Next)) fun x45 =>
 bnd (!decide (a0.In.Used=v44)) fun x46 =>
 bnd (x45||x46) fun x47 =>
 bnd (IntKind.wrap .i64 (a0.Recv.Recv.Base-(a0.Recv.Recv.Ready.length:Int))) fun x48 =>
 bnd (!decide (a0.In.Read=x48)) fun x49 =>
 bnd (x47||x49) fun x50 =>
 bnd (IntKind.wrap .i64 (a0.In.Read+a0.In.Window)) fun x51 =>
 bnd (decide (x51<a0.In.Limit)) fun x52 =>
 bnd (x50||x52) fun x53 =>
 bif x53 then (
  some 4
 ) else (
   some 0
 )
def dL (a0:aH) (x15:Int) (x16:Int) (x17:Int) (x18:Int):Nat→Int→Option Int
 | 0,_=>none
 | n0 + 1,v26 =>
   bnd (decide (v26<(([x15,x16,x17,x18]:(List Int)).length:Int))) fun x34 =>
   bif x34 then (
    bno (gix ([x15,x16,x17,x18]:(List Int)) v26) fun x36 =>
    bnd (!decide (x36=0)) fun x37 =>
    bif x37 then (
     bno (gix ([x15,x16,x17,x18]:(List Int)) v26) fun x39 =>
     some x39
    ) else (
      bnd (IntKind.wrap .i64 (v26+1)) fun x40 =>
      (dL a0 x15 x16 x17 x18 n0) x40
    )
   ) else (
     bnd (decide (a0.Recv.End<0)) fun x55 =>
     bif x55 then (
      bno (fU a0.Recv) fun x57 =>
      eM a0 x57
     ) else (
       eM a0 a0.Recv.End
     )
   )
def fY (a0:aH):Option Int :=
 bnd (decide (a0.ID<0)) fun x1 =>
 bnd (decide (1048576<a0.ID)) fun x2 =>
 bnd (x1||x2) fun x3 =>
 bnd (decide (a0.Mine<(-1))) fun x4 =>
 bnd (x3||x4) fun x5 =>
 bnd (decide (255<a0.Mine)) fun x6 =>
 bnd (x5||x6) fun x7 =>
 bnd (decide (a0.Hers<(-1))) fun x8 =>
 bnd (x7||x8) fun x9 =>
 bnd (decide (255<a0.Hers)) fun x10 =>
 bnd (x9||x10) fun x11 =>
 bnd (decide (4096<a0.In.Window)) fun x12 =>
 bnd (x11||x12) fun x13 =>
 bif x13 then (
  some 8
 ) else (
   bno (dM a0.Out) fun x15 =>
   bno (dM a0.In) fun x16 =>
   bno (eL a0.Send) fun x17 =>
   bno (fZ a0.Recv) fun x18 =>
   dL a0 x15 x16 x17 x18 fuel 0
 )

def kX (a0:aH):Option Bool :=
 bnd (!decide (a0.Mine=(-1))) fun x1 =>
 bnd (!decide (a0.Hers=(-1))) fun x2 =>
 bnd (x1||x2) fun x3 =>
 some x3

def dZ (a0:aH):Option Int :=
 bno (fY a0) fun x1 =>
 bnd (decide (x1=0)) fun x2 =>
 bno (gd (x2 == true) (kX a0) default) fun x3 =>
 bnd (x2&&x3) fun x4 =>
 bif x4 then (
  some 15
 ) else (
   some x1
 )

def mI (a0:aN):Option Int :=
 bif a0.Closed then (
  some 0
 ) else (
   bnd (IntKind.wrap .i64 (4096-(a0.Data.length:Int))) fun x2 =>
   some x2
 )

def lD (a0:aN) (a1:(List UInt8)):Option (aN×Int) :=
 bno (eL a0) fun x1 =>
 bnd (!decide (x1=0)) fun x2 =>
 bif x2 then (
  some (a0,0)
 ) else (
   bno (mI a0) fun x4 =>
   bnd (min (a1.length:Int) x4) fun x5 =>
   bno (dE a0) fun x6 =>
   bnd (IntKind.wrap .i64 (x6+x5)) fun x7 =>
   bnd (decide (1099511623680<x7)) fun x8 =>
   bif x8 then (
    some (a0,0)
   ) else (
     bno (cut a1 0 x5) fun x10 =>
     bno (cat a0.Data x10) fun x11 =>
     some ((⟨a0.Base,x11,a0.Next,a0.Pieces,a0.Lost,a0.Closed,a0.Sent,a0.Again,a0.Done⟩:aN),x5)
   )
 )

def kU (a0:aH) (a1:(List UInt8)):Option (aH×Int×Int) :=
 bno (dZ a0) fun x1 =>
 bnd (!decide (x1=0)) fun x2 =>
 bif x2 then (
  some (a0,0,x1)
 ) else (
   bif a0.Send.Closed then (
    some (a0,0,9)
   ) else (
     bno (lD a0.Send a1) fun x5 =>
     some ((⟨a0.ID,x5.1,a0.Recv,a0.Out,a0.In,a0.Mine,a0.Hers⟩:aH),x5.2,0)
   )
 )

def lE (a0:aN):Option aN :=
 bno (eL a0) fun x1 =>
 bnd (decide (x1=0)) fun x2 =>
 bif x2 then (
  some (⟨a0.Base,a0.Data,a0.Next,a0.Pieces,a0.Lost,true,a0.Sent,a0.Again,a0.Done⟩:aN)
 ) else (
   some a0
 )

def kY (a0:aH):Option (aH×Int) :=
 bno (dZ a0) fun x1 =>
 bnd (!decide (x1=0)) fun x2 =>
 bif x2 then (
  some (a0,x1)
 ) else (
   bif a0.Send.Closed then (
    some (a0,9)
   ) else (
     bno (lE a0.Send) fun x5 =>
     some ((⟨a0.ID,x5,a0.Recv,a0.Out,a0.In,a0.Mine,a0.Hers⟩:aH),0)
   )
 )

def mL (a0:aW) (a1:Int):Option (aW×(List UInt8)) :=
 bno (gX a0) fun x1 =>
 bnd (!decide (x1=0)) fun x2 =>
 bnd (decide (a1<1)) fun x3 =>
 bnd (x2||x3) fun x4 =>
 bif x4 then (
  some (a0,[])
 ) else (
   bnd (min a1 (a0.Ready.length:Int)) fun x6 =>
   bno (cut a0.Ready 0 x6) fun x7 =>
   bno (cut a0.Ready x6 (a0.Ready.length:Int)) fun x8 =>
   some ((⟨a0.Base,x8,a0.Parts⟩:aW),x7)
 )

def lA (a0:bE):Option Bool :=
 bno (fZ a0) fun x1 =>
 bnd (decide (x1=0)) fun x2 =>
 bnd (decide (0≤a0.End)) fun x3 =>
 bnd (x2&&x3) fun x4 =>
 bnd (decide (a0.Recv.Base=a0.End)) fun x5 =>
 bnd (x4&&x5) fun x6 =>
 some x6

def gT (a0:bE):Option Bool :=
 bno (lA a0) fun x1 =>
 bnd (decide (a0.Recv.Ready=([]:List UInt8))) fun x2 =>
 bnd (x1&&x2) fun x3 =>
 some x3

def oA (a0:bE) (a1:Int):Option (bE×(List UInt8)×Bool) :=
 bno (mL a0.Recv a1) fun x1 =>
 bno (gT (⟨x1.1,a0.End⟩:bE)) fun x2 =>
 some ((⟨x1.1,a0.End⟩:bE),x1.2,x2)

def nB (a0:aY) (a1:Int):Option aY :=
 bno (dM a0) fun x1 =>
 bnd (!decide (x1=0)) fun x2 =>
 bif x2 then (
  some a0
 ) else (
   bnd (IntKind.wrap .i64 (a0.Used-a0.Read)) fun x4 =>
   bnd (min a1 x4) fun x5 =>
   bnd (max 0 x5) fun x6 =>
   bnd (IntKind.wrap .i64 (a0.Read+x6)) fun x7 =>
   some (⟨a0.Window,a0.Limit,a0.Used,x7⟩:aY)
 )

def mE (a0:aH) (a1:Int):Option (aH×(List UInt8)×Bool×Int) :=
 bno (dZ a0) fun x1 =>
 bnd (!decide (x1=0)) fun x2 =>
 bif x2 then (
  some (a0,[],false,x1)
 ) else (
   bno (oA a0.Recv a1) fun x4 =>
   bno (nB a0.In (x4.2.1.length:Int)) fun x5 =>
   some ((⟨a0.ID,a0.Send,x4.1,a0.Out,x5,a0.Mine,a0.Hers⟩:aH),x4.2.1,x4.2.2,0)
 )

def lH (a0:aY):Option (aY×Int) :=
 bno (dM a0) fun x1 =>
 bnd (!decide (x1=0)) fun x2 =>
 bif x2 then (
  some (a0,0)
 ) else (
   bnd (IntKind.wrap .i64 (a0.Read+a0.Window)) fun x4 =>
   bnd (min 1099511627776 x4) fun x5 =>
   bnd (IntKind.wrap .i64 (x5-a0.Limit)) fun x6 =>
   bnd (decide (x6<1)) fun x7 =>
   bno (gd (x7 == false) (quoI .i64 a0.Window 2) 0) fun x8 =>
   bnd (decide (x6<x8)) fun x9 =>
   bnd (x7||x9) fun x10 =>
   bif x10 then (
    some (a0,0)
   ) else (
     bnd (IntKind.wrap .i64 (a0.Limit+x6)) fun x12 =>
     some ((⟨a0.Window,x12,a0.Used,a0.Read⟩:aY),x6)
   )
 )

def kW (a0:aH):Option (aH×Int) :=
 bno (dZ a0) fun x1 =>
 bnd (!decide (x1=0)) fun x2 =>
 bnd (decide (0≤a0.Recv.End)) fun x3 =>
 bnd (x2||x3) fun x4 =>
 bif x4 then (
  some (a0,0)
 ) else (
   bno (lH a0.In) fun x6 =>
   some ((⟨a0.ID,a0.Send,a0.Recv,a0.Out,x6.1,a0.Mine,a0.Hers⟩:aH),x6.2)
 )

def lF (a0:aY) (a1:Int):Option (aY×Int×Bool) :=
 bno (dM a0) fun x1 =>
 bnd (!decide (x1=0)) fun x2 =>
 bnd (decide (a1<0)) fun x3 =>
 bnd (x2||x3) fun x4 =>
 bnd (decide (a0.Limit<a1)) fun x5 =>
 bnd (x4||x5) fun x6 =>
 bif x6 then (
  some (a0,0,false)
 ) else (
   bnd (IntKind.wrap .i64 (a1-a0.Used)) fun x8 =>
   bnd (max 0 x8) fun x9 =>
   bnd (IntKind.wrap .i64 (a0.Used+x9)) fun x10 =>
   some ((⟨a0.Window,a0.Limit,x10,a0.Read⟩:aY),x9,true)
 )

def eV (a0:aW) (a1:Int):Nat→Int→Option Bool
 | 0,_=>none
 | n0 + 1,v12 =>
   bnd (decide (v12<(a0.Parts.length:Int))) fun x24 =>
   bif x24 then (
    bno (gix a0.Parts v12) fun x26 =>
    bnd (decide (x26.At≤a1)) fun x27 =>
    bno (gd (x27 == true) (gix a0.Parts v12) default) fun x28 =>
    bno (gd (x27 == true) (gix a0.Parts v12) default) fun x29 =>
    bnd (IntKind.wrap .i64 (x28.At+(x29.Data.length:Int))) fun x30 =>
    bnd (decide (a1<x30)) fun x31 =>
    bnd (x27&&x31) fun x32 =>
    bif x32 then (
     some true
    ) else (
      bnd (IntKind.wrap .i64 (v12+1)) fun x34 =>
      (eV a0 a1 n0) x34
    )
   ) else (
     some false
   )
def oE (a0:aW) (a1:Int):Option Bool :=
 eV a0 a1 fuel 0

def cW (x24:(List aS)):Nat→(List aS)→Int→Option (List aS)
 | 0,_,_=>none
 | n1 + 1,v55,v56 =>
   bnd (decide (v56<(x24.length:Int))) fun x87 =>
   bif x87 then (
    bnd (decide (0<(v55.length:Int))) fun x89 =>
    bnd (IntKind.wrap .i64 ((v55.length:Int)-1)) fun x90 =>
    bno (gd (x89 == true) (gix v55 x90) default) fun x91 =>
    bno (gd (x89 == true) (v55[(x90:Int).toNat]?) default) fun x92 =>
    bnd (IntKind.wrap .i64 ((v55.length:Int)-1)) fun x93 =>
    bno (gd (x89 == true) (gix v55 x93) default) fun x94 =>
    bno (gd (x89 == true) (v55[(x93:Int).toNat]?) default) fun x95 =>
    bnd (IntKind.wrap .i64 (x92.At+(x95.Data.length:Int))) fun x96 =>
    bno (gd (x89 == true) (gix x24 v56) default) fun x97 =>
    bno (gd (x89 == true) (x24[(v56:Int).toNat]?) default) fun x98 =>
    bnd (decide (x96=x98.At)) fun x99 =>
    bnd (x89&&x99) fun x100 =>
    bif x100 then (
     bnd (IntKind.wrap .i64 ((v55.length:Int)-1)) fun x102 =>
     bnd (IntKind.wrap .i64 ((v55.length:Int)-1)) fun x103 =>
     bno (gix v55 x103) fun x104 =>
     bno (v55[(x103:Int).toNat]?) fun x105 =>
     bno (gix x24 v56) fun x106 =>
     bno (x24[(v56:Int).toNat]?) fun x107 =>
     bno (cat x105.Data x107.Data) fun x108 =>
     bno (gix v55 x102) fun x109 =>
     bno (v55[(x102:Int).toNat]?) fun x110 =>
     bnd (v55.set ((x102:Int).toNat) (⟨x110.At,x108⟩:aS)) fun x111 =>
     bnd (IntKind.wrap .i64 (v56+1)) fun x112 =>
     (cW x24 n1) x111 x112
    ) else (
      bno (gix x24 v56) fun x113 =>
      bno (x24[(v56:Int).toNat]?) fun x114 =>
      bno (app 24 v55 ([x114]:(List aS))) fun x115 =>
      bnd (IntKind.wrap .i64 (v56+1)) fun x116 =>
      (cW x24 n1) x115 x116
    )
   ) else (
     some v55
   )
def eB (a0:(List aS)) (a1:Int) (a2:(List UInt8)):Nat→Int→Option (List aS)
 | 0,_=>none
 | n0+1,v7 =>
   bnd (decide (v7<(a0.length:Int))) fun x14 =>
   bno (gd (x14 == true) (gix a0 v7) default) fun x15 =>
   bnd (decide (x15.At<a1)) fun x16 =>
   bnd (x14&&x16) fun x17 =>
   bif x17 then (
    bnd (IntKind.wrap .i64 (v7+1)) fun x19 =>
    (eB a0 a1 a2 n0) x19
   ) else (
     bno (cut a0 0 v7) fun x20 =>
     bno (app 24 ([]:(List aS)) x20) fun x21 =>
     bno (app 24 x21 (([(⟨a1,a2⟩:aS)]:(List aS)))) fun x22 =>
     bno (cut a0 v7 (a0.length:Int)) fun x23 =>
     bno (app 24 x22 x23) fun x24 =>
     cW x24 fuel ([]:(List aS)) 0
   )
def mU (a0:(List aS)) (a1:Int) (a2:(List UInt8)):Option (List aS) :=
 eB a0 a1 a2 fuel 0

def lJ (a0:aW) (a1:Int) (a2:(List UInt8)):Option (aW×Bool) :=
 bnd (decide (a1<a0.Base)) fun x1 =>
 bno (gd (x1 == false) (gW a0) default) fun x2 =>
 bnd (decide (x2≤a1)) fun x3 =>
 bnd (x1||x3) fun x4 =>
 bno (gd (x4 == false) (oE a0 a1) default) fun x5 =>
 bnd (x4||x5) fun x6 =>
 bif x6 then (
  some (a0,false)
 ) else (
   bnd (decide (a0.Base<a1)) fun x8 =>
   bif x8 then (
    bno (mU a0.Parts a1 a2) fun x10 =>
    some ((⟨a0.Base,a0.Ready,x10⟩:aW),true)
   ) else (
     bnd (IntKind.wrap .i64 (a0.Base+1)) fun x11 =>
     bno (cat a0.Ready a2) fun x12 =>
     bnd (decide (0<(a0.Parts.length:Int))) fun x13 =>
     bno (gd (x13 == true) (gix a0.Parts 0) default) fun x14 =>
     bnd (decide (x14.At=x11)) fun x15 =>
     bnd (x13&&x15) fun x16 =>
     bif x16 then (
      bno (gix a0.Parts 0) fun x18 =>
      bnd (IntKind.wrap .i64 (x11+(x18.Data.length:Int))) fun x19 =>
      bno (gix a0.Parts 0) fun x20 =>
      bno (cat x12 x20.Data) fun x21 =>
      bno (cut a0.Parts 1 (a0.Parts.length:Int)) fun x22 =>
      some ((⟨x19,x21,x22⟩:aW),true)
     ) else (
       some ((⟨x11,x12,a0.Parts⟩:aW),true)
     )
   )
 )

def eR (a1:Int) (a2:(List UInt8)):Nat→Int→Int→Int→(List UInt8)→(List aS)→Option (aW×Int)
 | 0,_,_,_,_,_=>none
 | n0 + 1,v18,v19,v20,v21,v22 =>
   bnd (decide (v19<(a2.length:Int))) fun x33 =>
   bif x33 then (
    bnd (IntKind.wrap .i64 (a1+v19)) fun x35 =>
    bnd (IntKind.wrap .i64 (v19+1)) fun x36 =>
    bno (cut a2 v19 x36) fun x37 =>
    bno (lJ (⟨v20,v21,v22⟩:aW) x35 x37) fun x38 =>
    bif x38.2 then (
     bnd (IntKind.wrap .i64 (v18+1)) fun x40 =>
     bnd (IntKind.wrap .i64 (v19+1)) fun x41 =>
     (eR a1 a2 n0) x40 x41 x38.1.Base x38.1.Ready x38.1.Parts
    ) else (
      bnd (IntKind.wrap .i64 (v19+1)) fun x42 =>
      (eR a1 a2 n0) v18 x42 x38.1.Base x38.1.Ready x38.1.Parts
    )
   ) else (
     some ((⟨v20,v21,v22⟩:aW),v18)
   )
def lK (a0:aW) (a1:Int) (a2:(List UInt8)):Option (aW×Int) :=
 bno (gX a0) fun x1 =>
 bnd (!decide (x1=0)) fun x2 =>
 bnd (decide (a1<0)) fun x3 =>
 bnd (x2||x3) fun x4 =>
 bnd (decide (1099511627776<a1)) fun x5 =>
 bnd (x4||x5) fun x6 =>
 bif x6 then (
  some (a0,0)
 ) else (
   eR a1 a2 fuel 0 0 a0.Base a0.Ready a0.Parts
 )

def iM (x21:(aW×Int)) (v23:Int):Option (bE×Int×Int) :=
 some ((⟨x21.1,v23⟩:bE),x21.2,0)
def lB (a0:bE) (a1:Int) (a2:(List UInt8)) (a3:Bool):Option (bE×Int×Int) :=
 bno (fZ a0) fun x1 =>
 bnd (!decide (x1=0)) fun x2 =>
 bnd (decide (a1<0)) fun x3 =>
 bnd (x2||x3) fun x4 =>
 bnd (IntKind.wrap .i64 (1099511627776-(a2.length:Int))) fun x5 =>
 bnd (decide (x5<a1)) fun x6 =>
 bnd (x4||x6) fun x7 =>
 bif x7 then (
  some (a0,0,2)
 ) else (
   bnd (IntKind.wrap .i64 (a1+(a2.length:Int))) fun x9 =>
   bnd (decide (0≤a0.End)) fun x10 =>
   bnd (decide (a0.End<x9)) fun x11 =>
   bnd (!decide (x9=a0.End)) fun x12 =>
   bnd (a3&&x12) fun x13 =>
   bnd (x11||x13) fun x14 =>
   bnd (x10&&x14) fun x15 =>
   bif x15 then (
    some (a0,0,5)
   ) else (
     bno (gd (a3 == true) (fU a0) default) fun x17 =>
     bnd (decide (x9<x17)) fun x18 =>
     bnd (a3&&x18) fun x19 =>
     bif x19 then (
      some (a0,0,5)
     ) else (
       bno (lK a0.Recv a1 a2) fun x21 =>
       bif a3 then (
        iM x21 x9
       ) else (
         iM x21 a0.End
       )
     )
   )
 )

def jU (a0:aH) (a1:Int) (a2:(List UInt8)) (a3:Bool):Option (aH×Int×Int) :=
 bno (dZ a0) fun x1 =>
 bnd (!decide (x1=0)) fun x2 =>
 bnd (decide (a2=([]:List UInt8))) fun x3 =>
 bnd (x3&&(!a3)) fun x4 =>
 bnd (x2||x4) fun x5 =>
 bif x5 then (
  some (a0,0,0)
 ) else (
   bnd (decide (a1<0)) fun x7 =>
   bnd (decide (1099511627776<a1)) fun x8 =>
   bnd (x7||x8) fun x9 =>
   bif x9 then (
    some (a0,0,3)
   ) else (
     bnd (IntKind.wrap .i64 (a1+(a2.length:Int))) fun x11 =>
     bno (lF a0.In x11) fun x12 =>
     bif (!x12.2.2) then (
      some (a0,0,3)
     ) else (
       bno (lB a0.Recv a1 a2 a3) fun x14 =>
       bnd (!decide (x14.2.2=0)) fun x15 =>
       bif x15 then (
        some (a0,0,x14.2.2)
       ) else (
         some ((⟨a0.ID,a0.Send,x14.1,a0.Out,x12.1,a0.Mine,a0.Hers⟩:aH),x12.2.1,0)
       )
     )
   )
 )

def lI (a0:aY) (a1:Int):Option (aY×Bool) :=
 bno (dM a0) fun x1 =>
 bnd (!decide (x1=0)) fun x2 =>
 bnd (decide (a1<1)) fun x3 =>
 bnd (x2||x3) fun x4 =>
 bnd (IntKind.wrap .i64 (1099511627776-a0.Limit)) fun x5 =>
 bnd (decide (x5<a1)) fun x6 =>
 bnd (x4||x6) fun x7 =>
 bif x7 then (
  some (a0,false)
 ) else (
   bnd (IntKind.wrap .i64 (a0.Limit+a1)) fun x9 =>
   some ((⟨a0.Window,x9,a0.Used,a0.Read⟩:aY),true)
 )

def iR (a0:aH) (a1:Int):Option (aH×Int) :=
 bno (dZ a0) fun x1 =>
 bnd (!decide (x1=0)) fun x2 =>
 bif x2 then (
  some (a0,0)
 ) else (
   bno (lI a0.Out a1) fun x4 =>
   bif (!x4.2) then (
    some (a0,3)
   ) else (
     some ((⟨a0.ID,a0.Send,a0.Recv,x4.1,a0.In,a0.Mine,a0.Hers⟩:aH),0)
   )
 )

def lM (a0:aG):Option (List aG) :=
 bnd (decide (a0.To≤a0.From)) fun x1 =>
 bif x1 then (
  some []
 ) else (
   some (([(⟨a0.From,a0.To⟩:aG)]:(List aG)))
 )

def gK (a0:(List aG)) (a1:aG):Option (List aG) :=
 bno (gA a0) fun x1 =>
 bnd (!decide (x1=0)) fun x2 =>
 bno (gd (x2 == false) (jF (⟨a1.From,a1.To⟩:aG)) default) fun x3 =>
 bnd (x2||(!x3)) fun x4 =>
 bif x4 then (
  some a0
 ) else (
   bno (lM (⟨a1.From,a1.To⟩:aG)) fun x6 =>
   bno (iQ a0 x6 1) fun x7 =>
   some x7
 )

def gV (v28:(List aI)) (v29:Int) (kk0:(List aI)→Int→Option aN) (x46:aI) (x47:Int) (x48:Int) (v50:Bool):Option aN :=
 bnd (decide (x47<x48)) fun x51 =>
 bnd (x51||v50) fun x52 =>
 bif x52 then (
  bno (app 32 v28 (([(⟨x47,x48,x46.Path,v50⟩:aI)]:(List aI)))) fun x54 =>
  bnd (IntKind.wrap .i64 (v29+1)) fun x55 =>
  kk0 x54 x55
 ) else (
   bnd (IntKind.wrap .i64 (v29+1)) fun x56 =>
   kk0 v28 x56
 )
def dK (a0:aN) (a2:Bool) (x13:Int):Nat→(List aI)→Int→Option aN
 | 0,_,_=>none
 | n0 + 1,v28,v29 =>
   bnd (decide (v29<(a0.Pieces.length:Int))) fun x44 =>
   bif x44 then (
    bno (gix a0.Pieces v29) fun x46 =>
    bnd (max x46.From x13) fun x47 =>
    bnd (max x46.To x13) fun x48 =>
    bif a2 then (
     gV v28 v29 (dK a0 a2 x13 n0) x46 x47 x48 false
    ) else (
      gV v28 v29 (dK a0 a2 x13 n0) x46 x47 x48 x46.Fin
    )
   ) else (
     bnd (IntKind.wrap .i64 (x13-a0.Base)) fun x58 =>
     bno (cut a0.Data x58 (a0.Data.length:Int)) fun x59 =>
     bno (gK a0.Lost (⟨0,x13⟩:aG)) fun x60 =>
     bif a2 then (
      some (⟨x13,x59,a0.Next,v28,x60,a0.Closed,a0.Sent,false,true⟩:aN)
     ) else (
       some (⟨x13,x59,a0.Next,v28,x60,a0.Closed,a0.Sent,a0.Again,a0.Done⟩:aN)
     )
   )
def mK (a0:aN) (a1:Int) (a2:Bool):Option aN :=
 bno (eL a0) fun x1 =>
 bnd (!decide (x1=0)) fun x2 =>
 bnd (decide (a1<0)) fun x3 =>
 bnd (x2||x3) fun x4 =>
 bnd (decide (a0.Next<a1)) fun x5 =>
 bnd (x4||x5) fun x6 =>
 bno (gd (((x6 == false)&&(a2 == true))&&((!a0.Sent) == false)) (dE a0) default) fun x7 =>
 bnd (!decide (a1=x7)) fun x8 =>
 bnd ((!a0.Sent)||x8) fun x9 =>
 bnd (a2&&x9) fun x10 =>
 bnd (x6||x10) fun x11 =>
 bif x11 then (
  some a0
 ) else (
   bnd (max a0.Base a1) fun x13 =>
   dK a0 a2 x13 fuel ([]:(List aI)) 0
 )

def jV (a0:aH) (a1:Int) (a2:Bool):Option aH :=
 bno (dZ a0) fun x1 =>
 bnd (decide (x1=0)) fun x2 =>
 bif x2 then (
  bno (mK a0.Send a1 a2) fun x4 =>
  some (⟨a0.ID,x4,a0.Recv,a0.Out,a0.In,a0.Mine,a0.Hers⟩:aH)
 ) else (
   some a0
 )

def jE (a0:aN):Option Bool :=
 bnd (a0.Closed&&(!a0.Done)) fun x1 =>
 bnd ((!a0.Sent)||a0.Again) fun x2 =>
 bnd (x1&&x2) fun x3 =>
 some x3

def fO (a0:(List aI)) (a1:aI):Nat→Int→Option (List aI)
 | 0,_=>none
 | n0+1,v13 =>
   bnd (decide (v13<(a0.length:Int))) fun x26 =>
   bno (gd (x26 == true) (gix a0 v13) default) fun x27 =>
   bnd (decide (x27.From<a1.From)) fun x28 =>
   bno (gd ((x26 == true)&&(x28 == false)) (gix a0 v13) default) fun x29 =>
   bnd (decide (x29.From=a1.From)) fun x30 =>
   bno (gd (((x26 == true)&&(x28 == false))&&(x30 == true)) (gix a0 v13) default) fun x31 =>
   bnd (decide (x31.To<a1.To)) fun x32 =>
   bnd (x30&&x32) fun x33 =>
   bnd (x28||x33) fun x34 =>
   bnd (x26&&x34) fun x35 =>
   bif x35 then (
    bnd (IntKind.wrap .i64 (v13+1)) fun x37 =>
    (fO a0 a1 n0) x37
   ) else (
     bno (cut a0 0 v13) fun x38 =>
     bno (app 32 ([]:(List aI)) x38) fun x39 =>
     bno (app 32 x39 ([a1]:(List aI))) fun x40 =>
     bno (cut a0 v13 (a0.length:Int)) fun x41 =>
     bno (app 32 x40 x41) fun x42 =>
     some x42
   )
def pD (a0:(List aI)) (a1:aI):Option (List aI) :=
 fO a0 a1 fuel 0

def gU (a0:aN) (a1:aI) (v6:Bool) (v7:Bool) (v8:Bool):Option (aN×aI×(List UInt8)×Bool) :=
 bno (pD a0.Pieces (⟨a1.From,a1.To,a1.Path,v8⟩:aI)) fun x9 =>
 bnd (IntKind.wrap .i64 (a1.From-a0.Base)) fun x10 =>
 bnd (IntKind.wrap .i64 (a1.To-a0.Base)) fun x11 =>
 bno (cut a0.Data x10 x11) fun x12 =>
 some (((⟨a0.Base,a0.Data,a0.Next,x9,a0.Lost,a0.Closed,v6,v7,a0.Done⟩:aN),(⟨a1.From,a1.To,a1.Path,v8⟩:aI),x12,true))
def fH (a0:aN) (a1:aI):Option (aN×aI×(List UInt8)×Bool) :=
 bno (jE a0) fun x13 =>
 bno (gd (x13 == true) (dE a0) default) fun x14 =>
 bnd (decide (a1.To=x14)) fun x15 =>
 bnd (x13&&x15) fun x16 =>
 bif x16 then (
  gU a0 a1 true false true
 ) else (
   gU a0 a1 a0.Sent a0.Again a1.Fin
 )

def fI (a0:aN) (a1:Int) (a2:Int) (a3:Int):Option (aN×aI×(List UInt8)×Bool) :=
 bno (eL a0) fun x1 =>
 bnd (!decide (x1=0)) fun x2 =>
 bnd (decide (a1<0)) fun x3 =>
 bnd (x2||x3) fun x4 =>
 bnd (decide (4≤a1)) fun x5 =>
 bnd (x4||x5) fun x6 =>
 bnd (decide (a2<1)) fun x7 =>
 bnd (x6||x7) fun x8 =>
 bif x8 then (
  some (a0,(⟨0,0,0,false⟩:aI),[],false)
 ) else (
   bnd (decide (0<(a0.Lost.length:Int))) fun x10 =>
   bif x10 then (
    bno (gix a0.Lost 0) fun x12 =>
    bnd (min a2 4096) fun x13 =>
    bnd (IntKind.wrap .i64 (x12.From+x13)) fun x14 =>
    bnd (min x12.To x14) fun x15 =>
    bno (gK a0.Lost (⟨x12.From,x15⟩:aG)) fun x16 =>
    bno (fH (⟨a0.Base,a0.Data,a0.Next,a0.Pieces,x16,a0.Closed,a0.Sent,a0.Again,a0.Done⟩:aN) (⟨x12.From,x15,a1,false⟩:aI)) fun x17 =>
    some (x17.1,x17.2.1,x17.2.2.1,x17.2.2.2)
   ) else (
     bno (dE a0) fun x18 =>
     bnd (IntKind.wrap .i64 (x18-a0.Next)) fun x19 =>
     bnd (decide (0<x19)) fun x20 =>
     bnd (decide (a0.Next<a3)) fun x21 =>
     bnd (x20&&x21) fun x22 =>
     bif x22 then (
      bnd (IntKind.wrap .i64 (a3-a0.Next)) fun x24 =>
      bnd (min (min x19 a2) x24) fun x25 =>
      bnd (IntKind.wrap .i64 (a0.Next+x25)) fun x26 =>
      bnd (IntKind.wrap .i64 (a0.Next+x25)) fun x27 =>
      bno (fH (⟨a0.Base,a0.Data,x27,a0.Pieces,a0.Lost,a0.Closed,a0.Sent,a0.Again,a0.Done⟩:aN) (⟨a0.Next,x26,a1,false⟩:aI)) fun x28 =>
      some (x28.1,x28.2.1,x28.2.2.1,x28.2.2.2)
     ) else (
       bnd (decide (x19=0)) fun x29 =>
       bno (gd (x29 == true) (jE a0) default) fun x30 =>
       bnd (x29&&x30) fun x31 =>
       bif x31 then (
        bno (dE a0) fun x33 =>
        bno (dE a0) fun x34 =>
        bno (fH a0 (⟨x33,x34,a1,false⟩:aI)) fun x35 =>
        some (x35.1,x35.2.1,x35.2.2.1,x35.2.2.2)
       ) else (
         some (a0,(⟨0,0,0,false⟩:aI),[],false)
       )
     )
   )
 )

def eT (a0:aH) (a1:Int) (a2:Int) (v10:Int):Option (aH×aI×(List UInt8)×Bool) :=
 bno (fI a0.Send a1 a2 v10) fun x11 =>
 some ((⟨a0.ID,x11.1,a0.Recv,(⟨a0.Out.Window,a0.Out.Limit,x11.1.Next,a0.Out.Read⟩:aY),a0.In,a0.Mine,a0.Hers⟩:aH),x11.2.1,x11.2.2.1,x11.2.2.2)
def iP (a0:aH) (a1:Int) (a2:Int) (a3:Int):Option (aH×aI×(List UInt8)×Bool) :=
 bno (dZ a0) fun x1 =>
 bnd (!decide (x1=0)) fun x2 =>
 bnd (decide (a3<0)) fun x3 =>
 bnd (x2||x3) fun x4 =>
 bif x4 then (
  some (a0,(⟨0,0,0,false⟩:aI),[],false)
 ) else (
   bnd (IntKind.wrap .i64 (a0.Out.Limit-a0.Send.Next)) fun x12 =>
   bnd (decide (a3<x12)) fun x13 =>
   bif x13 then (
    bnd (IntKind.wrap .i64 (a0.Send.Next+a3)) fun x15 =>
    eT a0 a1 a2 x15
   ) else (
     eT a0 a1 a2 a0.Out.Limit
   )
 )

def lN (a0:(List aG)) (a1:aG):Option (List aG) :=
 bno (gA a0) fun x1 =>
 bnd (!decide (x1=0)) fun x2 =>
 bno (gd (x2 == false) (jF (⟨a1.From,a1.To⟩:aG)) default) fun x3 =>
 bnd (x2||(!x3)) fun x4 =>
 bif x4 then (
  some a0
 ) else (
   bno (lM (⟨a1.From,a1.To⟩:aG)) fun x6 =>
   bno (iQ a0 x6 0) fun x7 =>
   some x7
 )

def eD (a0:aN) (a1:Int):Nat→(List aI)→Int→(List aG)→Bool→Option aN
 | 0,_,_,_,_=>none
 | n0 + 1,v14,v15,v16,v17 =>
   bnd (decide (v15<(a0.Pieces.length:Int))) fun x28 =>
   bif x28 then (
    bno (gix a0.Pieces v15) fun x30 =>
    bnd (!decide (x30.Path=a1)) fun x31 =>
    bif x31 then (
     bno (app 32 v14 ([x30]:(List aI))) fun x33 =>
     bnd (IntKind.wrap .i64 (v15+1)) fun x34 =>
     (eD a0 a1 n0) x33 x34 v16 v17
    ) else (
      bno (lN v16 (⟨x30.From,x30.To⟩:aG)) fun x35 =>
      bnd (v17||x30.Fin) fun x36 =>
      bnd (IntKind.wrap .i64 (v15+1)) fun x37 =>
      (eD a0 a1 n0) v14 x37 x35 x36
    )
   ) else (
     some (⟨a0.Base,a0.Data,a0.Next,v14,v16,a0.Closed,a0.Sent,v17,a0.Done⟩:aN)
   )
def mJ (a0:aN) (a1:Int):Option aN :=
 bno (eL a0) fun x1 =>
 bnd (!decide (x1=0)) fun x2 =>
 bif x2 then (
  some a0
 ) else (
   eD a0 a1 fuel ([]:(List aI)) 0 a0.Lost a0.Again
 )

def mG (a0:aH) (a1:Int):Option aH :=
 bno (fY a0) fun x1 =>
 bnd (decide (x1=0)) fun x2 =>
 bif x2 then (
  bno (mJ a0.Send a1) fun x4 =>
  some (⟨a0.ID,x4,a0.Recv,a0.Out,a0.In,a0.Mine,a0.Hers⟩:aH)
 ) else (
   some a0
 )

def kV (a0:aH) (a1:Int):Option aH :=
 bno (dZ a0) fun x1 =>
 bnd (decide (x1=0)) fun x2 =>
 bnd (decide (0≤a1)) fun x3 =>
 bnd (x2&&x3) fun x4 =>
 bnd (decide (a1≤255)) fun x5 =>
 bnd (x4&&x5) fun x6 =>
 bif x6 then (
  some (⟨a0.ID,a0.Send,a0.Recv,a0.Out,a0.In,a1,a0.Hers⟩:aH)
 ) else (
   some a0
 )

def jD (a0:aH) (a1:Int):Option aH :=
 bno (fY a0) fun x1 =>
 bnd (decide (x1=0)) fun x2 =>
 bnd (decide (a0.Hers=(-1))) fun x3 =>
 bnd (x2&&x3) fun x4 =>
 bnd (decide (0≤a1)) fun x5 =>
 bnd (x4&&x5) fun x6 =>
 bnd (decide (a1≤255)) fun x7 =>
 bnd (x6&&x7) fun x8 =>
 bif x8 then (
  some (⟨a0.ID,a0.Send,a0.Recv,a0.Out,a0.In,a0.Mine,a1⟩:aH)
 ) else (
   some a0
 )

def iX (a0 : aH) (a1 : dC):Option (aH×bL) :=
 bno (remI a1.Kind 10) fun x1 =>
 bnd (decide (x1=0)) fun x2 =>
 bif x2 then (
  bno (kU a0 a1.Text) fun x4 =>
  some (x4.1,(⟨x4.2.1,x4.2.2,[],false,(⟨0,0,0,false⟩:aI)⟩:bL))
 ) else (
   bnd (decide (x1=1)) fun x5 =>
   bif x5 then (
    bno (kY a0) fun x7 =>
    some (x7.1,(⟨0,x7.2,[],false,(⟨0,0,0,false⟩:aI)⟩:bL))
   ) else (
     bnd (decide (x1=2)) fun x8 =>
     bif x8 then (
      bno (mE a0 a1.N) fun x10 =>
      some (x10.1,(⟨0,x10.2.2.2,x10.2.1,x10.2.2.1,(⟨0,0,0,false⟩:aI)⟩:bL))
     ) else (
       bnd (decide (x1=3)) fun x11 =>
       bif x11 then (
        bno (kW a0) fun x13 =>
        some (x13.1,(⟨x13.2,0,[],false,(⟨0,0,0,false⟩:aI)⟩:bL))
       ) else (
         bnd (decide (x1=4)) fun x14 =>
         bif x14 then (
          bno (jU a0 a1.N a1.Text a1.Flag) fun x16 =>
          some (x16.1,(⟨x16.2.1,x16.2.2,[],false,(⟨0,0,0,false⟩:aI)⟩:bL))
         ) else (
           bnd (decide (x1=5)) fun x17 =>
           bif x17 then (
            bno (iR a0 a1.N) fun x19 =>
            some (x19.1,(⟨0,x19.2,[],false,(⟨0,0,0,false⟩:aI)⟩:bL))
           ) else (
             bnd (decide (x1=6)) fun x20 =>
             bif x20 then (
              bno (jV a0 a1.N a1.Flag) fun x22 =>
              some (x22,(⟨0,0,[],false,(⟨0,0,0,false⟩:aI)⟩:bL))
             ) else (
               bnd (decide (x1=7)) fun x23 =>
               bif x23 then (
                bno (iP a0 a1.N a1.M a1.M) fun x25 =>
                some (x25.1,(⟨0,0,x25.2.2.1,x25.2.2.2,x25.2.1⟩:bL))
               ) else (
                 bnd (decide (x1=8)) fun x26 =>
                 bif x26 then (
                  bno (mG a0 a1.N) fun x28 =>
                  some (x28,(⟨0,0,[],false,(⟨0,0,0,false⟩:aI)⟩:bL))
                 ) else (
                   bnd (decide (a1.M=9)) fun x29 =>
                   bif x29 then (
                    bno (kV a0 a1.N) fun x31 =>
                    some (x31,(⟨0,0,[],false,(⟨0,0,0,false⟩:aI)⟩:bL))
                   ) else (
                     bnd (decide (a1.M=8)) fun x32 =>
                     bif x32 then (
                      bno (jD a0 a1.N) fun x34 =>
                      some (x34,(⟨0,0,[],false,(⟨0,0,0,false⟩:aI)⟩:bL))
                     ) else (
                       some (a0,(⟨0,0,[],false,(⟨0,0,0,false⟩:aI)⟩:bL))
                     )
                   )
                 )
               )
             )
           )
         )
       )
     )
   )
 )

def oD (a0:aN):Option Bool :=
 bnd (decide (a0.Data=([]:List UInt8))) fun x1 =>
 bnd (a0.Done&&x1) fun x2 =>
 some x2

def mF (a0:aH):Option Bool :=
 bno (kX a0) fun x1 =>
 bno (gd (x1 == false) (oD a0.Send) default) fun x2 =>
 bno (gd ((x1 == false)&&(x2 == true)) (gT a0.Recv) default) fun x3 =>
 bnd (x2&&x3) fun x4 =>
 bnd (x1||x4) fun x5 =>
 some x5

def kZ (a0:aH):Option Int :=
 bnd (decide (0≤a0.Recv.End)) fun x1 =>
 bif x1 then (
  some 3
 ) else (
   some 2
 )

def mD (a0:aH) (a1:Int):Option Bool :=
 bno (iP a0 0 1 a1) fun x1 =>
 some x1.2.2.2

def dJ (a1:(List dC)) (x6:(aH×Int)):Nat→Int→Int→Int→(List UInt8)→Int→(List aI)→(List aG)→Bool→Bool→Bool→Bool→Int→(List UInt8)→(List aS)→Int→Int→Int→Int→Int→Int→Int→Int→Int→Int→Int→Int→Int→(List UInt8)→Int→(List aI)→(List aG)→Bool→Bool→Bool→Bool→Int→(List UInt8)→(List aS)→Int→Int→Int→Int→Int→Int→Int→Int→Int→Int→Int→Option Bool
 | 0,_,_,_,_,_,_,_,_,_,_,_,_,_,_,_,_,_,_,_,_,_,_,_,_,_,_,_,_,_,_,_,_,_,_,_,_,_,_,_,_,_,_,_,_,_,_,_,_,_=>none
 | n0 + 1,v48,v49,v50,v51,v52,v53,v54,v55,v56,v57,v58,v59,v60,v61,v62,v63,v64,v65,v66,v67,v68,v69,v70,v71,v72,v73,v74,v75,v76,v77,v78,v79,v80,v81,v82,v83,v84,v85,v86,v87,v88,v89,v90,v91,v92,v93,v94,v95,v96 =>
   bnd (decide (v48<(a1.length:Int))) fun x133 =>
   bnd (decide (x6.2=0)) fun x134 =>
   bnd (x133&&x134) fun x135 =>
   bif x135 then (
    bno (gix a1 v48) fun x137 =>
    bno (mS ((⟨v49,(⟨v50,v51,v52,v53,v54,v55,v56,v57,v58⟩:aN),(⟨(⟨v59,v60,v61⟩:aW),v62⟩:bE),(⟨v63,v64,v65,v66⟩:aY),(⟨v67,v68,v69,v70⟩:aY),v71,v72⟩:aH)) x137) fun x138 =>
    bno (gix a1 v48) fun x139 =>
    bno (iX ((⟨v73,(⟨v74,v75,v76,v77,v78,v79,v80,v81,v82⟩:aN),(⟨(⟨v83,v84,v85⟩:aW),v86⟩:bE),(⟨v87,v88,v89,v90⟩:aY),(⟨v91,v92,v93,v94⟩:aY),v95,v96⟩:aH)) x139) fun x140 =>
    bnd ((decide (x138.2.N=x140.2.N)&&(decide (x138.2.Code=x140.2.Code)&&(decide (x138.2.Text=x140.2.Text)&&((x138.2.End == x140.2.End)&&((decide (x138.2.P.From=x140.2.P.From)&&(decide (x138.2.P.To=x140.2.P.To)&&(decide (x138.2.P.Path=x140.2.P.Path)&&((x138.2.P.Fin == x140.2.P.Fin)&&true))))&&true)))))) fun x141 =>
    bno (gd ((!x141) == false) (jQ x138.1) default) fun x142 =>
    bno (gd ((!x141) == false) (fG x142 x140.1) default) fun x143 =>
    bnd ((!x141)||(!x143)) fun x144 =>
    bno (gd (x144 == false) (nR x138.1) default) fun x145 =>
    bno (gd (x144 == false) (fY x140.1) default) fun x146 =>
    bnd (!decide (x145=x146)) fun x147 =>
    bnd (x144||x147) fun x148 =>
    bno (gd (x148 == false) (rD x138.1) default) fun x149 =>
    bno (gd (x148 == false) (mF x140.1) default) fun x150 =>
    bnd (!(x149 == x150)) fun x151 =>
    bnd (x148||x151) fun x152 =>
    bno (gd (x152 == false) (oU x138.1) default) fun x153 =>
    bno (gd (x152 == false) (kZ x140.1) default) fun x154 =>
    bnd (!decide (x153=x154)) fun x155 =>
    bnd (x152||x155) fun x156 =>
    bno (gd (x156 == false) (gix a1 v48) default) fun x157 =>
    bno (gd (x156 == false) (rA x138.1 x157.M) default) fun x158 =>
    bno (gd (x156 == false) (gix a1 v48) default) fun x159 =>
    bno (gd (x156 == false) (mD x140.1 x159.M) default) fun x160 =>
    bnd (!(x158 == x160)) fun x161 =>
    bnd (x156||x161) fun x162 =>
    bno (gd (x162 == false) (qC x138.1 ((⟨v49,(⟨v50,v51,v52,v53,v54,v55,v56,v57,v58⟩:aN),(⟨(⟨v59,v60,v61⟩:aW),v62⟩:bE),(⟨v63,v64,v65,v66⟩:aY),(⟨v67,v68,v69,v70⟩:aY),v71,v72⟩:aH))) default) fun x163 =>
    bno (gd (x162 == false) (fG x140.1 ((⟨v73,(⟨v74,v75,v76,v77,v78,v79,v80,v81,v82⟩:aN),(⟨(⟨v83,v84,v85⟩:aW),v86⟩:bE),(⟨v87,v88,v89,v90⟩:aY),(⟨v91,v92,v93,v94⟩:aY),v95,v96⟩:aH))) default) fun x164 =>
    bnd (!(x163 == x164)) fun x165 =>
    bnd (x162||x165) fun x166 =>
    bif x166 then (
     some false
    ) else (
      bnd (IntKind.wrap .i64 (v48+1)) fun x168 =>
      (dJ a1 x6 n0) x168 x138.1.ID x138.1.Send.Base x138.1.Send.Data x138.1.Send.Next x138.1.Send.Pieces x138.1.Send.Lost x138.1.Send.Closed x138.1.Send.Sent x138.1.Send.Again x138.1.Send.Done x138.1.Recv.Recv.Base x138.1.Recv.Recv.Ready x138.1.Recv.Recv.Parts x138.1.Recv.End x138.1.Out.Window x138.1.Out.Limit x138.1.Out.Used x138.1.Out.Read x138.1.In.Window x138.1.In.Limit x138.1.In.Used x138.1.In.Read x138.1.Mine x138.1.Hers x140.1.ID x140.1.Send.Base x140.1.Send.Data x140.1.Send.Next x140.1.Send.Pieces x140.1.Send.Lost x140.1.Send.Closed x140.1.Send.Sent x140.1.Send.Again x140.1.Send.Done x140.1.Recv.Recv.Base x140.1.Recv.Recv.Ready x140.1.Recv.Recv.Parts x140.1.Recv.End x140.1.Out.Window x140.1.Out.Limit x140.1.Out.Used x140.1.Out.Read x140.1.In.Window x140.1.In.Limit x140.1.In.Used x140.1.In.Read x140.1.Mine x140.1.Hers
    )
   ) else (
     bno (lO) fun x169 =>
     some x169
   )
def iE (a0:tW) (a1:(List dC)):Option Bool :=
 bno (nD a1 40) fun x1 =>
 bnd (!decide (x1=0)) fun x2 =>
 bif x2 then (
  bno (lO) fun x4 =>
  some x4
 ) else (
   bno (rQ a0.c0 a0.c1 a0.c2) fun x5 =>
   bno (mZ a0.c0 a0.c1 a0.c2) fun x6 =>
   bnd (!decide (x5.2=x6.2)) fun x7 =>
   bno (gd (x7 == false) (jQ x5.1) default) fun x8 =>
   bno (gd (x7 == false) (fG x8 x6.1) default) fun x9 =>
   bnd (x7||(!x9)) fun x10 =>
   bif x10 then (
    some false
   ) else (
     dJ a1 x6 fuel 0 x5.1.ID x5.1.Send.Base x5.1.Send.Data x5.1.Send.Next x5.1.Send.Pieces x5.1.Send.Lost x5.1.Send.Closed x5.1.Send.Sent x5.1.Send.Again x5.1.Send.Done x5.1.Recv.Recv.Base x5.1.Recv.Recv.Ready x5.1.Recv.Recv.Parts x5.1.Recv.End x5.1.Out.Window x5.1.Out.Limit x5.1.Out.Used x5.1.Out.Read x5.1.In.Window x5.1.In.Limit x5.1.In.Used x5.1.In.Read x5.1.Mine x5.1.Hers x6.1.ID x6.1.Send.Base x6.1.Send.Data x6.1.Send.Next x6.1.Send.Pieces x6.1.Send.Lost x6.1.Send.Closed x6.1.Send.Sent x6.1.Send.Again x6.1.Send.Done x6.1.Recv.Recv.Base x6.1.Recv.Recv.Ready x6.1.Recv.Recv.Parts x6.1.Recv.End x6.1.Out.Window x6.1.Out.Limit x6.1.Out.Used x6.1.Out.Read x6.1.In.Window x6.1.In.Limit x6.1.In.Used x6.1.In.Read x6.1.Mine x6.1.Hers
   )
 )
end Go.Fn
