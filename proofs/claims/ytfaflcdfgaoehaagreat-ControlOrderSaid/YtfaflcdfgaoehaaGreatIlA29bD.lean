/-
  A part of the proof: rules and plain facts. No condition.
-/
import Derived.Test.YtfaflcdfgaoehaaGreatIlEq
set_option linter.all false
open Go.RowKit (Below)
namespace Go.IL
def cpy {α:Type} (xs ys:List α):List α:=ys.take xs.length ++ xs.drop ys.length
theorem cpy_len {α:Type} (xs ys:List α):(cpy xs ys).length=xs.length:=by simp [cpy]; omega
theorem aFR {α:Type} {xs ys zs:List α} {n:Nat} (h:cpy xs ys=zs) (hl:xs.length=n):zs.length=n:=by rw [← h,cpy_len,hl]
section
variable {P:Program} {O:cY} {N:Nat} {S S':St} {o:Oper} {t:Nat} {Q:Exit → St → Prop}
theorem aFJ {α:Type} (f:Enc0 α) (xs ys:List α):fH (D.flat (xs.map f.d)) 0 ((D.flat (ys.map f.d)).take (min ys.length xs.length * f.sz))=D.flat ((cpy xs ys).map f.d):=by
 have e1:(D.flat (ys.map f.d)).take (min ys.length xs.length * f.sz)=D.flat ((ys.take xs.length).map f.d):=by
  have h:=sI f ys (min ys.length xs.length)
  have hl:(D.flat ((ys.take (min ys.length xs.length)).map f.d)).length=min ys.length xs.length * f.sz:=by
   rw [f.flat_len,List.length_take]; congr 1; omega
  rw [h,← hl,List.take_append_of_le_length (Nat.le_refl _),List.take_length]
  congr 2
  rcases Nat.le_total ys.length xs.length with h | h
  · rw [Nat.min_eq_left h,List.take_length,List.take_of_length_le h]
  · rw [Nat.min_eq_right h]
 rw [e1]
 unfold fH cpy
 have e2:(D.flat ((ys.take xs.length).map f.d)).length=min ys.length xs.length * f.sz:=by rw [f.flat_len,List.length_take]; congr 1; omega
 have e3:(D.flat (xs.map f.d)).drop (min ys.length xs.length * f.sz)=D.flat ((xs.drop ys.length).map f.d):=by
  have h:=sI f xs (min ys.length xs.length)
  have hl:(D.flat ((xs.take (min ys.length xs.length)).map f.d)).length=min ys.length xs.length * f.sz:=by
   rw [f.flat_len,List.length_take]; congr 1; omega
  rw [h,← hl,List.drop_append_of_le_length (Nat.le_refl _),List.drop_length,List.nil_append]
  congr 2
  rcases Nat.le_total ys.length xs.length with h | h
  · rw [Nat.min_eq_left h]
  · rw [Nat.min_eq_right h,List.drop_length,List.drop_of_length_le h]
 rw [e2,Nat.zero_add,e3,List.take_zero,List.nil_append,f.flat_append]
theorem aDy {α:Type} (f:Enc0 α) {T T2 e:TypeId} {x y:Operand} {id n:Nat} {e':TypeId} {xs ys zs:List α} {z:Option Value} {bytes:Nat} (ho:o.op = .call { callee:=.builtin .copy,args:=#[x,y],argTypes:=#[T,T2] }) (hd:o.dst=some t) (ht:t < N)
 (hu:P.underlying T=some (.slice e)) (hi:TI P e z f.sz bytes) (hx:S.op x = .osl id f.sz n) (hl:xs.length=n) (he:S.ent id = .blk e' (D.flat (xs.map f.d)))
 (hy:∀ E β a,Rel O N S E β a → Src E β (a.eval y) ys.length (D.flat (ys.map f.d))) (hz:cpy xs ys=zs):IOp P O N o S ((S.setE id (.blk e' (D.flat (zs.map f.d)))).set t (.int .i64 ((min ys.length n:Nat):Int))):=by
 intro E β a hr next Q hn
 subst hz
 have h1:Rd E β (a.eval x) (.osl id f.sz n):=hx ▸ hr.op x
 have hone:((D.flat (ys.map f.d)).take (min ys.length n * f.sz)).all D.one=true:=vB (f.one ys) _
 generalize hv:a.eval x=v at h1
 cases h1 with
 | nosl =>
   have hx0:xs=[]:=List.length_eq_zero_iff.1 hl
   subst hx0
   have e0:cpy ([]:List α) ys=[]:=by simp [cpy]
   rw [e0] at hn
   have hsame:Rel O N (S.setE id (.blk e' (D.flat (([]:List α).map f.d)))) E β a:=hr.same (fun _=>rfl) (fun j=>by
    by_cases hj:j=id
    · subst hj; rw [wV,he]
    · rw [tN hj])
   have hrun0:∀ r,(Builtin.copy_ #[T,T2] o.type #[a.eval x,a.eval y]).run P E.w=r → (execOp a.eval o).run P E.w=r.andThen fun v w'=>.ok (.value v) w':=fun r hr'=>by
    simp [execOp,ho,resolve,invoke,builtin,hr']
   have hra:(Builtin.copy_ #[T,T2] o.type #[a.eval x,a.eval y]).run P E.w = .ok (goInt 0) E.w:=by
    have hl0:∀ q:Addr,(loadCells q 0).run P E.w = .ok #[] E.w:=fun q=>by simpa using run_loadCells_list (P:=P) E.w q [] (by simp)
    have hmn:∀ k,Nat.min k 0=0:=fun k=>Nat.min_zero k
    rcases hy E β a hr with ⟨hyv | ⟨ad,sc,hyv⟩,_,_⟩ | ⟨yb,yoff,ycap,us,hyv,_,_⟩ <;>
    · rw [hv,hyv]
      simp [Builtin.copy_,run_underlying hu,Builtin.lenOf,Builtin.firstCells,hi.run_size,hmn,storeCells,hl0]
   unfold Oper.wp
   rw [hrun0 _ hra]
   simp only [Result.andThen_ok,Oper.upon,hd]
   exact hn E β _ (hsame.set ht (by rw [Nat.min_zero]; unfold goInt; exact .int _ _ _))
 | osl _ _ b _ cap _ hb hc hsz c e2 f2 hcap hcs hcm =>
   subst hl
   exact aBZ ho hd ht hu hi he hy (f.flat_len ys) hone (by rw [f.flat_len]; omega) rfl (aFJ f xs ys) E β a hr (by
    rw [hv]; exact .rsl _ _ _ 0 _ cap b 0 hb hc hsz ⟨fun _=>rfl,Nat.le_refl _⟩ c e2 f2 hcap (by omega) hcm) next Q hn
theorem aDS {E:Env} {β:cL} {v:Value} {l:List D} (h:Rd E β v (.slice true l)) :
 (v = .slice none 0 0 ∧ l=[]) ∨ (∃ b off sz vs,v = .slice (some ⟨b,off,none⟩) l.length l.length ∧ (∀ d ∈ l,d.cells.length=sz) ∧ 0 < sz ∧ E.row b off vs ∧ RdL E β0 vs (D.flat l)) ∨ ∃ ad,v = .slice (some ad) 0 0 ∧ l=[]:=by
 cases h with
 | slice _ b off len cap sz _ vs _ hl hc hf hz hsz hr hv=>subst hl; rw [hf rfl]; exact .inr (.inl ⟨b,off,sz,vs,rfl,hz,hsz,hr,hv⟩)
 | nslice=>exact .inl ⟨rfl,rfl⟩
 | eslice _ ad cap _ hf=>rw [hf rfl]; exact .inr (.inr ⟨ad,rfl,rfl⟩)
theorem tF {E:Env} {β:cL} {a:Act} (hr:Rel O N S E β a) {len cap:Nat} {y m:Operand} {k1 k2:IntKind} {h:Int} (hy:SV S y (.int k1 h)) (hm:SV S m (.int k2 h)) (h0:0 ≤ h) (h1:h ≤ cap) :
 (Instr.sliceBounds true len cap none (some (a.eval y)) (some (a.eval m))).run P E.w = .ok (0,h.toNat,h.toNat) E.w:=by
 have e1:(h.toNat:Int)=h:=by omega
 simp [Instr.sliceBounds,Instr.sliceBound,fX (hy.rd hr),fX (hm.rd hr),asIntOf,h0,h1,e1]
theorem aCu {T e:TypeId} {x y m:Operand} {s r:List D} {f:Bool} {h:Int} {k1 k2:IntKind} {z:Option Value} {size bytes:Nat} (ho:o.op = .slice T x none (some y) (some m)) (hd:o.dst=some t) (ht:t < N) (hu:P.underlying T=some (.slice e)) (hi':TI P e z size bytes)
 (hx:SV S x (.slice f s)) (hz:∀ d ∈ s,d.cells.length=size) (hy:SV S y (.int k1 h)) (hm:SV S m (.int k2 h)) (h0:0 ≤ h) (h2:h ≤ s.length) (hr':s.take h.toNat=r):IOp P O N o S (S.set t (.slice true r)) :=
 fI hd ht fun E β a hr=>by
  subst hr'
  rcases nZ (hx.rd hr) with ⟨hev,rfl⟩ | ⟨b,off,cap,sz,vs,hev,hc,_,hzz,hsp,hrow,hvs⟩ | ⟨ad,cap,hev,rfl⟩
  · have e1:h=0:=by simp at h2; omega
    subst e1
    have hb:=tF (P:=P) hr (len:=0) (cap:=0) hy hm (Int.le_refl 0) (Int.le_refl 0)
    refine ⟨.slice none 0 0,?_,by simpa using Rd.nslice β true⟩
    simp [execOp,ho,hev,Instr.sliceAt,Instr.slice,run_underlying hu,hb,hi'.run_size]
  · have hb:=tF (P:=P) hr (len:=s.length) (cap:=cap) hy hm h0 (by omega)
    have hlen:(s.take h.toNat).length=h.toNat:=by rw [List.length_take]; omega
    by_cases hs0:h.toNat=0
    · have hs:s.take h.toNat=[]:=by rw [hs0]; rfl
      refine ⟨.slice (some ⟨b,off,none⟩) 0 0,?_,by rw [hs]; exact .eslice _ _ 0 true (fun _=>rfl)⟩
      rw [hs0] at hb
      simp [execOp,ho,hev,Instr.sliceAt,Instr.slice,run_underlying hu,hb,hi'.run_size,gU]
    · have hflat:=hvs.take (h.toNat * size)
      have hsplit:D.flat s=D.flat (s.take h.toNat) ++ D.flat (s.drop h.toNat):=by
       have:D.flat (s.take h.toNat) ++ D.flat (s.drop h.toNat)=D.flat (s.take h.toNat ++ s.drop h.toNat):=by simp only [D.flat]; rw [← List.flatMap_append]
       rw [this,List.take_append_drop]
      have hfl:(D.flat (s.take h.toNat)).length=h.toNat * size:=by
       have:∀ l:List D,(∀ d ∈ l,d.cells.length=size) → (D.flat l).length=l.length * size:=by
        intro l
        induction l with
        | nil=>intro _; simp [D.flat]
        | cons d l ih=>intro hh; have h1:=ih (fun d' hd'=>hh d' (by simp [hd'])); have h2:=hh d (by simp); simp only [D.flat,List.flatMap_cons,List.length_append,List.length_cons] at *; rw [h1,h2,Nat.add_mul]; omega
       rw [this _ (fun d hd=>hz d (List.mem_of_mem_take hd)),hlen]
      rw [hsplit,← hfl,List.take_append_of_le_length (Nat.le_refl _),List.take_length] at hflat
      refine ⟨.slice (some ⟨b,off,none⟩) h.toNat h.toNat,?_,.slice _ b off _ _ size true (vs.take (D.flat (s.take h.toNat)).length) _ hlen (Nat.le_refl _) (fun _=>rfl) (fun d hd=>hz d (List.mem_of_mem_take hd)) ?_ (fun k v hk=>?_) hflat⟩
      · simp [execOp,ho,hev,Instr.sliceAt,Instr.slice,run_underlying hu,hb,hi'.run_size,gU]
      · have:s ≠ []:=by rintro rfl; simp at h2; omega
        obtain ⟨d,hd⟩:=List.exists_mem_of_ne_nil s this
        have h1:=hz d hd
        have h3:=hzz d hd
        omega
      · rw [List.getElem?_take] at hk
        split at hk
        · exact hrow k v hk
        · cases hk
  · have e1:h=0:=by simp at h2; omega
    subst e1
    have hb:=tF (P:=P) hr (len:=0) (cap:=cap) hy hm (Int.le_refl 0) (by omega)
    refine ⟨.slice (some ad) 0 0,?_,by simpa using Rd.eslice β ad 0 true (fun _=>rfl)⟩
    simp [execOp,ho,hev,Instr.sliceAt,Instr.slice,run_underlying hu,hb,hi'.run_size,Addr.add]
theorem aBN {T e:TypeId} {x y:Operand} {z:Value} {size bytes m:Nat} {l es:List D} (id':Nat)
 (ho:o.op = .call { callee:=.builtin .append,args:=#[x,y],argTypes:=#[T,T] }) (hd:o.dst=some t) (ht:t < N)
 (hu:P.underlying T=some (.slice e)) (hi:TI P e (some z) size bytes) (hz:z.cells.size=size) (hsp:0 < size) (hfr:S.ent id' = .fresh)
 (hx:SV S x (.slice true l)) (hl:(D.flat l).length=l.length * size) (hy:∀ E β a,Rel O N S E β a → Src E β (a.eval y) m es) (hes:es.length=m * size) (hne:0 < m)
 (hm:l.length + m ≤ maxLen) (hb:(l.length + m) * bytes ≤ 140737488355328) :
 IOp P O N o S ((S.setE id' (.blk e (D.flat l ++ es))).set t (.osl id' size (l.length + m))):=by
 have hs1:S.sl=S.sl:=rfl
 have hs2:∀ j,S.ent j=S.ent j ∨ S.ent j = .none:=fun _=>.inl rfl
 intro E β a hr next Q hn
 obtain ⟨i,hi1,hi2,hi3,hi4⟩:=hi.at
 have hfre:β id'=none:=by have:=hr.h.ent id'; rw [hfr] at this; exact this
 have hrun:∀ v,(Builtin.append_ #[T,T] o.type #[a.eval x,a.eval y]).run P E.w=v → (execOp a.eval o).run P E.w=v.andThen fun v w'=>.ok (.value v) w':=fun v hv=>by
  simp [execOp,ho,resolve,invoke,builtin,hv]
 have hts:t < a.tmps.size:=hr.n ▸ ht
 let S2:St:=(S.setE id' (.blk e (D.flat l ++ es))).set t (.osl id' size (l.length + m))
 have slots:∀ (E':Env) (β':cL) (v:Value),E.le E' → β.le β' → Rd E' β' v (.osl id' size (l.length + m)) → ∀ s,Rd E' β' ((a.put (some t) v).tmps.getD s undef) (S2.get s):=by
  intro E' β' v hle hβ hv s
  by_cases hst:t=s
  · subst hst
    simpa [S2,Act.put,St.get,St.set,bF,hts] using hv
  · have:=Rd.mono hle hβ (hr.sl s)
    simpa [S2,Act.put,St.get,St.set,St.setE,bF,hst,Array.getElem?_setIfInBounds_ne,hs1] using this
 let β':Nat → cL:=fun b j=>if j=id' then some b else β j
 have hβ:∀ b,β.le (β' b):=fun b j k hj=>by
  by_cases hji:j=id'
  · subst hji; rw [hfre] at hj; cases hj
  · simp [β',hji,hj]
 have hsame:∀ j,j ≠ id' → S2.ent j=S.ent j:=fun j hj=>by simp [S2,St.ent,entL,St.setE,St.set,bF,Ne.symm hj]
 have hother:∀ b j,j ≠ id' → (S2.ent j=S.ent j ∧ β' b j=β j) ∨ S2.ent j = .none:=by
  intro b j hj
  rw [hsame j hj]
  rcases hs2 j with h | h
  · exact .inl ⟨h,by simp [β',hj]⟩
  · exact .inr h
 have hheld:∀ j,j ≠ id' → (S2.ent j).held=true → (S.ent j).held=true:=fun j hj h=>by rw [← hsame j hj]; exact h
 have hheld0:∀ j,(S.ent j).held=true → (S.ent j).held=true:=fun j h=>by
  rcases hs2 j with h1 | h1
  · rw [← h1]; exact h
  · rw [h1] at h; cases h
 have hentid:S2.ent id' = .blk e (D.flat l ++ es):=by simp [S2,St.ent,entL,St.setE,St.set,bF]
 have fresh:∀ (vs us:List Value) (cap:Nat),RdL E β vs (D.flat l) → RdL E β us es → l.length + m ≤ cap → cap ≤ maxLen →
  (Builtin.append_ #[T,T] o.type #[a.eval x,a.eval y]).run P E.w = .ok (.slice (some ⟨E.w.heap.size,0,none⟩) (l.length + m) cap) (E.w.drew.alloc (.cells (vs.toArray ++ us.toArray ++ Builtin.zeroCells z.cells (cap - (l.length + m))) e)) →
  o.wp P a E.w next Q:=by
  intro vs us cap hvs hus hcap hcm hra
  unfold Oper.wp
  rw [hrun _ hra]
  simp only [Result.andThen_ok,Oper.upon,hd]
  let E':Env:=⟨E.w.drew.alloc (.cells (vs.toArray ++ us.toArray ++ Builtin.zeroCells z.cells (cap - (l.length + m))) e),fun b o=>b=E.w.heap.size ∨ E.X b o⟩
  have hs:Step O E E' E.w.heap.size :=
   ⟨rfl,rfl,rfl,by simp [E'],by simp [E'],.inl hr.h.size,fun k hk _=>heap_alloc_old E.w.drew _ hk,fun k o hk=>by simp [E',hk],fun _ h=>Nat.lt_irrefl _ (dZ h)⟩
  have hle:E.le E':=hs.le (fun o v h1 _=>by have:=World.block_lt_of_cell? _ _ h1; simp at this) (fun c e f h1=>by have:=dZ h1; simp at this)
  have hnew:E'.w.heap[E.w.heap.size]? = some (.cells (vs.toArray ++ us.toArray ++ Builtin.zeroCells z.cells (cap - (l.length + m))) e (0,0)):=heap_alloc_new E.w.drew _
  have hvl:=hvs.length
  have hul:=hus.length
  have hvs':=(RdL.mono hle (hβ E.w.heap.size) hvs).append (RdL.mono hle (hβ E.w.heap.size) hus)
  refine hn E' (β' E.w.heap.size) _ ⟨by simp [Act.put,hr.n],hr.nd.step hs,?_,slots E' _ _ hle (hβ _) ?_⟩
  · refine HOk.put hr.h hs hle (hβ _) (fun j hj=>hother _ j hj) ?_ (id:=id') (by simp [β']) ?_ (fun _ _=>trivial)
    · intro j hj hh hbj
      have:=hr.h.held_lt (hheld0 j (hheld j hj hh)) hbj
      omega
    · rw [hentid]
      exact ⟨vs ++ us,(Builtin.zeroCells z.cells (cap - (l.length + m))).toList,by rw [hnew]; simp,fun o=>.inl rfl,hvs'⟩
  · exact .osl _ _ E.w.heap.size _ cap size (by simp [β']) hcap hsp _ _ _ hnew
     (by simp only [Array.size_append,List.size_toArray,size_zeroCells,hz,hvl,hul,hl,hes]; rw [← Nat.add_mul,← Nat.add_mul]; exact Nat.mul_le_mul_right _ (by omega)) hcm
 rcases hy E β a hr with ⟨_,hm0,_⟩ | ⟨yb,yoff,ycap,us,hyv,hyr,hus⟩
 · omega
 · have hul:us.length=m * i.size:=by rw [hus.length,hes,hi3]
   have up:∀ {vs ds},RdL E β0 vs ds → RdL E β vs ds:=fun h=>RdL.mono (Env.le.refl _) (fun _ _ h=>by cases h) h
   rcases aDS (hx.rd hr) with ⟨hxv,rfl⟩ | ⟨b,off,sz,vs,hxv,_,_,hrow,hvs⟩ | ⟨ad,hxv,rfl⟩
   · simp only [List.length_nil,Nat.zero_add] at hm hb fresh ⊢
     have hra:=run_append_nil (P:=P) E.w T o.type e i z hu hi1 hi2 ⟨yb,yoff,none⟩ m ycap us hul hyr hne (by simp [maxLen] at hm; omega) (by rw [hi4]; omega)
     refine fresh [] us (grownCap E.w m 0 e) (.nil _) hus (by simpa using grownCap_ge _ _ _ _) (grownCap_le_maxLen _ _ _ _ (by simpa using hm)) ?_
     rw [hxv,hyv]
     simpa using hra
   · have hvl:vs.length=l.length * i.size:=by rw [hvs.length,hl,hi3]
     have hra:=run_append_grow (P:=P) E.w T o.type e i z hu hi1 hi2 ⟨b,off,none⟩ l.length l.length vs hvl (fun j u hj=>by rw [gU]; exact (hrow j u hj).1) ⟨yb,yoff,none⟩ m ycap us hul hyr (by omega) (by simp [maxLen] at hm; omega) (growslice_fits (by omega) (by rw [hi4]; exact hb))
     refine fresh vs us (grownCap E.w (l.length + m) l.length e) (up hvs) hus (grownCap_ge _ _ _ _) (grownCap_le_maxLen _ _ _ _ hm) ?_
     rw [hxv,hyv]
     exact hra
   · have hra:=run_append_grow (P:=P) E.w T o.type e i z hu hi1 hi2 ad 0 0 [] (by simp) (fun j u hj=>by simp at hj) ⟨yb,yoff,none⟩ m ycap us hul hyr (by omega) (by simp [maxLen] at hm; omega) (growslice_fits (by omega) (by rw [hi4]; simpa using hb))
     refine fresh [] us (grownCap E.w (0 + m) 0 e) (.nil _) hus (by simpa using grownCap_ge _ _ _ _) (grownCap_le_maxLen _ _ _ _ (by simpa using hm)) ?_
     rw [hxv,hyv]
     simpa using hra
theorem aDx {α:Type} (f:Enc α) {T e:TypeId} {x y m:Operand} {b:Bool} {k1 k2:IntKind} {xs r:List α} {h:Int} {z:Option Value} {bytes:Nat} (ho:o.op = .slice T x none (some y) (some m)) (hd:o.dst=some t) (ht:t < N) (hu:P.underlying T=some (.slice e)) (hi':TI P e z f.sz bytes)
 (hx:SV S x (.slice b (xs.map f.d))) (hy:SV S y (.int k1 h)) (hm:SV S m (.int k2 h)) (hc:cut xs 0 h=some r):IOp P O N o S (S.set t (.slice true (r.map f.d))):=by
 obtain ⟨⟨_,h0,h1⟩,hr⟩:=aC3 hc
 exact aCu ho hd ht hu hi' hx (f.len xs) hy hm h0 (by simpa using h1) (by rw [← hr,← List.map_take]; simp)
theorem aFA {α:Type} (f:Enc0 α) {T e:TypeId} {x y:Operand} {z:Value} {bytes:Nat} {xs ys zs:List α} (id':Nat)
 (ho:o.op = .call { callee:=.builtin .append,args:=#[x,y],argTypes:=#[T,T] }) (hd:o.dst=some t) (ht:t < N)
 (hu:P.underlying T=some (.slice e)) (hi:TI P e (some z) f.sz bytes) (hz:z.cells.size=f.sz)
 (hx:SV S x (.slice true (xs.map f.d))) (hfr:S.ent id' = .fresh)
 (hy:∀ E β a,Rel O N S E β a → Src E β (a.eval y) ys.length (D.flat (ys.map f.d))) (hne:0 < ys.length) (ha:app bytes xs ys=some zs) :
 IOp P O N o S ((S.setE id' (.blk e (D.flat (zs.map f.d)))).set t (.osl id' f.sz zs.length)):=by
 obtain ⟨⟨h1,h2⟩,rfl⟩:=aFa ha
 have:=aBN id' ho hd ht hu hi hz f.pos hfr hx (by rw [f.flat_len,List.length_map]) hy (f.flat_len ys) hne (by rw [List.length_map]; exact h1) (by rw [List.length_map]; exact h2)
 rwa [List.length_map,f.flat_append,← List.length_append] at this
theorem zE {ops:Array Oper} {o:Oper} {l:List Oper} {j tj t:Nat} {want g:Bool} (hg:o.guard=some (j,want)) (hj:(ops[j]?).bind (·.dst)=some tj)
 (hb:Grd S tj want g) (hd:(o.dst,rQ o.op)=(some t,true)) (ht:t < N) (h1:g=true → ILS P O N ops ({ o with guard:=none } :: l) S Q) (h2:g=false → ILS P O N ops l (S.set t (.cnd g (.bool false))) Q):ILS P O N ops (o :: l) S Q:=by
 obtain ⟨hd,hnd⟩:=Prod.mk.inj hd
 intro E β a hr
 have hwant:=hb.yields hr hj hg
 unfold wpListIn
 rw [hwant]
 cases g with
 | true =>
   simp only [if_true]
   have h3:=h1 rfl E β a hr
   have h4:Oper.wpIn (fen O.round) 0 P { o with guard:=none } a E.w (wpListIn (fen O.round) 0 P ops (fun e a' w'=>∃ S' E' β',E'.w=w' ∧ Rel O N S' E' β' a' ∧ Q e S') l) (fun e a' w'=>∃ S' E' β',E'.w=w' ∧ Rel O N S' E' β' a' ∧ Q e S'):=by
    unfold wpListIn at h3
    simp only [Region.wanted,if_true] at h3
    exact h3
   have h5:Oper.wpIn (fen O.round) 0 P o a E.w (wpListIn (fen O.round) 0 P ops (fun e a' w'=>∃ S' E' β',E'.w=w' ∧ Rel O N S' E' β' a' ∧ Q e S') l) (fun e a' w'=>∃ S' E' β',E'.w=w' ∧ Rel O N S' E' β' a' ∧ Q e S'):=h4
   exact h5
 | false =>
   simp only [Bool.false_eq_true,if_false,hd]
   exact ⟨fun _ _=>trivial,(h2 rfl E β _ (hr.set ht (.cnd _ _ _ _ (fun h=>by cases h) fun _=>rfl)))⟩
theorem Rel.uncnd {E:Env} {β:cL} {a:Act} (h:Rel O N S E β a) {t:Nat} {g:Bool} {d:D} (hS:S.get t = .cnd g d) (hg:g=true):Rel O N (S.set t d) E β a:=by
 refine ⟨h.n,h.nd,h.h,fun s=>?_⟩
 by_cases hs:t=s
 · subst hs
   have:=h.sl t
   rw [hS] at this
   have e:(S.set t d).get t=d:=by simp [St.get,St.set,bF]
   rw [e]
   generalize a.tmps.getD t undef=v at this ⊢
   cases this with
   | cnd _ _ _ _ k _=>exact k hg
 · have e:(S.set t d).get s=S.get s:=by simp [St.get,St.set,bF,hs]
   rw [e]; exact h.sl s
theorem oQ {ops:Array Oper} {l:List Oper} (t:Nat) {g:Bool} {d:D} (hS:S.get t = .cnd g d) (hg:g=true) (k:ILS P O N ops l (S.set t d) Q):ILS P O N ops l S Q :=
 fun E β a hr=>k E β a (hr.uncnd hS hg)
end
end Go.IL
namespace Go.IL
theorem M.{u} {α : Sort u} {a : α} : a = a := rfl
theorem sj_ {α : Type} {a b : α} (h : some a = some b) : a = b := Option.some.inj h
section
variable {P:Program} {O:cY} {N:Nat} {S S':St} {o:Oper} {t:Nat} {Q:Exit → St → Prop}
theorem lb {a b:Nat} (h:Nat.ble (a + 1) b=true):a < b:=Nat.le_of_ble_eq_true h
theorem svI {x:Operand} {k:IntKind} {n:Int} (h:S.op x = .int k n):SV S x (.int k n):=sv h
theorem svB {x:Operand} {n:Bool} (h:S.op x = .bool n):SV S x (.bool n):=sv h
theorem svR {x:Operand} {i j:Nat} (h:S.op x = .ref i j):SV S x (.ref i j):=sv h
theorem svL {x:Operand} {f:Bool} {l:List D} (h:S.op x = .slice f l):SV S x (.slice f l):=sv h
theorem svA {x:Operand} (l:List D) (h:S.op x = .agg l):SV S x (.agg l):=sv h
theorem svcI {x:Operand} {b:Bool} {k:IntKind} {n:Int} (h:S.op x = .cnd b (.int k n)) (hb:b=true):SV S x (.int k n):=svc h hb
theorem svcB {x:Operand} {b n:Bool} (h:S.op x = .cnd b (.bool n)) (hb:b=true):SV S x (.bool n):=svc h hb
theorem svcR {x:Operand} {b:Bool} {i j:Nat} (h:S.op x = .cnd b (.ref i j)) (hb:b=true):SV S x (.ref i j):=svc h hb
theorem svcL {x:Operand} {b:Bool} {f:Bool} {l:List D} (h:S.op x = .cnd b (.slice f l)) (hb:b=true):SV S x (.slice f l):=svc h hb
theorem svcA {x:Operand} {b:Bool} (l:List D) (h:S.op x = .cnd b (.agg l)) (hb:b=true):SV S x (.agg l):=svc h hb
theorem mvI {x:Operand} {k:IntKind} {n:Int} (ho:o.op = .move x) (hd:o.dst=some t) (ht:Nat.ble (t + 1) N=true) (hx:S.op x = .int k n):IOp P O N o S (S.set t (.int k n)):=aK ho hd (lb ht) (sv hx)
theorem mvB {x:Operand} {n:Bool} (ho:o.op = .move x) (hd:o.dst=some t) (ht:Nat.ble (t + 1) N=true) (hx:S.op x = .bool n):IOp P O N o S (S.set t (.bool n)):=aK ho hd (lb ht) (sv hx)
theorem mvR {x:Operand} {i j:Nat} (ho:o.op = .move x) (hd:o.dst=some t) (ht:Nat.ble (t + 1) N=true) (hx:S.op x = .ref i j):IOp P O N o S (S.set t (.ref i j)):=aK ho hd (lb ht) (sv hx)
theorem mvL {x:Operand} {f:Bool} {l:List D} (ho:o.op = .move x) (hd:o.dst=some t) (ht:Nat.ble (t + 1) N=true) (hx:S.op x = .slice f l):IOp P O N o S (S.set t (.slice f l)):=aK ho hd (lb ht) (sv hx)
theorem asI {x:Operand} {k:IntKind} {n:Int} (ho:o.op = .assign x) (hd:o.dst=some t) (ht:Nat.ble (t + 1) N=true) (hx:S.op x = .int k n):IOp P O N o S (S.set t (.int k n)):=aE ho hd (lb ht) (sv hx)
theorem asB {x:Operand} {n:Bool} (ho:o.op = .assign x) (hd:o.dst=some t) (ht:Nat.ble (t + 1) N=true) (hx:S.op x = .bool n):IOp P O N o S (S.set t (.bool n)):=aE ho hd (lb ht) (sv hx)
def LA (P:Program) (T:TypeId) (u:TypeDesc) (z:Option Value) (size bytes:Nat) (g:Bool):Prop:=P.underlying T=some u ∧ gJ P T=g ∧ TI P T z size bytes ∧ 0 < size
theorem LA.mk {T:TypeId} {u:TypeDesc} {z:Option Value} {size bytes:Nat} {g:Bool} (h1:P.underlying T=some u) (h2:gJ P T=g) (h3:TI P T z size bytes) (h4:0 < size):LA P T u z size bytes g:=⟨h1,h2,h3,h4⟩
theorem lra {T:TypeId} {x:Operand} {u:TypeDesc} {z:Option Value} {size bytes:Nat} {id off:Nat} {e:TypeId} {ds:List D} (cs:List D) (l:LA P T u z size bytes true) (ho:o.op = .load T x) (hd:o.dst=some t) (ht:Nat.ble (t + 1) N=true)
 (hx:S.op x = .ref id off) (he:S.ent id = .blk e ds) (hn:off + size ≤ ds.length) (hdd:(ds.drop off).take size=cs):IOp P O N o S (S.set t (.agg cs)):=bY ho hd (lb ht) l.1 l.2.1 l.2.2.1 l.2.2.2 (sv hx) he hn hdd
theorem lrL {T:TypeId} {x:Operand} {u:TypeDesc} {z:Option Value} {size bytes:Nat} {id off:Nat} {e:TypeId} {ds r:List D} {f:Bool} {m:List D} (l:LA P T u z size bytes false) (ho:o.op = .load T x) (hd:o.dst=some t) (ht:Nat.ble (t + 1) N=true)
 (hx:S.op x = .ref id off) (he:S.ent id = .blk e ds) (hn:off + size ≤ ds.length) (hdd:ds.drop off = .slice f m :: r):IOp P O N o S (S.set t (.slice f m)):=aG ho hd (lb ht) l.1 l.2.1 l.2.2.1 l.2.2.2 (sv hx) he hn hdd
theorem rva {x:Nat} {T:TypeId} {id off:Nat} {e:TypeId} {ds cs:List D} {u:TypeDesc} {z:Option Value} {size bytes:Nat} (l:LA P T u z size bytes true) (hx:S.get x = .ref id off) (he:S.ent id = .blk e ds)
 (hn:off + size ≤ ds.length) (hd:(ds.drop off).take size=cs):ResV P S (.cell x T) (.agg cs):=resv_a hx he l.1 l.2.1 l.2.2.1 l.2.2.2 hn hd
theorem stA {T:TypeId} {x y:Operand} {z:Option Value} {size bytes:Nat} {id off:Nat} {e:TypeId} {ds:List D} (c ds':List D) (hi:TI P T z size bytes) (ho:o.op = .store T x y) (hd:o.dst=none)
 (hx:S.op x = .ref id off) (he:S.ent id = .blk e ds) (hy:S.op y = .agg c) (hb:(D.agg c).boxable=true) (hsz:(D.agg c).cells.length=size) (h1:(D.agg c).cells.all D.one=true)
 (hn:off + size ≤ ds.length) (hds:fH ds off (D.agg c).cells=ds'):IOp P O N o S (S.setE id (.blk e ds')):=bQ ho hd hi (sv hx) he (sv hy) hb hsz h1 hn hds
theorem faR {T:TypeId} {x:Operand} {i:Nat} {fs:Array Field} {F:Field} {z:Option Value} {size bytes:Nat} {id off:Nat} (off':Nat) (ho:o.op = .fieldAddr T x i) (hd:o.dst=some t) (ht:Nat.ble (t + 1) N=true)
 (hu:P.underlying T=some (.struct fs)) (hf:fs[i]? = some F) (hi:TI P F.type z size bytes) (hs:0 < size) (hx:S.op x = .ref id off) (ho':off + F.offset=off'):IOp P O N o S (S.set t (.ref id off')) :=
 aO ho hd (lb ht) hu hf hi hs (sv hx) ho'
theorem svaI {n:Node} {S0:St} {s:Nat} {k:IntKind} {m:Int} (hA:rZ n S S0) (hm:n.rs.elem s=true) (h:S0.get s = .int k m):SV S (.tmp s) (.int k m):=sv (agr hA hm h)
theorem svaB {n:Node} {S0:St} {s:Nat} {m:Bool} (hA:rZ n S S0) (hm:n.rs.elem s=true) (h:S0.get s = .bool m):SV S (.tmp s) (.bool m):=sv (agr hA hm h)
theorem svaR {n:Node} {S0:St} {s i j:Nat} (hA:rZ n S S0) (hm:n.rs.elem s=true) (h:S0.get s = .ref i j):SV S (.tmp s) (.ref i j):=sv (agr hA hm h)
theorem svaL {n:Node} {S0:St} {s:Nat} {f:Bool} {l:List D} (hA:rZ n S S0) (hm:n.rs.elem s=true) (h:S0.get s = .slice f l):SV S (.tmp s) (.slice f l):=sv (agr hA hm h)
theorem svaA {n:Node} {S0:St} {s:Nat} (l:List D) (hA:rZ n S S0) (hm:n.rs.elem s=true) (h:S0.get s = .agg l):SV S (.tmp s) (.agg l):=sv (agr hA hm h)
theorem AllW.s {ρ:Nat → Nat} {t:Nat} {d:D} {l:List (Nat × D)} (h:S.get t=d.ren ρ) (hr:d.refsIn S'.okn=true) (k:AllW (SlW S S' ρ) l):AllW (SlW S S' ρ) ((t,d) :: l):=.cons (.same h hr) k
theorem AllW.sames {ρ:Nat → Nat}:∀ {l:List (Nat × D)},l.map (fun p=>S.get p.1)=l.map (fun p=>p.2.ren ρ) → (l.all fun p=>p.2.refsIn S'.okn)=true → AllW (SlW S S' ρ) l
 | [],_,_=>.nil
 | (t,d) :: l,h,hr=>by
   simp only [List.map_cons,List.cons.injEq] at h
   simp only [List.all_cons,Bool.and_eq_true] at hr
   exact .cons (.same h.1 hr.1) (AllW.sames h.2 hr.2)
end
theorem SubL.k {d:D} {ds ds':List D} (t:SubL ds ds'):SubL (d :: ds) (d :: ds'):=.cons (.refl d) t
theorem SubL.k4 {a b c d:D} {ds ds':List D} (t:SubL ds ds'):SubL (a :: b :: c :: d :: ds) (a :: b :: c :: d :: ds'):=.k (.k (.k (.k t)))
theorem FDL.k {S:St} {d:D} {ds ds':List D} (t:FDL S ds ds'):FDL S (d :: ds) (d :: ds'):=.cons (.refl d) t
theorem FDL.k4 {S:St} {a b c d:D} {ds ds':List D} (t:FDL S ds ds'):FDL S (a :: b :: c :: d :: ds) (a :: b :: c :: d :: ds'):=.k (.k (.k (.k t)))
theorem SubL.all:∀ (l:List D),SubL l l
 | []=>.nil
 | d :: l=>.cons (.refl d) (SubL.all l)
theorem FDL.all {S:St} (l:List D):FDL S l l:=sJ l
end Go.IL
open Go Go.IL
namespace Go.Fn
structure bL where
 ID:Int
 Value:Int
 deriving DecidableEq,Inhabited
def bR:Enc bL:=⟨⟨fun x=>.agg [.int .i64 x.ID,.int .i64 x.Value],2,by decide,fun _=>⟨rfl,rfl⟩⟩,fun _=>rfl⟩
structure aH where
 Kind:Int
 Flag:Bool
 Stream:Int
 Offset:Int
 Dep:Int
 Weight:Int
 N:Int
 Code:Int
 Pairs:(List bL)
 Data:(List UInt8)
 deriving DecidableEq,Inhabited
def aQ:Enc aH:=⟨⟨fun x=>.agg [.int .u8 x.Kind,.bool x.Flag,.int .i64 x.Stream,.int .i64 x.Offset,.int .i64 x.Dep,.int .i64 x.Weight,.int .i64 x.N,.int .i64 x.Code,.slice false (x.Pairs.map bR.d),.str x.Data],10,by decide,fun _=>⟨rfl,rfl⟩⟩,fun _=>rfl⟩

def lG (a0:aH):Option Bool :=
 bnd (decide ((a0.Pairs.length:Int) ≤ 10)) fun x1 =>
 bnd (decide ((a0.Data.length:Int) ≤ 100)) fun x2 =>
 bnd (x1 && x2) fun x3 =>
 some x3

def oS (a0:Int):Option Bool :=
 bnd (decide (a0 ≤ 10)) fun x1 =>
 bnd (!decide (a0=5)) fun x2 =>
 bnd (x1 && x2) fun x3 =>
 some x3

def mP (a0:Int) (a1:Int) (a2:Int):Option Bool :=
 bnd (decide (a1 ≤ a0)) fun x1 =>
 bnd (decide (a0 ≤ a2)) fun x2 =>
 bnd (x1 && x2) fun x3 =>
 some x3

def gT (a0:bL):Option Bool :=
 bno (mP a0.ID 0 1099511627776) fun x1 =>
 bno (gd ((!x1) == false) (mP a0.Value 0 1099511627776) default) fun x2 =>
 bnd ((!x1) || (!x2)) fun x3 =>
 some x3

def cK (a0:(List bL)):Nat → Int → Option Int
 | 0,_=>none
 | n0 + 1,v7 =>
   bnd (decide (v7 < (a0.length:Int))) fun x14 =>
   bif x14 then (
    bno (gix a0 v7) fun x16 =>
    bno (gT x16) fun x17 =>
    bif x17 then (
     some v7
    ) else (
      bnd (IntKind.wrap .i64 (v7 + 1)) fun x19 =>
      (cK a0 n0) x19
    )
   ) else (
     some (-1)
   )
def dX (a0:(List bL)):Option Int :=
 cK a0 fuel 0

def dC (a0:(List bL)):Option Bool :=
 bno (dX a0) fun x1 =>
 bnd (decide (0 ≤ x1)) fun x2 =>
 some x2

def eH (a0:aH) (v15:Int) (v16:Int) (v17:Int):Option Bool :=
 bno (dC a0.Pairs) fun x18 =>
 bno (gd (x18 == false) (mP a0.N v15 v16) default) fun x19 =>
 bnd (x18 || (!x19)) fun x20 =>
 bno (gd (x20 == false) (mP a0.Code 0 v17) default) fun x21 =>
 bnd (x20 || (!x21)) fun x22 =>
 bif x22 then (
  some false
 ) else (
   bno (mP a0.Stream 0 1048576) fun x24 =>
   bno (gd (x24 == true) (mP a0.Dep 0 1048576) default) fun x25 =>
   bnd (x24 && x25) fun x26 =>
   bno (gd (x26 == true) (mP a0.Offset 0 1099511627776) default) fun x27 =>
   bnd (x26 && x27) fun x28 =>
   some x28
 )
def gH (a0:aH) (v36:Bool):Option Bool :=
 bif v36 then (
  bno (mP a0.Weight 1 256) fun x38 =>
  bif (!x38) then (
   some false
  ) else (
    eH a0 0 1099511627776 255
  )
 ) else (
   eH a0 0 1099511627776 255
 )
def jE (a0:aH):Option Bool :=
 bnd (decide (a0.Kind=8)) fun x29 =>
 bif x29 then (
  eH a0 1 1099511627776 255
 ) else (
   bnd (decide (a0.Kind=10)) fun x31 =>
   bif x31 then (
    eH a0 0 3 1
   ) else (
     bnd (decide (a0.Kind=1)) fun x40 =>
     bif x40 then (
      gH a0 x40
     ) else (
       bnd (decide (a0.Kind=2)) fun x42 =>
       gH a0 x42
     )
   )
 )

def fM (v26:(List Nat)):Option (List Nat) :=
 bno (app 8 v26 ([6]:(List Nat))) fun x27 =>
 some x27
def eX (a0 : aH) : Option (List Nat) :=
 bnd (decide (a0.Kind=0)) fun x28 =>
 bif x28 then (
  bno (app 8 ([]:(List Nat)) ([2,3]:(List Nat))) fun x30 =>
  some x30
 ) else (
   bnd (decide (a0.Kind=9)) fun x31 =>
   bif x31 then (
    bno (app 8 ([]:(List Nat)) ([2,3]:(List Nat))) fun x33 =>
    some x33
   ) else (
     bnd (decide (a0.Kind=1)) fun x34 =>
     bif x34 then (
      bno (app 8 ([]:(List Nat)) ([2,4,5]:(List Nat))) fun x36 =>
      some x36
     ) else (
       bnd (decide (a0.Kind=2)) fun x37 =>
       bif x37 then (
        bno (app 8 ([]:(List Nat)) ([2,4,5]:(List Nat))) fun x39 =>
        some x39
       ) else (
         bnd (decide (a0.Kind=3)) fun x40 =>
         bif x40 then (
          bno (app 8 ([]:(List Nat)) ([2,6,7]:(List Nat))) fun x42 =>
          some x42
         ) else (
           bnd (decide (a0.Kind=7)) fun x43 =>
           bif x43 then (
            bno (app 8 ([]:(List Nat)) ([2,7]:(List Nat))) fun x45 =>
            some x45
           ) else (
             bnd (decide (a0.Kind=8)) fun x46 =>
             bif x46 then (
              bno (app 8 ([]:(List Nat)) ([2]:(List Nat))) fun x48 =>
              fM x48
             ) else (
               bnd (decide (a0.Kind=6)) fun x49 =>
               bif x49 then (
                fM ([]:(List Nat))
               ) else (
                 bnd (decide (a0.Kind=10)) fun x51 =>
                 bif x51 then (
                  bno (app 8 ([]:(List Nat)) ([6,7]:(List Nat))) fun x53 =>
                  some x53
                 ) else (
                   some ([]:(List Nat))
                 )
               )
             )
           )
         )
       )
     )
   )
 )

def mQ (a0 : Int):Option Bool :=
 bnd (decide (a0=0)) fun x1 =>
 bif x1 then (
  some true
 ) else (
   bnd (decide (a0=1)) fun x3 =>
   bif x3 then (
    some true
   ) else (
     bnd (decide (a0=2)) fun x5 =>
     bif x5 then (
      some true
     ) else (
       bnd (decide (a0=4)) fun x7 =>
       bif x7 then (
        some true
       ) else (
         bnd (decide (a0=6)) fun x9 =>
         bif x9 then (
          some true
         ) else (
           bnd (decide (a0=9)) fun x11 =>
           bif x11 then (
            some true
           ) else (
             some false
           )
         )
       )
     )
   )
 )

def eY (a0:aH) (v9:Int) (v10:Int) (v11:Int) (v12:Int) (v13:Int) (v14:Int) (v32:(List bL)) (v33:(List UInt8)):Option aH :=
 bno (mQ a0.Kind) fun x34 =>
 bif x34 then (
  some (⟨a0.Kind,false,v9,v10,v11,v12,v13,v14,v32,v33⟩:aH)
 ) else (
   some (⟨a0.Kind,a0.Flag,v9,v10,v11,v12,v13,v14,v32,v33⟩:aH)
 )
def eJ (a0:aH) (x1:(List Nat)):Nat → Int → Int → Int → Int → Int → Int → Int → Option aH
 | 0,_,_,_,_,_,_,_=>none
 | n0 + 1,v8,v9,v10,v11,v12,v13,v14 =>
   bnd (decide (v8 < (x1.length:Int))) fun x21 =>
   bif x21 then (
    bno (gix x1 v8) fun x23 =>
    bno (x1[(v8:Int).toNat]?) fun x24 =>
    bno (aAR [none,none,some v9,some v10,some v11,some v12,some v13,some v14,none,none] x24) fun x25 =>
    bnd (IntKind.wrap .i64 (v8 + 1)) fun x26 =>
    (eJ a0 x1 n0) x26 (bif Nat.beq x24 2 then 0 else v9) (bif Nat.beq x24 3 then 0 else v10) (bif Nat.beq x24 4 then 0 else v11) (bif Nat.beq x24 5 then 0 else v12) (bif Nat.beq x24 6 then 0 else v13) (bif Nat.beq x24 7 then 0 else v14)
   ) else (
     bnd (decide (a0.Kind=0)) fun x36 =>
     bif x36 then (
      eY a0 v9 v10 v11 v12 v13 v14 a0.Pairs ([]:(List UInt8))
     ) else (
       bnd (decide (a0.Kind=4)) fun x38 =>
       bif x38 then (
        bif (!a0.Flag) then (
         eY a0 v9 v10 v11 v12 v13 v14 ([]:(List bL)) a0.Data
        ) else (
          eY a0 v9 v10 v11 v12 v13 v14 a0.Pairs a0.Data
        )
       ) else (
         eY a0 v9 v10 v11 v12 v13 v14 a0.Pairs a0.Data
       )
     )
   )
def kM (a0:aH):Option aH :=
 bno (eX a0) fun x1 =>
 eJ a0 x1 fuel 0 a0.Stream a0.Offset a0.Dep a0.Weight a0.N a0.Code

def dE (a0:(List bL)) (a1:(List bL)):Nat → Int → Option Bool
 | 0,_=>none
 | n0 + 1,v10 =>
   bnd (decide (v10 < (a0.length:Int))) fun x18 =>
   bif x18 then (
    bno (gix a0 v10) fun x20 =>
    bno (gix a1 v10) fun x21 =>
    bnd ((decide (x20.ID=x21.ID) && (decide (x20.Value=x21.Value) && true))) fun x22 =>
    bif (!x22) then (
     some false
    ) else (
      bnd (IntKind.wrap .i64 (v10 + 1)) fun x24 =>
      (dE a0 a1 n0) x24
    )
   ) else (
     some true
   )
def eG (a0:(List bL)) (a1:(List bL)):Option Bool :=
 bnd (!decide ((a0.length:Int)=(a1.length:Int))) fun x1 =>
 bif x1 then (
  some false
 ) else (
   dE a0 a1 fuel 0
 )

def pZ (a0:aH) (a1:aH):Option Bool :=
 bnd (!decide (a0.Kind=a1.Kind)) fun x1 =>
 bnd (!(a0.Flag == a1.Flag)) fun x2 =>
 bnd (x1 || x2) fun x3 =>
 bno (gd (x3 == false) (eG a0.Pairs a1.Pairs) default) fun x4 =>
 bnd (x3 || (!x4)) fun x5 =>
 bif x5 then (
  some false
 ) else (
   bnd (decide (a0.Stream=a1.Stream)) fun x7 =>
   bnd (decide (a0.Offset=a1.Offset)) fun x8 =>
   bnd (x7 && x8) fun x9 =>
   bnd (decide (a0.Dep=a1.Dep)) fun x10 =>
   bnd (x9 && x10) fun x11 =>
   bnd (decide (a0.Weight=a1.Weight)) fun x12 =>
   bnd (x11 && x12) fun x13 =>
   bnd (decide (a0.N=a1.N)) fun x14 =>
   bnd (x13 && x14) fun x15 =>
   bnd (decide (a0.Code=a1.Code)) fun x16 =>
   bnd (x15 && x16) fun x17 =>
   bnd (decide (a0.Data=a1.Data)) fun x18 =>
   bnd (x17 && x18) fun x19 =>
   some x19
 )

def kR (a0:aH) (v8:Bool):Option Int :=
 bif v8 then (
  some 5
 ) else (
   bno (kM a0) fun x10 =>
   bno (pZ x10 (⟨a0.Kind,false,0,0,0,0,0,0,[],[]⟩:aH)) fun x11 =>
   bif (!x11) then (
    some 4
   ) else (
     some 0
   )
 )
def nC (a0:aH):Option Int :=
 bno (oS a0.Kind) fun x1 =>
 bif (!x1) then (
  some 12
 ) else (
   bno (jE a0) fun x3 =>
   bif (!x3) then (
    some 8
   ) else (
     bnd (decide (32 < (a0.Data.length:Int))) fun x13 =>
     bif x13 then (
      kR a0 x13
     ) else (
       bnd (decide (4 < (a0.Pairs.length:Int))) fun x15 =>
       kR a0 x15
     )
   )
 )

def gM (v16:Int) (v17:Int):Option Int :=
 bnd (IntKind.wrap .u8 v16) fun x18 =>
 bno (gix ([0,1,2,2,3,3,3,3,4,4,4,4,4,4,4,4,5,5,5,5,5,5,5,5,5,5,5,5,5,5,5,5,6,6,6,6,6,6,6,6,6,6,6,6,6,6,6,6,6,6,6,6,6,6,6,6,6,6,6,6,6,6,6,6,7,7,7,7,7,7,7,7,7,7,7,7,7,7,7,7,7,7,7,7,7,7,7,7,7,7,7,7,7,7,7,7,7,7,7,7,7,7,7,7,7,7,7,7,7,7,7,7,7,7,7,7,7,7,7,7,7,7,7,7,7,7,7,7,8,8,8,8,8,8,8,8,8,8,8,8,8,8,8,8,8,8,8,8,8,8,8,8,8,8,8,8,8,8,8,8,8,8,8,8,8,8,8,8,8,8,8,8,8,8,8,8,8,8,8,8,8,8,8,8,8,8,8,8,8,8,8,8,8,8,8,8,8,8,8,8,8,8,8,8,8,8,8,8,8,8,8,8,8,8,8,8,8,8,8,8,8,8,8,8,8,8,8,8,8,8,8,8,8,8,8,8,8,8,8,8,8,8,8,8,8,8,8,8,8,8,8,8,8,8,8,8]:List UInt8) x18) fun x19 =>
 bnd (IntKind.wrap .i64 (x19.toNat:Int)) fun x20 =>
 bnd (IntKind.wrap .i64 (v17 + x20)) fun x21 =>
 some x21
def gN (v10:Int) (v11:Int):Option Int :=
 bnd (decide (256 ≤ v10)) fun x22 =>
 bif x22 then (
  bno (shrI .u64 v10 8) fun x24 =>
  bnd (IntKind.wrap .i64 (v11 + 8)) fun x25 =>
  gM x24 x25
 ) else (
   gM v10 v11
 )
def gO (v4:Int) (v5:Int):Option Int :=
 bnd (decide (65536 ≤ v4)) fun x26 =>
 bif x26 then (
  bno (shrI .u64 v4 16) fun x28 =>
  bnd (IntKind.wrap .i64 (v5 + 16)) fun x29 =>
  gN x28 x29
 ) else (
   gN v4 v5
 )
def lB (a0:Int):Option Int :=
 bnd (decide (4294967296 ≤ a0)) fun x30 =>
 bif x30 then (
  bno (shrI .u64 a0 32) fun x32 =>
  gO x32 32
 ) else (
   gO a0 0
 )

def mL (a0:Int):Option Int :=
 bno (lB a0) fun x1 =>
 some x1

def jG (a0:Int):Nat → Int → Option Int
 | 0,_=>none
 | n0 + 1,v14 =>
   bnd (decide (v14 < 4)) fun x24 =>
   bif x24 then (
    bnd (IntKind.wrap .u64 a0) fun x26 =>
    bno (mL x26) fun x27 =>
    bno (shlI .i64 8 v14) fun x28 =>
    bnd (IntKind.wrap .i64 (x28 - 2)) fun x29 =>
    bnd (decide (x27 ≤ x29)) fun x30 =>
    bif x30 then (
     some v14
    ) else (
      bnd (IntKind.wrap .i64 (v14 + 1)) fun x32 =>
      (jG a0 n0) x32
    )
   ) else (
     some (-1)
   )
def mU (a0:Int):Option Int :=
 bnd (decide (a0 < 0)) fun x1 =>
 bnd (decide (4611686018427387903 < a0)) fun x2 =>
 bnd (x1 || x2) fun x3 =>
 bif x3 then (
  some (-1)
 ) else (
   jG a0 fuel 0
 )

def jZ (x1:Int):Nat → Int → (List UInt8) → Int → Option ((List UInt8) × Int)
 | 0,_,_,_=>none
 | n0 + 1,v16,v17,v18 =>
   bnd (decide (0 ≤ v18)) fun x28 =>
   bif x28 then (
    bnd (IntKind.wrap .u8 v16) fun x30 =>
    bno (gix v17 v18) fun x31 =>
    bno (v17[(v18:Int).toNat]?) fun x32 =>
    bno (toU8 x30) fun x33 =>
    bnd (v17.set ((v18:Int).toNat) x33) fun x34 =>
    bno (shrI .i64 v16 8) fun x35 =>
    bnd (IntKind.wrap .i64 (v18 - 1)) fun x36 =>
    (jZ x1 n0) x35 x34 x36
   ) else (
     bno (gix v17 0) fun x37 =>
     bno (v17[(0:Int).toNat]?) fun x38 =>
     bno (shlI .i64 x1 6) fun x39 =>
     bnd (IntKind.wrap .u8 x39) fun x40 =>
     bnd (orI .u8 (x38.toNat:Int) x40) fun x41 =>
     bno (gix v17 0) fun x42 =>
     bno (v17[(0:Int).toNat]?) fun x43 =>
     bno (toU8 x41) fun x44 =>
     bnd (v17.set ((0:Int).toNat) x44) fun x45 =>
     some (x45,0)
   )
def oE (a0:Int):Option ((List UInt8) × Int) :=
 bno (mU a0) fun x1 =>
 bnd (decide (x1 < 0)) fun x2 =>
 bif x2 then (
  some ([],8)
 ) else (
   bno (shlI .i64 1 x1) fun x4 =>
   bno (made 1 x4 (0:UInt8)) fun x5 =>
   bnd (IntKind.wrap .i64 ((x5.length:Int) - 1)) fun x6 =>
   jZ x1 fuel a0 x5 x6
 )

def jH (a0:(List Int)):Nat → (List UInt8) → Int → Option ((List UInt8) × Int)
 | 0,_,_=>none
 | n0 + 1,v9,v10 =>
   bnd (decide (v10 < (a0.length:Int))) fun x19 =>
   bif x19 then (
    bno (gix a0 v10) fun x21 =>
    bno (oE x21) fun x22 =>
    bnd (!decide (x22.2=0)) fun x23 =>
    bif x23 then (
     some ([],x22.2)
    ) else (
      bno (app 1 v9 x22.1) fun x25 =>
      bnd (IntKind.wrap .i64 (v10 + 1)) fun x26 =>
      (jH a0 n0) x25 x26
    )
   ) else (
     some (v9,0)
   )
def qG (a0:(List Int)):Option ((List UInt8) × Int) :=
 jH a0 fuel ([]:(List UInt8)) 0

def mV (a0:(List Int)):Option ((List UInt8) × Int) :=
 bno (qG a0) fun x1 =>
 some (x1.1,x1.2)

def eP (a0:aH):Nat → (List Int) → Int → Option (List UInt8)
 | 0,_,_=>none
 | n1 + 1,v30,v31 =>
   bnd (decide (v31 < (a0.Pairs.length:Int))) fun x37 =>
   bif x37 then (
    bno (gix a0.Pairs v31) fun x39 =>
    bno (app 8 v30 ([x39.ID,x39.Value]:(List Int))) fun x40 =>
    bnd (IntKind.wrap .i64 (v31 + 1)) fun x41 =>
    (eP a0 n1) x40 x41
   ) else (
     bno (mV v30) fun x42 =>
     bno (cat x42.1 a0.Data) fun x43 =>
     some x43
   )
def eQ (a0:aH) (x1:(List Nat)):Nat → (List Int) → Int → Option (List UInt8)
 | 0,_,_=>none
 | n0 + 1,v9,v10 =>
   bnd (decide (v10 < (x1.length:Int))) fun x18 =>
   bif x18 then (
    bno (gix x1 v10) fun x20 =>
    bno (x1[(v10:Int).toNat]?) fun x21 =>
    bno (aAR [none,none,some a0.Stream,some a0.Offset,some a0.Dep,some a0.Weight,some a0.N,some a0.Code,none,none] x21) fun x22 =>
    bno (app 8 v9 ([x22]:(List Int))) fun x23 =>
    bnd (IntKind.wrap .i64 (v10 + 1)) fun x24 =>
    (eQ a0 x1 n0) x23 x24
   ) else (
     eP a0 fuel v9 0
   )
def iG (a0:aH):Option (List UInt8) :=
 bno (eX a0) fun x1 =>
 eQ a0 x1 fuel ([]:(List Int)) 0

def fK (a0:(List UInt8)):Option (List UInt8) :=
 yO a0 (
  some ([]:(List UInt8))
 ) (
   bno (app 1 ([]:(List UInt8)) a0) fun x3 =>
   some x3
 )

def oT (a0:Int) (a1:Int):Option Bool :=
 bnd (decide (0 ≤ a0)) fun x1 =>
 bnd (decide (1 ≤ a1)) fun x2 =>
 bnd (x1 && x2) fun x3 =>
 bnd (decide (a1 ≤ 7)) fun x4 =>
 bnd (x3 && x4) fun x5 =>
 bnd (IntKind.wrap .i64 (8 * a1)) fun x6 =>
 bno (gd (x5 == true) (shrI .i64 a0 x6) 0) fun x7 =>
 bnd (decide (x7=0)) fun x8 =>
 bnd (x5 && x8) fun x9 =>
 some x9

def lK (a1:Int) (a2:Int):Nat → (List UInt8) → Int → Option (List UInt8)
 | 0,_,_=>none
 | n0 + 1,v14,v15 =>
   bnd (decide (v15 < a2)) fun x26 =>
   bif x26 then (
    bnd (IntKind.wrap .i64 (a2 - 1)) fun x28 =>
    bnd (IntKind.wrap .i64 (x28 - v15)) fun x29 =>
    bnd (IntKind.wrap .i64 (8 * x29)) fun x30 =>
    bno (shrI .i64 a1 x30) fun x31 =>
    bnd (IntKind.wrap .u8 x31) fun x32 =>
    bno (toU8 x32) fun x33 =>
    bno (app 1 v14 ([x33]:(List UInt8))) fun x34 =>
    bnd (IntKind.wrap .i64 (v15 + 1)) fun x35 =>
    (lK a1 a2 n0) x34 x35
   ) else (
     some v14
   )
def oH (a0:(List UInt8)) (a1:Int) (a2:Int):Option (List UInt8) :=
 bno (fK a0) fun x1 =>
 bno (oT a1 a2) fun x2 =>
 bif (!x2) then (
  some x1
 ) else (
   lK a1 a2 fuel x1 0
 )

def mH (a0:aH) (v5:Int):Option ((List UInt8) × Int) :=
 bno (iG a0) fun x6 =>
 bno (oE (x6.length:Int)) fun x7 =>
 bnd (!decide (x7.2=0)) fun x8 =>
 bif x8 then (
  some ([],x7.2)
 ) else (
   bnd (IntKind.wrap .i64 a0.Kind) fun x10 =>
   bno (oH ([]:(List UInt8)) x10 1) fun x11 =>
   bno (oH x11 v5 1) fun x12 =>
   bno (cat x12 x7.1) fun x13 =>
   bno (cat x13 x6) fun x14 =>
   some (x14,0)
 )
def rW (a0:aH):Option ((List UInt8) × Int) :=
 bno (nC a0) fun x1 =>
 bnd (!decide (x1=0)) fun x2 =>
 bif x2 then (
  some ([],x1)
 ) else (
   bif a0.Flag then (
    mH a0 1
   ) else (
     mH a0 0
   )
 )

def kB (x5:Int) (x6:Int) (x12:(List UInt8)):Nat → Int → Int → Option (Int × Int × Int)
 | 0,_,_=>none
 | n0 + 1,v20,v21 =>
   bnd (decide (v21 < (x12.length:Int))) fun x29 =>
   bif x29 then (
    bno (gix x12 v21) fun x31 =>
    bno (shlI .i64 v20 8) fun x32 =>
    bnd (IntKind.wrap .i64 (x31.toNat:Int)) fun x33 =>
    bnd (orI .i64 x32 x33) fun x34 =>
    bnd (IntKind.wrap .i64 (v21 + 1)) fun x35 =>
    (kB x5 x6 x12 n0) x34 x35
   ) else (
     bno (mU v20) fun x36 =>
     bnd (!decide (x36=x5)) fun x37 =>
     bif x37 then (
      some (0,0,4)
     ) else (
       some (v20,x6,0)
     )
   )
def mW (a0:(List UInt8)):Option (Int × Int × Int) :=
 bnd (decide (a0=([]:List UInt8))) fun x1 =>
 bif x1 then (
  some (0,0,3)
 ) else (
   bno (gix a0 0) fun x3 =>
   bno (shrI .u8 (x3.toNat:Int) 6) fun x4 =>
   bnd (IntKind.wrap .i64 x4) fun x5 =>
   bno (shlI .i64 1 x5) fun x6 =>
   bnd (decide ((a0.length:Int) < x6)) fun x7 =>
   bif x7 then (
    some (0,0,3)
   ) else (
     bno (gix a0 0) fun x9 =>
     bnd (andI .u8 (x9.toNat:Int) 63) fun x10 =>
     bnd (IntKind.wrap .i64 x10) fun x11 =>
     bno (cut a0 1 x6) fun x12 =>
     kB x5 x6 x12 fuel x11 0
   )
 )

def sH (a0 : (List UInt8)):Option (aH × Int × Int × Int) :=
 bnd (decide (a0=([]:List UInt8))) fun x1 =>
 bif x1 then (
  some ((⟨0,false,0,0,0,0,0,0,[],[]⟩:aH),0,0,3)
 ) else (
   bno (gix a0 0) fun x3 =>
   bno (oS (x3.toNat:Int)) fun x4 =>
   bif (!x4) then (
    some ((⟨0,false,0,0,0,0,0,0,[],[]⟩:aH),0,0,12)
   ) else (
     bnd (decide ((a0.length:Int) < 2)) fun x6 =>
     bif x6 then (
      some ((⟨0,false,0,0,0,0,0,0,[],[]⟩:aH),0,0,3)
     ) else (
       bno (gix a0 1) fun x8 =>
       bnd (decide (1 < (x8.toNat:Int))) fun x9 =>
       bif x9 then (
        some ((⟨0,false,0,0,0,0,0,0,[],[]⟩:aH),0,0,4)
       ) else (
         bno (cut a0 2 (a0.length:Int)) fun x11 =>
         bno (mW x11) fun x12 =>
         bnd (!decide (x12.2.2=0)) fun x13 =>
         bif x13 then (
          some ((⟨0,false,0,0,0,0,0,0,[],[]⟩:aH),0,0,x12.2.2)
         ) else (
           bnd (decide (64 < x12.1)) fun x15 =>
           bif x15 then (
            some ((⟨0,false,0,0,0,0,0,0,[],[]⟩:aH),0,0,5)
           ) else (
             bnd (IntKind.wrap .i64 ((a0.length:Int) - 2)) fun x17 =>
             bnd (IntKind.wrap .i64 (x17 - x12.2.1)) fun x18 =>
             bnd (decide (x18 < x12.1)) fun x19 =>
             bif x19 then (
              some ((⟨0,false,0,0,0,0,0,0,[],[]⟩:aH),0,0,3)
             ) else (
               bno (gix a0 0) fun x21 =>
               bno (gix a0 1) fun x22 =>
               bnd (decide ((x22.toNat:Int)=1)) fun x23 =>
               bnd (IntKind.wrap .i64 (2 + x12.2.1)) fun x24 =>
               bnd (IntKind.wrap .i64 (2 + x12.2.1)) fun x25 =>
               bnd (IntKind.wrap .i64 (x25 + x12.1)) fun x26 =>
               some ((⟨(x21.toNat:Int),x23,0,0,0,0,0,0,[],[]⟩:aH),x24,x26,0)
             )
           )
         )
       )
     )
   )
 )

def kC  : Nat → (List UInt8) → (List Int) → Option ((List Int) × Int)
 | 0,_,_=>none
 | n0 + 1,v8,v9 =>
   bnd (!decide (v8=([]:List UInt8))) fun x17 =>
   bif x17 then (
    bno (mW v8) fun x19 =>
    bnd (!decide (x19.2.2=0)) fun x20 =>
    bif x20 then (
     some ([],x19.2.2)
    ) else (
      bno (app 8 v9 ([x19.1]:(List Int))) fun x22 =>
      bno (cut v8 x19.2.1 (v8.length:Int)) fun x23 =>
      (kC n0) x23 x22
    )
   ) else (
     some (v9,0)
   )
def pM (a0:(List UInt8)):Option ((List Int) × Int) :=
 kC fuel a0 ([]:(List Int))

def gB  : Nat → (List Int) → (List bL) → Option ((List bL) × Bool)
 | 0,_,_=>none
 | n0 + 1,v13,v14 =>
   bnd (decide (0 < (v13.length:Int))) fun x21 =>
   bif x21 then (
    bno (gix v13 0) fun x23 =>
    bno (gix v13 1) fun x24 =>
    bno (app 16 v14 (([(⟨x23,x24⟩:bL)]:(List bL)))) fun x25 =>
    bno (cut v13 2 (v13.length:Int)) fun x26 =>
    (gB n0) x26 x25
   ) else (
     some (v14,true)
   )
def kQ (a0:(List UInt8)):Option ((List bL) × Bool) :=
 bno (pM a0) fun x1 =>
 bnd (!decide (x1.2=0)) fun x2 =>
 bno (gd (x2 == false) (remI (x1.1.length:Int) 2) 0) fun x3 =>
 bnd (decide (x3=1)) fun x4 =>
 bnd (x2 || x4) fun x5 =>
 bif x5 then (
  some ([],false)
 ) else (
   gB fuel x1.1 ([]:(List bL))
 )

def eW (a1:aH) (x1:(List Nat)):Nat → (List UInt8) → Int → Int → Int → Int → Int → Int → Int → Option (Bool × aH)
 | 0,_,_,_,_,_,_,_,_=>none
 | n0 + 1,v12,v13,v14,v15,v16,v17,v18,v19 =>
   bnd (decide (v13 < (x1.length:Int))) fun x30 =>
   bif x30 then (
    bno (gix x1 v13) fun x32 =>
    bno (x1[(v13:Int).toNat]?) fun x33 =>
    bno (mW v12) fun x34 =>
    bnd (!decide (x34.2.2=0)) fun x35 =>
    bif x35 then (
     some (false,(⟨a1.Kind,a1.Flag,v14,v15,v16,v17,v18,v19,a1.Pairs,a1.Data⟩:aH))
    ) else (
      bno (aAR [none,none,some v14,some v15,some v16,some v17,some v18,some v19,none,none] x33) fun x37 =>
      bno (cut v12 x34.2.1 (v12.length:Int)) fun x38 =>
      bnd (IntKind.wrap .i64 (v13 + 1)) fun x39 =>
      (eW a1 x1 n0) x38 x39 (bif Nat.beq x33 2 then x34.1 else v14) (bif Nat.beq x33 3 then x34.1 else v15) (bif Nat.beq x33 4 then x34.1 else v16) (bif Nat.beq x33 5 then x34.1 else v17) (bif Nat.beq x33 6 then x34.1 else v18) (bif Nat.beq x33 7 then x34.1 else v19)
    )
   ) else (
     bnd (decide (a1.Kind=0)) fun x40 =>
     bif x40 then (
      some (true,(⟨a1.Kind,a1.Flag,v14,v15,v16,v17,v18,v19,a1.Pairs,v12⟩:aH))
     ) else (
       bnd (decide (a1.Kind=4)) fun x42 =>
       bif x42 then (
        bno (kQ v12) fun x44 =>
        some (x44.2,(⟨a1.Kind,a1.Flag,v14,v15,v16,v17,v18,v19,x44.1,a1.Data⟩:aH))
       ) else (
         bnd (decide (v12=([]:List UInt8))) fun x45 =>
         some (x45,(⟨a1.Kind,a1.Flag,v14,v15,v16,v17,v18,v19,a1.Pairs,a1.Data⟩:aH))
       )
     )
   )
def jD (a0:(List UInt8)) (a1:aH):Option (Bool × aH) :=
 bno (eX a1) fun x1 =>
 eW a1 x1 fuel a0 0 a1.Stream a1.Offset a1.Dep a1.Weight a1.N a1.Code

def qA (a0:(List UInt8)):Option (aH × Int × Int) :=
 bno (sH a0) fun x1 =>
 bnd (!decide (x1.2.2.2=0)) fun x2 =>
 bif x2 then (
  some ((⟨0,false,0,0,0,0,0,0,[],[]⟩:aH),0,x1.2.2.2)
 ) else (
   bno (cut a0 x1.2.1 x1.2.2.1) fun x4 =>
   bno (jD x4 x1.1) fun x5 =>
   bif (!x5.1) then (
    some ((⟨0,false,0,0,0,0,0,0,[],[]⟩:aH),0,4)
   ) else (
     bno (nC x5.2) fun x7 =>
     bnd (!decide (x7=0)) fun x8 =>
     bif x8 then (
      some ((⟨0,false,0,0,0,0,0,0,[],[]⟩:aH),0,x7)
     ) else (
       some (x5.2,x1.2.2.1,0)
     )
   )
 )

def fJ (a0:aH) (a1:aH):Nat → Int → Option Bool
 | 0,_=>none
 | n0 + 1,v10 =>
   bnd (decide (v10 < (a0.Pairs.length:Int))) fun x18 =>
   bif x18 then (
    bno (gix a0.Pairs v10) fun x20 =>
    bno (gix a1.Pairs v10) fun x21 =>
    bnd ((decide (x20.ID=x21.ID) && (decide (x20.Value=x21.Value) && true))) fun x22 =>
    bif (!x22) then (
     some false
    ) else (
      bnd (IntKind.wrap .i64 (v10 + 1)) fun x24 =>
      (fJ a0 a1 n0) x24
    )
   ) else (
     bnd (decide (a0.Kind=a1.Kind)) fun x25 =>
     bnd (a0.Flag == a1.Flag) fun x26 =>
     bnd (x25 && x26) fun x27 =>
     bnd (decide (a0.Stream=a1.Stream)) fun x28 =>
     bnd (x27 && x28) fun x29 =>
     bnd (decide (a0.Offset=a1.Offset)) fun x30 =>
     bnd (x29 && x30) fun x31 =>
     bnd (decide (a0.Dep=a1.Dep)) fun x32 =>
     bnd (x31 && x32) fun x33 =>
     bnd (decide (a0.Weight=a1.Weight)) fun x34 =>
     bnd (x33 && x34) fun x35 =>
     bnd (decide (a0.N=a1.N)) fun x36 =>
     bnd (x35 && x36) fun x37 =>
     bnd (decide (a0.Code=a1.Code)) fun x38 =>
     bnd (x37 && x38) fun x39 =>
     bnd (decide (a0.Data=a1.Data)) fun x40 =>
     bnd (x39 && x40) fun x41 =>
     some x41
   )
def kJ (a0:aH) (a1:aH):Option Bool :=
 bnd (!decide ((a0.Pairs.length:Int)=(a1.Pairs.length:Int))) fun x1 =>
 bif x1 then (
  some false
 ) else (
   fJ a0 a1 fuel 0
 )

end Go.Fn
open Go Go.IL
namespace Go.Fn
structure cE where
 Buf:(List UInt8)
 Bad:Int
 Seen:Int
 deriving DecidableEq,Inhabited
def kH (a0:cE):Option Int :=
 bnd (!decide (a0.Bad=0)) fun x1 =>
 bnd (!decide (a0.Buf=([]:List UInt8))) fun x2 =>
 bnd (x1 && x2) fun x3 =>
 bif x3 then (
  some 4
 ) else (
   bno (qA a0.Buf) fun x5 =>
   bnd (!decide (x5.2.2=3)) fun x6 =>
   bnd (decide (80 < (a0.Buf.length:Int))) fun x7 =>
   bnd (x6 || x7) fun x8 =>
   bif x8 then (
    some 5
   ) else (
     bnd (decide (a0.Seen < 0)) fun x10 =>
     bif x10 then (
      some 8
     ) else (
       some 0
     )
   )
 )

def jT (v37:(List UInt8)) (v38:Int) (v39:Int) (v40:(List aH)):Option (cE × (List aH)) :=
 some ((⟨v37,v38,v39⟩:cE),v40)
def iH (a0:cE):Nat → (List UInt8) → Int → (List aH) → Option (cE × (List aH))
 | 0,_,_,_=>none
 | n2 + 1,v50,v51,v52 =>
   bno (qA v50) fun x62 =>
   bnd (decide (x62.2.2=0)) fun x63 =>
   bif x63 then (
    bno (cut v50 x62.2.1 (v50.length:Int)) fun x65 =>
    bnd (IntKind.wrap .i64 (v51 + 1)) fun x66 =>
    bno (app 96 v52 ([x62.1]:(List aH))) fun x67 =>
    bif (!true) then (
     jT x65 a0.Bad x66 x67
    ) else (
      (iH a0 n2) x65 x66 x67
    )
   ) else (
     bnd (decide (x62.2.2=3)) fun x69 =>
     bif x69 then (
      jT v50 a0.Bad v51 v52
     ) else (
       jT ([]:(List UInt8)) x62.2.2 v51 v52
     )
   )
def nQ (a0:cE) (a1:(List UInt8)):Option (cE × (List aH)) :=
 bnd (!decide (a0.Bad=0)) fun x1 =>
 bno (gd (x1 == false) (kH a0) default) fun x2 =>
 bnd (!decide (x2=0)) fun x3 =>
 bnd (x1 || x3) fun x4 =>
 bif x4 then (
  some (a0,[])
 ) else (
   bno (cat a0.Buf a1) fun x6 =>
   iH a0 fuel x6 a0.Seen ([]:(List aH))
 )

def eU (a0:(List aH)):Nat → (List aH) → Int → Option (List aH)
 | 0,_,_=>none
 | n0 + 1,v6,v7 =>
   bnd (decide (v7 < (a0.length:Int))) fun x13 =>
   bif x13 then (
    bno (gix a0 v7) fun x15 =>
    bno (app 96 v6 ([x15]:(List aH))) fun x16 =>
    bnd (IntKind.wrap .i64 (v7 + 1)) fun x17 =>
    (eU a0 n0) x16 x17
   ) else (
     some v6
   )
def gK (a0:(List aH)):Option (List aH) :=
 eU a0 fuel ([]:(List aH)) 0

def eO (a0:(List aH)) (a1:(List aH)):Nat → Int → Option Bool
 | 0,_=>none
 | n0 + 1,v10 =>
   bnd (decide (v10 < (a0.length:Int))) fun x18 =>
   bif x18 then (
    bno (gix a0 v10) fun x20 =>
    bno (gix a1 v10) fun x21 =>
    bno (kJ x20 x21) fun x22 =>
    bif (!x22) then (
     some false
    ) else (
      bnd (IntKind.wrap .i64 (v10 + 1)) fun x24 =>
      (eO a0 a1 n0) x24
    )
   ) else (
     some true
   )
def gA (a0:(List aH)) (a1:(List aH)):Option Bool :=
 bnd (!decide ((a0.length:Int)=(a1.length:Int))) fun x1 =>
 bif x1 then (
  some false
 ) else (
   eO a0 a1 fuel 0
 )

end Go.Fn
open Go Go.IL
namespace Go.Fn
structure aC8 where
 Kind:Int
 N:Int
 Path:Int
 Fin:Bool
 deriving DecidableEq,Inhabited
structure aL where
 From:Int
 To:Int
 Path:Int
 Fin:Bool
 deriving DecidableEq,Inhabited
def aD:Enc aL:=⟨⟨fun x=>.agg [.int .i64 x.From,.int .i64 x.To,.int .i64 x.Path,.bool x.Fin],4,by decide,fun _=>⟨rfl,rfl⟩⟩,fun _=>rfl⟩

structure aI where
 From:Int
 To:Int
 deriving DecidableEq,Inhabited
def aJ:Enc aI:=⟨⟨fun x=>.agg [.int .i64 x.From,.int .i64 x.To],2,by decide,fun _=>⟨rfl,rfl⟩⟩,fun _=>rfl⟩

structure aY where
 Base:Int
 Data:(List UInt8)
 Next:Int
 Pieces:(List aL)
 Lost:(List aI)
 Closed:Bool
 Sent:Bool
 Again:Bool
 Done:Bool
 deriving DecidableEq,Inhabited
def zS  : Option aY :=
 some (⟨0,[],0,[],[],false,false,false,false⟩:aY)

def eA (a0:(List aI)):Option (List aI) :=
 yO a0 (
  some []
 ) (
   bno (app 16 ([]:(List aI)) a0) fun x3 =>
   some x3
 )

def fW (a0:aY):Option (Int × (List UInt8) × Int × (List aL) × (List aI) × Bool × Bool × Bool × Bool) :=
 bno (made 32 (a0.Pieces.length:Int) ((⟨0,0,0,false⟩:aL):aL)) fun x1 =>
 bnd (cpy x1 a0.Pieces) fun x2 =>
 bno (eA a0.Lost) fun x3 =>
 some (a0.Base,a0.Data,a0.Next,x2,x3,a0.Closed,a0.Sent,a0.Again,a0.Done)

def rT (a0:Int):Option Bool :=
 bnd (decide (0 ≤ a0)) fun x1 =>
 bnd (decide (a0 ≤ 4611686018427387903)) fun x2 =>
 bnd (x1 && x2) fun x3 =>
 some x3

def gZ (a0:aI):Option Bool :=
 bno (rT a0.From) fun x1 =>
 bno (gd (x1 == true) (rT a0.To) default) fun x2 =>
 bnd (x1 && x2) fun x3 =>
 some x3

def mM (a0:aI):Option Bool :=
 bno (gZ (⟨a0.From,a0.To⟩:aI)) fun x1 =>
 some (!x1)

def cD (a0:(List aI)):Nat → Int → Option Int
 | 0,_=>none
 | n0 + 1,v7 =>
   bnd (decide (v7 < (a0.length:Int))) fun x14 =>
   bif x14 then (
    bno (gix a0 v7) fun x16 =>
    bno (mM (⟨x16.From,x16.To⟩:aI)) fun x17 =>
    bif x17 then (
     some v7
    ) else (
      bnd (IntKind.wrap .i64 (v7 + 1)) fun x19 =>
      (cD a0 n0) x19
    )
   ) else (
     some (-1)
   )
def eF (a0:(List aI)):Option Int :=
 cD a0 fuel 0

def dL (a0:(List aI)):Option Bool :=
 bno (eF a0) fun x1 =>
 bnd (decide (0 ≤ x1)) fun x2 =>
 some x2

def fS (a0:aI):Option Bool :=
 bnd (decide (a0.To ≤ a0.From)) fun x1 =>
 some x1

def cI (a0:(List aI)):Nat → Int → Option Int
 | 0,_=>none
 | n0 + 1,v7 =>
   bnd (decide (v7 < (a0.length:Int))) fun x14 =>
   bif x14 then (
    bno (gix a0 v7) fun x16 =>
    bno (fS (⟨x16.From,x16.To⟩:aI)) fun x17 =>
    bif x17 then (
     some v7
    ) else (
      bnd (IntKind.wrap .i64 (v7 + 1)) fun x19 =>
      (cI a0 n0) x19
    )
   ) else (
     some (-1)
   )
def eK (a0:(List aI)):Option Int :=
 cI a0 fuel 0

def dU (a0:(List aI)):Option Bool :=
 bno (eK a0) fun x1 =>
 bnd (decide (0 ≤ x1)) fun x2 =>
 some x2

def gD (a0:(List aI)):Nat → Int → Option Int
 | 0,_=>none
 | n0 + 1,v13 =>
   bnd (decide (v13 < (a0.length:Int))) fun x22 =>
   bif x22 then (
    bno (gix a0 v13) fun x24 =>
    bnd (IntKind.wrap .i64 (v13 - 1)) fun x25 =>
    bno (gix a0 x25) fun x26 =>
    bnd (decide (x24.From ≤ x26.To)) fun x27 =>
    bif x27 then (
     some 10
    ) else (
      bnd (IntKind.wrap .i64 (v13 + 1)) fun x29 =>
      (gD a0 n0) x29
    )
   ) else (
     some 0
   )
def lC (a0:(List aI)):Option Int :=
 bno (dL a0) fun x1 =>
 bif x1 then (
  some 8
 ) else (
   bno (dU a0) fun x3 =>
   bif x3 then (
    some 4
   ) else (
     gD a0 fuel 1
   )
 )

def kW (a0:aY):Option Bool :=
 bno (lC a0.Lost) fun x1 =>
 bnd (!decide (x1=0)) fun x2 =>
 bif x2 then (
  some false
 ) else (
   bnd (decide ((a0.Lost.length:Int)=0)) fun x4 =>
   bno (gd (x4 == false) (gix a0.Lost 0) default) fun x5 =>
   bnd (decide (a0.Base ≤ x5.From)) fun x6 =>
   bnd (IntKind.wrap .i64 ((a0.Lost.length:Int) - 1)) fun x7 =>
   bno (gd ((x4 == false) && (x6 == true)) (gix a0.Lost x7) default) fun x8 =>
   bnd (decide (x8.To ≤ a0.Next)) fun x9 =>
   bnd (x6 && x9) fun x10 =>
   bnd (x4 || x10) fun x11 =>
   some x11
 )

def oI (a0:Int):Option Bool :=
 bnd (decide (0 ≤ a0)) fun x1 =>
 bnd (decide (a0 < 4)) fun x2 =>
 bnd (x1 && x2) fun x3 =>
 some x3

def fQ (a0:aL):Option aI :=
 some (⟨a0.From,a0.To⟩:aI)

def dM (a0:(List aI)):Option (List aI) :=
 yO a0 (
  some ([]:(List aI))
 ) (
   bno (app 16 ([]:(List aI)) a0) fun x3 =>
   some x3
 )

def fZ (v52:Int) (kk0:Int → (List aI) → Option (List aI)) (x99:aI) (x100:Int) (x101:Int):Nat → Int → (List aI) → Option (List aI)
 | 0,_,_=>none
 | n1 + 1,v113,v114 =>
   bnd (decide (v113 < 2)) fun x127 =>
   bif x127 then (
    bno (gix ([(⟨x99.From,x100⟩:aI),(⟨x101,x99.To⟩:aI)]:List aI) v113) fun x129 =>
    bno (fS (⟨x129.From,x129.To⟩:aI)) fun x130 =>
    bif ((!x130) == true) then (
     bno (app 16 v114 (([(⟨x129.From,x129.To⟩:aI)]:(List aI)))) fun x132 =>
     bnd ((!x130) && (!true)) fun x133 =>
     bif x133 then (
      some x132
     ) else (
       bnd (IntKind.wrap .i64 (v113 + 1)) fun x135 =>
       (fZ v52 kk0 x99 x100 x101 n1) x135 x132
     )
    ) else (
      bnd ((!x130) && (!false)) fun x136 =>
      bif x136 then (
       some v114
      ) else (
        bnd (IntKind.wrap .i64 (v113 + 1)) fun x138 =>
        (fZ v52 kk0 x99 x100 x101 n1) x138 v114
      )
    )
   ) else (
     bnd (IntKind.wrap .i64 (v52 + 1)) fun x139 =>
     kk0 x139 v114
   )
def iZ (a0:(List aI)) (a1:aI):Nat → Int → (List aI) → Option (List aI)
 | 0,_,_=>none
 | n0 + 1,v52,v53 =>
   bnd (decide (v52 < (a0.length:Int))) fun x97 =>
   bif x97 then (
    bno (gix a0 v52) fun x99 =>
    bnd (min x99.To a1.From) fun x100 =>
    bnd (max x99.From a1.To) fun x101 =>
    fZ v52 (iZ a0 a1 n0) x99 x100 x101 fuel 0 v53
   ) else (
     some v53
   )
def oO (a0:(List aI)) (a1:aI):Option (List aI) :=
 bno (gZ (⟨a1.From,a1.To⟩:aI)) fun x1 =>
 bno (gd ((!x1) == false) (fS (⟨a1.From,a1.To⟩:aI)) default) fun x2 =>
 bnd ((!x1) || x2) fun x3 =>
 bno (gd (x3 == false) (lC a0) default) fun x4 =>
 bnd (!decide (x4=0)) fun x5 =>
 bnd (x3 || x5) fun x6 =>
 bif x6 then (
  bno (dM a0) fun x8 =>
  some x8
 ) else (
   iZ a0 a1 fuel 0 ([]:(List aI))
 )

def iY (a0:(List aI)):Nat → (List aI) → Int → Option (List aI)
 | 0,_,_=>none
 | n0 + 1,v13,v14 =>
   bnd (decide (v14 < (a0.length:Int))) fun x20 =>
   bif x20 then (
    bno (gix a0 v14) fun x22 =>
    bno (oO v13 (⟨x22.From,x22.To⟩:aI)) fun x23 =>
    bnd (IntKind.wrap .i64 (v14 + 1)) fun x24 =>
    (iY a0 n0) x23 x24
   ) else (
     some v13
   )
def pW (a0:(List aI)) (a1:aI):Option (List aI) :=
 bno (gZ (⟨a1.From,a1.To⟩:aI)) fun x1 =>
 bno (gd ((!x1) == false) (lC a0) default) fun x2 =>
 bnd (!decide (x2=0)) fun x3 =>
 bnd ((!x1) || x3) fun x4 =>
 bno (gd (x4 == false) (fS (⟨a1.From,a1.To⟩:aI)) default) fun x5 =>
 bnd (x4 || x5) fun x6 =>
 bif x6 then (
  some []
 ) else (
   iY a0 fuel (([(⟨a1.From,a1.To⟩:aI)]:(List aI))) 0
 )

def cW (a0:(List aI)) (a1:(List aI)):Nat → Int → Option Bool
 | 0,_=>none
 | n0 + 1,v10 =>
   bnd (decide (v10 < (a0.length:Int))) fun x18 =>
   bif x18 then (
    bno (gix a0 v10) fun x20 =>
    bno (gix a1 v10) fun x21 =>
    bnd ((decide (x20.From=x21.From) && (decide (x20.To=x21.To) && true))) fun x22 =>
    bif (!x22) then (
     some false
    ) else (
      bnd (IntKind.wrap .i64 (v10 + 1)) fun x24 =>
      (cW a0 a1 n0) x24
    )
   ) else (
     some true
   )
def eR (a0:(List aI)) (a1:(List aI)):Option Bool :=
 bnd (!decide ((a0.length:Int)=(a1.length:Int))) fun x1 =>
 bif x1 then (
  some false
 ) else (
   cW a0 a1 fuel 0
 )

def oG (a0:(List aI)) (a1:(List aI)):Option Bool :=
 bno (eR a0 a1) fun x1 =>
 some x1

def kX (a0:aY) (a1:aL) (a2:Int):Option Bool :=
 bnd (decide (a1.From < a2)) fun x1 =>
 bnd (decide (a1.To < a1.From)) fun x2 =>
 bnd (x1 || x2) fun x3 =>
 bnd (decide (a0.Next < a1.To)) fun x4 =>
 bnd (x3 || x4) fun x5 =>
 bno (gd (x5 == false) (oI a1.Path) default) fun x6 =>
 bnd (x5 || (!x6)) fun x7 =>
 bif x7 then (
  some false
 ) else (
   bnd (decide (a1.From=a1.To)) fun x9 =>
   bif x9 then (
    some a1.Fin
   ) else (
     bno (fQ a1) fun x11 =>
     bno (pW a0.Lost (⟨x11.From,x11.To⟩:aI)) fun x12 =>
     bno (fQ a1) fun x13 =>
     bno (oG x12 ([(⟨x13.From,x13.To⟩:aI)]:(List aI))) fun x14 =>
     some x14
   )
 )

def eZ (a0:aY):Option Int :=
 bnd (IntKind.wrap .i64 (a0.Base + (a0.Data.length:Int))) fun x1 =>
 some x1

def eS (a0:aY):Nat → Int → Int → Option Bool
 | 0,_,_=>none
 | n0 + 1,v11,v12 =>
   bnd (decide (v12 < (a0.Pieces.length:Int))) fun x23 =>
   bif x23 then (
    bno (gix a0.Pieces v12) fun x25 =>
    bif x25.Fin then (
     bnd (IntKind.wrap .i64 (v11 + 1)) fun x27 =>
     bno (eZ a0) fun x28 =>
     bnd (!decide (x25.To=x28)) fun x29 =>
     bif x29 then (
      some false
     ) else (
       bnd (IntKind.wrap .i64 (v12 + 1)) fun x31 =>
       (eS a0 n0) x27 x31
     )
    ) else (
      bnd (IntKind.wrap .i64 (v12 + 1)) fun x32 =>
      (eS a0 n0) v11 x32
    )
   ) else (
     bif (!a0.Sent) then (
      bnd (decide (v11=0)) fun x34 =>
      bnd (x34 && (!a0.Again)) fun x35 =>
      bnd (x35 && (!a0.Done)) fun x36 =>
      some x36
     ) else (
       bno (gd ((!a0.Closed) == false) (eZ a0) default) fun x37 =>
       bnd (!decide (a0.Next=x37)) fun x38 =>
       bnd ((!a0.Closed) || x38) fun x39 =>
       bnd (a0.Again && a0.Done) fun x40 =>
       bnd (x39 || x40) fun x41 =>
       bif x41 then (
        some false
       ) else (
         bnd ((!a0.Again) && (!a0.Done)) fun x43 =>
         bnd (decide (v11=1)) fun x44 =>
         bnd (x43 && x44) fun x45 =>
         bnd (decide (v11=0)) fun x46 =>
         bnd ((!x43) && x46) fun x47 =>
         bnd (x45 || x47) fun x48 =>
         some x48
       )
     )
   )
def mJ (a0:aY):Option Bool :=
 eS a0 fuel 0 0

def iR (a0:aY):Nat → Int → Int → Option Int
 | 0,_,_=>none
 | n1 + 1,v21,v22 =>
   bnd (decide (v22 < (a0.Pieces.length:Int))) fun x29 =>
   bif x29 then (
    bno (gix a0.Pieces v22) fun x31 =>
    bno (kX a0 x31 v21) fun x32 =>
    bif (!x32) then (
     some 10
    ) else (
      bnd (IntKind.wrap .i64 (v22 + 1)) fun x34 =>
      (iR a0 n1) x31.To x34
    )
   ) else (
     bno (mJ a0) fun x35 =>
     bif (!x35) then (
      some 9
     ) else (
       some 0
     )
   )
def kD (a0:aY) (v9:Bool):Option Int :=
 bif v9 then (
  some 8
 ) else (
   bnd (decide (4096 < (a0.Data.length:Int))) fun x11 =>
   bif x11 then (
    some 5
   ) else (
     bno (kW a0) fun x13 =>
     bif (!x13) then (
      some 4
     ) else (
       iR a0 fuel a0.Base 0
     )
   )
 )
def kP (a0:aY):Option Int :=
 bnd (decide (a0.Base < 0)) fun x37 =>
 bif x37 then (
  kD a0 x37
 ) else (
   bnd (decide (1099511623680 < a0.Base)) fun x39 =>
   bif x39 then (
    kD a0 x39
   ) else (
     bnd (decide (a0.Next < a0.Base)) fun x41 =>
     bif x41 then (
      kD a0 x41
     ) else (
       bnd (IntKind.wrap .i64 (a0.Next - a0.Base)) fun x43 =>
       bnd (decide ((a0.Data.length:Int) < x43)) fun x44 =>
       kD a0 x44
     )
   )
 )

def pP (a0:aY):Option Int :=
 bif a0.Closed then (
  some 0
 ) else (
   bnd (IntKind.wrap .i64 (4096 - (a0.Data.length:Int))) fun x2 =>
   some x2
 )

def pO (a0:aY) (a1:(List UInt8)):Option (aY × Int) :=
 bno (fW a0) fun x1 =>
 bno (kP a0) fun x2 =>
 bnd (!decide (x2=0)) fun x3 =>
 bif x3 then (
  some ((⟨x1.1,x1.2.1,x1.2.2.1,x1.2.2.2.1,x1.2.2.2.2.1,x1.2.2.2.2.2.1,x1.2.2.2.2.2.2.1,x1.2.2.2.2.2.2.2.1,x1.2.2.2.2.2.2.2.2⟩:aY),0)
 ) else (
   bno (pP a0) fun x5 =>
   bnd (min x5 (a1.length:Int)) fun x6 =>
   bno (eZ a0) fun x7 =>
   bnd (IntKind.wrap .i64 (1099511623680 - x6)) fun x8 =>
   bnd (decide (x8 < x7)) fun x9 =>
   bif x9 then (
    some ((⟨x1.1,x1.2.1,x1.2.2.1,x1.2.2.2.1,x1.2.2.2.2.1,x1.2.2.2.2.2.1,x1.2.2.2.2.2.2.1,x1.2.2.2.2.2.2.2.1,x1.2.2.2.2.2.2.2.2⟩:aY),0)
   ) else (
     bno (cut a1 0 x6) fun x11 =>
     bno (cat x1.2.1 x11) fun x12 =>
     some ((⟨x1.1,x12,x1.2.2.1,x1.2.2.2.1,x1.2.2.2.2.1,x1.2.2.2.2.2.1,x1.2.2.2.2.2.2.1,x1.2.2.2.2.2.2.2.1,x1.2.2.2.2.2.2.2.2⟩:aY),x6)
   )
 )

def kO (a0:aY):Option Bool :=
 bnd ((!a0.Closed) || a0.Done) fun x1 =>
 bif x1 then (
  some false
 ) else (
   bnd (a0.Again || (!a0.Sent)) fun x3 =>
   some x3
 )

def jP (a0:aY) (a1:Int) (a2:Int):Option (aL × Bool) :=
 bnd (decide (0 < (a0.Lost.length:Int))) fun x1 =>
 bif x1 then (
  bno (gix a0.Lost 0) fun x3 =>
  bnd (IntKind.wrap .i64 (x3.To - x3.From)) fun x4 =>
  bnd (min a1 x4) fun x5 =>
  bnd (IntKind.wrap .i64 (x3.From + x5)) fun x6 =>
  some ((⟨x3.From,x6,0,false⟩:aL),true)
 ) else (
   bno (eZ a0) fun x7 =>
   bnd (IntKind.wrap .i64 (x7 - a0.Next)) fun x8 =>
   bnd (decide (0 < x8)) fun x9 =>
   bif x9 then (
    bnd (max a2 a0.Next) fun x11 =>
    bnd (IntKind.wrap .i64 (x11 - a0.Next)) fun x12 =>
    bnd (min (min x8 a1) x12) fun x13 =>
    bnd (IntKind.wrap .i64 (a0.Next + x13)) fun x14 =>
    bnd (decide (0 < x13)) fun x15 =>
    some ((⟨a0.Next,x14,0,false⟩:aL),x15)
   ) else (
     bno (kO a0) fun x16 =>
     some ((⟨a0.Next,a0.Next,0,false⟩:aL),x16)
   )
 )

def kT (a0:aL) (a1:aL):Option Bool :=
 bnd (decide (a1.From < a0.From)) fun x1 =>
 bnd (decide (a0.From=a1.From)) fun x2 =>
 bnd (decide (a1.To ≤ a0.To)) fun x3 =>
 bnd (x2 && x3) fun x4 =>
 bnd (x1 || x4) fun x5 =>
 some x5

def bU (a0:(List aL)) (a1:aL):Nat → Int → Option Int
 | 0,_=>none
 | n0 + 1,v7 =>
   bnd (decide (v7 < (a0.length:Int))) fun x14 =>
   bif x14 then (
    bno (gix a0 v7) fun x16 =>
    bno (kT x16 a1) fun x17 =>
    bif x17 then (
     some v7
    ) else (
      bnd (IntKind.wrap .i64 (v7 + 1)) fun x19 =>
      (bU a0 a1 n0) x19
    )
   ) else (
     some (-1)
   )
def dR (a0:(List aL)) (a1:aL):Option Int :=
 bU a0 a1 fuel 0

def kK (a0:aY) (a1:aL):Option Int :=
 bno (cut a0.Pieces 0 (a0.Pieces.length:Int)) fun x1 =>
 bno (eZ a0) fun x2 =>
 bno (eZ a0) fun x3 =>
 bnd (IntKind.wrap .i64 (x3 + 1)) fun x4 =>
 bno (app 32 x1 (([(⟨x2,x4,0,false⟩:aL)]:(List aL)))) fun x5 =>
 bno (dR x5 a1) fun x6 =>
 some x6

def fA (a0:Int) (a1:(List aL)) (a2:(List aL)):Option (List aL):=insS 32 a2 a0 a1

def jV (a0:aY) (a1:Int) (x1:(Int × (List UInt8) × Int × (List aL) × (List aI) × Bool × Bool × Bool × Bool)) (x9:(aL × Bool)) (x11:Int) (v16:(List aI)) (v22:Bool) (v23:Bool) (v24:Bool):Option (aY × aL × (List UInt8) × Bool) :=
 bno (kK a0 (⟨x9.1.From,x9.1.To,a1,v24⟩:aL)) fun x25 =>
 bno (fA x25 ([(⟨x9.1.From,x9.1.To,a1,v24⟩:aL)]:(List aL)) x1.2.2.2.1) fun x26 =>
 bnd (IntKind.wrap .i64 (x9.1.From - a0.Base)) fun x27 =>
 bnd (IntKind.wrap .i64 (x9.1.To - a0.Base)) fun x28 =>
 bno (cut a0.Data x27 x28) fun x29 =>
 some (((⟨x1.1,x1.2.1,x11,x26,v16,x1.2.2.2.2.2.1,v22,v23,x1.2.2.2.2.2.2.2.2⟩:aY),(⟨x9.1.From,x9.1.To,a1,v24⟩:aL),x29,true))
def lZ (a0:aY) (a1:Int) (x1:(Int × (List UInt8) × Int × (List aL) × (List aI) × Bool × Bool × Bool × Bool)) (x9:(aL × Bool)) (x11:Int) (v16:(List aI)):Option (aY × aL × (List UInt8) × Bool) :=
 bno (eZ a0) fun x30 =>
 bnd (decide (x9.1.To=x30)) fun x31 =>
 bno (gd (x31 == true) (kO a0) default) fun x32 =>
 bnd (x31 && x32) fun x33 =>
 bif x33 then (
  jV a0 a1 x1 x9 x11 v16 true false x33
 ) else (
   jV a0 a1 x1 x9 x11 v16 x1.2.2.2.2.2.2.1 x1.2.2.2.2.2.2.2.1 x33
 )
def nI (a0:aY) (a1:Int) (a2:Int) (a3:Int):Option (aY × aL × (List UInt8) × Bool) :=
 bno (fW a0) fun x1 =>
 bno (oI a1) fun x2 =>
 bnd (decide (a2 < 1)) fun x3 =>
 bnd ((!x2) || x3) fun x4 =>
 bno (gd (x4 == false) (kP a0) default) fun x5 =>
 bnd (!decide (x5=0)) fun x6 =>
 bnd (x4 || x6) fun x7 =>
 bif x7 then (
  some (((⟨x1.1,x1.2.1,x1.2.2.1,x1.2.2.2.1,x1.2.2.2.2.1,x1.2.2.2.2.2.1,x1.2.2.2.2.2.2.1,x1.2.2.2.2.2.2.2.1,x1.2.2.2.2.2.2.2.2⟩:aY),(⟨0,0,0,false⟩:aL),[],false))
 ) else (
   bno (jP a0 a2 a3) fun x9 =>
   bif (!x9.2) then (
    some (((⟨x1.1,x1.2.1,x1.2.2.1,x1.2.2.2.1,x1.2.2.2.2.1,x1.2.2.2.2.2.1,x1.2.2.2.2.2.2.1,x1.2.2.2.2.2.2.2.1,x1.2.2.2.2.2.2.2.2⟩:aY),(⟨0,0,0,false⟩:aL),[],false))
   ) else (
     bnd (max x1.2.2.1 x9.1.To) fun x11 =>
     bnd (decide (x9.1.From < x9.1.To)) fun x35 =>
     bif x35 then (
      bno (fQ (⟨x9.1.From,x9.1.To,a1,x9.1.Fin⟩:aL)) fun x37 =>
      bno (oO x1.2.2.2.2.1 (⟨x37.From,x37.To⟩:aI)) fun x38 =>
      lZ a0 a1 x1 x9 x11 x38
     ) else (
       lZ a0 a1 x1 x9 x11 x1.2.2.2.2.1
     )
   )
 )

def lT (a0:aL) (a1:Int):Option Bool :=
 bnd (decide (a0.Path=a1)) fun x1 =>
 some x1

def iE (a0:aI) (a1:(List aI)):Option (List aI) :=
 bno (fS (⟨a0.From,a0.To⟩:aI)) fun x1 =>
 bif x1 then (
  some a1
 ) else (
   bnd (decide (0 < (a1.length:Int))) fun x3 =>
   bnd (IntKind.wrap .i64 ((a1.length:Int) - 1)) fun x4 =>
   bno (gd (x3 == true) (gix a1 x4) default) fun x5 =>
   bno (gd (x3 == true) (a1[(x4:Int).toNat]?) default) fun x6 =>
   bnd (decide (a0.From ≤ x6.To)) fun x7 =>
   bnd (x3 && x7) fun x8 =>
   bif x8 then (
    bnd (IntKind.wrap .i64 ((a1.length:Int) - 1)) fun x10 =>
    bnd (IntKind.wrap .i64 ((a1.length:Int) - 1)) fun x11 =>
    bno (gix a1 x11) fun x12 =>
    bno (a1[(x11:Int).toNat]?) fun x13 =>
    bnd (max x13.To a0.To) fun x14 =>
    bno (gix a1 x10) fun x15 =>
    bno (a1[(x10:Int).toNat]?) fun x16 =>
    bnd (a1.set ((x10:Int).toNat) (⟨x16.From,x14⟩:aI)) fun x17 =>
    some x17
   ) else (
     bno (app 16 a1 (([(⟨a0.From,a0.To⟩:aI)]:(List aI)))) fun x18 =>
     some x18
   )
 )

def mE (v26:Int) (kk0:(List aI) → Bool → Int → Option (List aI)) (x44:aI) (v49:(List aI)) (v50:Bool):Option (List aI) :=
 bno (iE (⟨x44.From,x44.To⟩:aI) v49) fun x51 =>
 bnd (IntKind.wrap .i64 (v26 + 1)) fun x52 =>
 kk0 x51 v50 x52
def gG (a0:(List aI)) (a1:aI):Nat → (List aI) → Bool → Int → Option (List aI)
 | 0,_,_,_=>none
 | n0 + 1,v24,v25,v26 =>
   bnd (decide (v26 < (a0.length:Int))) fun x42 =>
   bif x42 then (
    bno (gix a0 v26) fun x44 =>
    bnd (decide (a1.From ≤ x44.From)) fun x53 =>
    bnd ((!v25) && x53) fun x54 =>
    bif x54 then (
     bno (iE (⟨a1.From,a1.To⟩:aI) v24) fun x56 =>
     mE v26 (gG a0 a1 n0) x44 x56 true
    ) else (
      mE v26 (gG a0 a1 n0) x44 v24 v25
    )
   ) else (
     bif (!v25) then (
      bno (iE (⟨a1.From,a1.To⟩:aI) v24) fun x58 =>
      some x58
     ) else (
       some v24
     )
   )
def rU (a0:(List aI)) (a1:aI):Option (List aI) :=
 bno (gZ (⟨a1.From,a1.To⟩:aI)) fun x1 =>
 bno (gd ((!x1) == false) (fS (⟨a1.From,a1.To⟩:aI)) default) fun x2 =>
 bnd ((!x1) || x2) fun x3 =>
 bno (gd (x3 == false) (lC a0) default) fun x4 =>
 bnd (!decide (x4=0)) fun x5 =>
 bnd (x3 || x5) fun x6 =>
 bif x6 then (
  bno (dM a0) fun x8 =>
  some x8
 ) else (
   gG a0 a1 fuel ([]:(List aI)) false 0
 )

def cO (a0:(List aL)) (a1:Int):Nat → Int → Option Int
 | 0,_=>none
 | n0 + 1,v7 =>
   bnd (decide (v7 < (a0.length:Int))) fun x14 =>
   bif x14 then (
    bno (gix a0 v7) fun x16 =>
    bno (lT x16 a1) fun x17 =>
    bif x17 then (
     some v7
    ) else (
      bnd (IntKind.wrap .i64 (v7 + 1)) fun x19 =>
      (cO a0 a1 n0) x19
    )
   ) else (
     some (-1)
   )
def eD (a0:(List aL)) (a1:Int):Option Int :=
 cO a0 a1 fuel 0

def cG (a1:Int):Nat → (List aL) → Int → Int → Option (List aL)
 | 0,_,_,_=>none
 | n0 + 1,v17,v18,v19 =>
   bnd (decide (v19 < (v17.length:Int))) fun x32 =>
   bif x32 then (
    bno (gix v17 v19) fun x34 =>
    bno (v17[(v19:Int).toNat]?) fun x35 =>
    bno (lT x35 a1) fun x36 =>
    bif (!x36) then (
     bno (gix v17 v18) fun x38 =>
     bno (v17[(v18:Int).toNat]?) fun x39 =>
     bnd (v17.set ((v18:Int).toNat) x35) fun x40 =>
     bnd (IntKind.wrap .i64 (v18 + 1)) fun x41 =>
     bnd (IntKind.wrap .i64 (v19 + 1)) fun x42 =>
     (cG a1 n0) x40 x41 x42
    ) else (
      bnd (IntKind.wrap .i64 (v19 + 1)) fun x43 =>
      (cG a1 n0) v17 v18 x43
    )
   ) else (
     bno (cut v17 0 v18) fun x44 =>
     bno (cut x44 0 v18) fun x45 =>
     some x45
   )
def dJ (a0:(List aL)) (a1:Int):Option (List aL) :=
 bno (eD a0 a1) fun x1 =>
 bnd (decide (x1=(-1))) fun x2 =>
 bif x2 then (
  some a0
 ) else (
   bnd (IntKind.wrap .i64 (x1 + 1)) fun x4 =>
   cG a1 fuel a0 x1 x4
 )

def iQ (a0:aY) (a1:Int) (x1:(Int × (List UInt8) × Int × (List aL) × (List aI) × Bool × Bool × Bool × Bool)):Nat → Int → (List aI) → Bool → Option aY
 | 0,_,_,_=>none
 | n0 + 1,v15,v16,v17 =>
   bnd (decide (v15 < (a0.Pieces.length:Int))) fun x28 =>
   bif x28 then (
    bno (gix a0.Pieces v15) fun x30 =>
    bno (lT x30 a1) fun x31 =>
    bif x31 then (
     bno (fQ x30) fun x33 =>
     bno (rU v16 (⟨x33.From,x33.To⟩:aI)) fun x34 =>
     bnd (v17 || x30.Fin) fun x35 =>
     bnd (IntKind.wrap .i64 (v15 + 1)) fun x36 =>
     (iQ a0 a1 x1 n0) x36 x34 x35
    ) else (
      bnd (IntKind.wrap .i64 (v15 + 1)) fun x37 =>
      (iQ a0 a1 x1 n0) x37 v16 v17
    )
   ) else (
     bno (dJ x1.2.2.2.1 a1) fun x38 =>
     some (⟨x1.1,x1.2.1,x1.2.2.1,x38,v16,x1.2.2.2.2.2.1,x1.2.2.2.2.2.2.1,v17,x1.2.2.2.2.2.2.2.2⟩:aY)
   )
def rG (a0:aY) (a1:Int):Option aY :=
 bno (fW a0) fun x1 =>
 bno (kP a0) fun x2 =>
 bnd (!decide (x2=0)) fun x3 =>
 bif x3 then (
  some (⟨x1.1,x1.2.1,x1.2.2.1,x1.2.2.2.1,x1.2.2.2.2.1,x1.2.2.2.2.2.1,x1.2.2.2.2.2.2.1,x1.2.2.2.2.2.2.2.1,x1.2.2.2.2.2.2.2.2⟩:aY)
 ) else (
   iQ a0 a1 x1 fuel 0 x1.2.2.2.2.1 x1.2.2.2.2.2.2.2.1
 )

def oJ (a0:aL):Option Bool :=
 bnd (decide (a0.From=a0.To)) fun x1 =>
 bnd (x1 && (!a0.Fin)) fun x2 =>
 some x2

def cP (a0:(List aL)):Nat → Int → Option Int
 | 0,_=>none
 | n0 + 1,v7 =>
   bnd (decide (v7 < (a0.length:Int))) fun x14 =>
   bif x14 then (
    bno (gix a0 v7) fun x16 =>
    bno (oJ x16) fun x17 =>
    bif x17 then (
     some v7
    ) else (
      bnd (IntKind.wrap .i64 (v7 + 1)) fun x19 =>
      (cP a0 n0) x19
    )
   ) else (
     some (-1)
   )
def eE (a0:(List aL)):Option Int :=
 cP a0 fuel 0

def cH  : Nat → (List aL) → Int → Int → Option (List aL)
 | 0,_,_,_=>none
 | n0 + 1,v17,v18,v19 =>
   bnd (decide (v19 < (v17.length:Int))) fun x32 =>
   bif x32 then (
    bno (gix v17 v19) fun x34 =>
    bno (v17[(v19:Int).toNat]?) fun x35 =>
    bno (oJ x35) fun x36 =>
    bif (!x36) then (
     bno (gix v17 v18) fun x38 =>
     bno (v17[(v18:Int).toNat]?) fun x39 =>
     bnd (v17.set ((v18:Int).toNat) x35) fun x40 =>
     bnd (IntKind.wrap .i64 (v18 + 1)) fun x41 =>
     bnd (IntKind.wrap .i64 (v19 + 1)) fun x42 =>
     (cH n0) x40 x41 x42
    ) else (
      bnd (IntKind.wrap .i64 (v19 + 1)) fun x43 =>
      (cH n0) v17 v18 x43
    )
   ) else (
     bno (cut v17 0 v18) fun x44 =>
     bno (cut x44 0 v18) fun x45 =>
     some x45
   )
def dK (a0:(List aL)):Option (List aL) :=
 bno (eE a0) fun x1 =>
 bnd (decide (x1=(-1))) fun x2 =>
 bif x2 then (
  some a0
 ) else (
   bnd (IntKind.wrap .i64 (x1 + 1)) fun x4 =>
   cH fuel a0 x1 x4
 )

def jW (a0:aY) (a2:Bool) (x1:(Int × (List UInt8) × Int × (List aL) × (List aI) × Bool × Bool × Bool × Bool)) (x14:Int):Nat → Int → (List aL) → Option aY
 | 0,_,_=>none
 | n0 + 1,v31,v32 =>
   bnd (decide (v31 < (x1.2.2.2.1.length:Int))) fun x49 =>
   bif x49 then (
    bno (gix v32 v31) fun x51 =>
    bno (v32[(v31:Int).toNat]?) fun x52 =>
    bnd (max x52.From x14) fun x53 =>
    bno (v32[(v31:Int).toNat]?) fun x54 =>
    bnd (max x54.To x14) fun x55 =>
    bno (v32[(v31:Int).toNat]?) fun x56 =>
    bnd (v32.set ((v31:Int).toNat) (⟨x53,x56.To,x56.Path,x56.Fin⟩:aL)) fun x57 =>
    bno (x57[(v31:Int).toNat]?) fun x58 =>
    bnd (x57.set ((v31:Int).toNat) (⟨x58.From,x55,x58.Path,x58.Fin⟩:aL)) fun x59 =>
    bno (x59[(v31:Int).toNat]?) fun x60 =>
    bnd (x60.Fin && (!a2)) fun x61 =>
    bno (x59[(v31:Int).toNat]?) fun x62 =>
    bnd (x59.set ((v31:Int).toNat) (⟨x62.From,x62.To,x62.Path,x61⟩:aL)) fun x63 =>
    bnd (IntKind.wrap .i64 (v31 + 1)) fun x64 =>
    (jW a0 a2 x1 x14 n0) x64 x63
   ) else (
     bno (dK v32) fun x65 =>
     bnd (IntKind.wrap .i64 (x14 - a0.Base)) fun x66 =>
     bno (cut a0.Data x66 (a0.Data.length:Int)) fun x67 =>
     bno (oO x1.2.2.2.2.1 (⟨0,x14⟩:aI)) fun x68 =>
     bif a2 then (
      some (⟨x14,x67,x1.2.2.1,x65,x68,x1.2.2.2.2.2.1,x1.2.2.2.2.2.2.1,false,true⟩:aY)
     ) else (
       some (⟨x14,x67,x1.2.2.1,x65,x68,x1.2.2.2.2.2.1,x1.2.2.2.2.2.2.1,x1.2.2.2.2.2.2.2.1,x1.2.2.2.2.2.2.2.2⟩:aY)
     )
   )
def pQ (a0:aY) (a1:Int) (a2:Bool):Option aY :=
 bno (fW a0) fun x1 =>
 bno (kP a0) fun x2 =>
 bnd (!decide (x2=0)) fun x3 =>
 bnd (decide (a1 < 0)) fun x4 =>
 bnd (x3 || x4) fun x5 =>
 bnd (decide (a0.Next < a1)) fun x6 =>
 bnd (x5 || x6) fun x7 =>
 bno (gd ((x7 == false) && (a2 == true)) (eZ a0) default) fun x8 =>
 bnd (!decide (a1=x8)) fun x9 =>
 bnd (x9 || (!a0.Sent)) fun x10 =>
 bnd (a2 && x10) fun x11 =>
 bnd (x7 || x11) fun x12 =>
 bif x12 then (
  some (⟨x1.1,x1.2.1,x1.2.2.1,x1.2.2.2.1,x1.2.2.2.2.1,x1.2.2.2.2.2.1,x1.2.2.2.2.2.2.1,x1.2.2.2.2.2.2.2.1,x1.2.2.2.2.2.2.2.2⟩:aY)
 ) else (
   bnd (max a1 a0.Base) fun x14 =>
   jW a0 a2 x1 x14 fuel 0 x1.2.2.2.1
 )

def rF (a0:aY) (a1:Int):Option Bool :=
 bno (kP a0) fun x1 =>
 bnd (!decide (x1=0)) fun x2 =>
 bif x2 then (
  some false
 ) else (
   bno (jP a0 1 a1) fun x4 =>
   some x4.2
 )

def dV (a0:(List aL)) (a1:(List aL)):Nat → Int → Option Bool
 | 0,_=>none
 | n0 + 1,v10 =>
   bnd (decide (v10 < (a0.length:Int))) fun x18 =>
   bif x18 then (
    bno (gix a0 v10) fun x20 =>
    bno (gix a1 v10) fun x21 =>
    bnd ((decide (x20.From=x21.From) && (decide (x20.To=x21.To) && (decide (x20.Path=x21.Path) && ((x20.Fin == x21.Fin) && true))))) fun x22 =>
    bif (!x22) then (
     some false
    ) else (
      bnd (IntKind.wrap .i64 (v10 + 1)) fun x24 =>
      (dV a0 a1 n0) x24
    )
   ) else (
     some true
   )
def fO (a0:(List aL)) (a1:(List aL)):Option Bool :=
 bnd (!decide ((a0.length:Int)=(a1.length:Int))) fun x1 =>
 bif x1 then (
  some false
 ) else (
   dV a0 a1 fuel 0
 )

def xF (a0:aY) (a1:aY):Option Bool :=
 bno (fO a0.Pieces a1.Pieces) fun x1 =>
 bno (gd ((!x1) == false) (oG a0.Lost a1.Lost) default) fun x2 =>
 bnd ((!x1) || (!x2)) fun x3 =>
 bif x3 then (
  some false
 ) else (
   bnd (a0.Closed == a1.Closed) fun x5 =>
   bnd (a0.Sent == a1.Sent) fun x6 =>
   bnd (x5 && x6) fun x7 =>
   bnd (a0.Again == a1.Again) fun x8 =>
   bnd (x7 && x8) fun x9 =>
   bnd (a0.Done == a1.Done) fun x10 =>
   bnd (x9 && x10) fun x11 =>
   bnd (decide (a0.Base=a1.Base)) fun x12 =>
   bnd (x11 && x12) fun x13 =>
   bnd (decide (a0.Data=a1.Data)) fun x14 =>
   bnd (x13 && x14) fun x15 =>
   bnd (decide (a0.Next=a1.Next)) fun x16 =>
   bnd (x15 && x16) fun x17 =>
   some x17
 )

end Go.Fn
open Go Go.IL
namespace Go.Fn
structure aCX where
 Kind:Int
 N:Int
 Path:Int
 Text:(List UInt8)
 deriving DecidableEq,Inhabited
structure aU where
 At:Int
 Data:(List UInt8)
 deriving DecidableEq,Inhabited
def aN:Enc aU:=⟨⟨fun x=>.agg [.int .i64 x.At,.str x.Data],2,by decide,fun _=>⟨rfl,rfl⟩⟩,fun _=>rfl⟩

structure bM where
 Base:Int
 Ready:(List UInt8)
 Parts:(List aU)
 deriving DecidableEq,Inhabited
structure bX where
 Recv:bM
 End:Int
 deriving DecidableEq,Inhabited
structure oU where
 Window:Int
 Limit:Int
 Used:Int
 Read:Int
 deriving DecidableEq,Inhabited
structure rY where
 ID:Int
 Send:aY
 Recv:bX
 Out:oU
 In:oU
 Mine:Int
 Hers:Int
 deriving DecidableEq,Inhabited
structure gE where
 State:bM
 end_:Int
 deriving DecidableEq,Inhabited
structure tQ where
 at_:Int
 s:(List UInt8)
 fin:Bool
 deriving DecidableEq,Inhabited
structure vE where
 a:rY
 b:rY
 went:(List tQ)
 wrote:(List UInt8)
 read:(List UInt8)
 given:Int
 end_:Bool
 deriving DecidableEq,Inhabited
def xG  : Option bM :=
 some (⟨0,[],[]⟩:bM)

def zV  : Option bX :=
 bno (xG) fun x1 =>
 some (⟨x1,(-1)⟩:bX)

def mY (a0:bM):Option Int :=
 bnd (IntKind.wrap .i64 (a0.Base - (a0.Ready.length:Int))) fun x1 =>
 bnd (IntKind.wrap .i64 (x1 + 4096)) fun x2 =>
 bnd (min x2 1099511627776) fun x3 =>
 some x3

def fE (a0:aU):Option Int :=
 bnd (IntKind.wrap .i64 (a0.At + (a0.Data.length:Int))) fun x1 =>
 some x1

def gV (a0:bM) (x8:Int):Nat → Int → Int → Option Int
 | 0,_,_=>none
 | n0 + 1,v23,v24 =>
   bnd (decide (v24 < (a0.Parts.length:Int))) fun x39 =>
   bif x39 then (
    bno (gix a0.Parts v24) fun x41 =>
    bnd (decide (x41.At ≤ v23)) fun x42 =>
    bnd (decide (x41.Data=([]:List UInt8))) fun x43 =>
    bnd (x42 || x43) fun x44 =>
    bnd (decide (x8 < x41.At)) fun x45 =>
    bnd (x44 || x45) fun x46 =>
    bnd (IntKind.wrap .i64 (x8 - x41.At)) fun x47 =>
    bnd (decide (x47 < (x41.Data.length:Int))) fun x48 =>
    bnd (x46 || x48) fun x49 =>
    bif x49 then (
     some 10
    ) else (
      bno (fE x41) fun x51 =>
      bnd (IntKind.wrap .i64 (v24 + 1)) fun x52 =>
      (gV a0 x8 n0) x51 x52
    )
   ) else (
     some 0
   )
def lU (a0:bM):Option Int :=
 bnd (decide (a0.Base < 0)) fun x1 =>
 bnd (decide (1099511627776 < a0.Base)) fun x2 =>
 bnd (x1 || x2) fun x3 =>
 bnd (min a0.Base 4096) fun x4 =>
 bnd (decide (x4 < (a0.Ready.length:Int))) fun x5 =>
 bnd (x3 || x5) fun x6 =>
 bif x6 then (
  some 8
 ) else (
   bno (mY a0) fun x8 =>
   gV a0 x8 fuel a0.Base 0
 )

def nL (a0:bX):Option gE :=
 some (⟨a0.Recv,a0.End⟩:gE)

def gQ (a0:gE):Option Int :=
 bnd (decide (0 < (a0.State.Parts.length:Int))) fun x1 =>
 bif x1 then (
  bnd (IntKind.wrap .i64 ((a0.State.Parts.length:Int) - 1)) fun x3 =>
  bno (gix a0.State.Parts x3) fun x4 =>
  bnd (IntKind.wrap .i64 ((a0.State.Parts.length:Int) - 1)) fun x5 =>
  bno (gix a0.State.Parts x5) fun x6 =>
  bnd (IntKind.wrap .i64 (x4.At + (x6.Data.length:Int))) fun x7 =>
  some x7
 ) else (
   some a0.State.Base
 )

def tW (a0:bX):Option Int :=
 bno (nL a0) fun x1 =>
 bno (gQ x1) fun x2 =>
 some x2

def mB (a0:bX):Option Int :=
 bno (lU a0.Recv) fun x1 =>
 bnd (!decide (x1=0)) fun x2 =>
 bif x2 then (
  some x1
 ) else (
   bnd (!decide (a0.End=(-1))) fun x4 =>
   bno (gd (x4 == true) (tW a0) default) fun x5 =>
   bnd (decide (a0.End < x5)) fun x6 =>
   bnd (decide (1099511627776 < a0.End)) fun x7 =>
   bnd (x6 || x7) fun x8 =>
   bnd (x4 && x8) fun x9 =>
   bif x9 then (
    some 8
   ) else (
     some 0
   )
 )

def iA (a0:gE):Option Bool :=
 bnd (decide (0 ≤ a0.end_)) fun x1 =>
 some x1

def iV (a0:gE) (a1:Int) (a2:Bool):Option Bool :=
 bno (iA a0) fun x1 =>
 bif x1 then (
  bnd (decide (a0.end_ < a1)) fun x3 =>
  bnd (decide (a1 < a0.end_)) fun x4 =>
  bnd (a2 && x4) fun x5 =>
  bnd (x3 || x5) fun x6 =>
  some x6
 ) else (
   bno (gd (a2 == true) (gQ a0) default) fun x7 =>
   bnd (decide (a1 < x7)) fun x8 =>
   bnd (a2 && x8) fun x9 =>
   some x9
 )

def dO (a0:(List aU)):Option (List aU) :=
 yO a0 (
  some []
 ) (
   bno (app 24 ([]:(List aU)) a0) fun x3 =>
   some x3
 )

def iU (a0:bM):Nat → Int → Int → Option Int
 | 0,_,_=>none
 | n0 + 1,v6,v7 =>
   bnd (decide (v7 < (a0.Parts.length:Int))) fun x13 =>
   bif x13 then (
    bno (gix a0.Parts v7) fun x15 =>
    bnd (IntKind.wrap .i64 (v6 + (x15.Data.length:Int))) fun x16 =>
    bnd (IntKind.wrap .i64 (v7 + 1)) fun x17 =>
    (iU a0 n0) x16 x17
   ) else (
     some v6
   )
def pS (a0:bM):Option Int :=
 iU a0 fuel (a0.Ready.length:Int) 0

def jQ (a0:(List aU)) (v10:(List aU)) (v102:Int) (v103:Int) (v104:(List UInt8)):Option (List aU) :=
 bno (app 24 v10 (([(⟨v103,v104⟩:aU)]:(List aU)))) fun x105 =>
 bno (cut a0 v102 (a0.length:Int)) fun x106 =>
 bno (app 24 x105 x106) fun x107 =>
 some x107
def fD (a0:(List aU)) (v10:(List aU)):Nat → Int → Int → (List UInt8) → Option (List aU)
 | 0,_,_,_=>none
 | n3 + 1,v131,v132,v133 =>
   bnd (decide (v131 < (a0.length:Int))) fun x157 =>
   bif x157 then (
    bno (gix a0 v131) fun x159 =>
    bno (fE (⟨v132,v133⟩:aU)) fun x160 =>
    bnd (decide (x160 < x159.At)) fun x161 =>
    bif x161 then (
     jQ a0 v10 v131 v132 v133
    ) else (
      bnd (decide (x159.At ≤ v132)) fun x163 =>
      bif x163 then (
       bno (fE x159) fun x165 =>
       bnd (IntKind.wrap .i64 (x165 - v132)) fun x166 =>
       bnd (min (v133.length:Int) x166) fun x167 =>
       bno (cut v133 x167 (v133.length:Int)) fun x168 =>
       bno (cat x159.Data x168) fun x169 =>
       bnd (IntKind.wrap .i64 (v131 + 1)) fun x170 =>
       (fD a0 v10 n3) x170 x159.At x169
      ) else (
        bnd (IntKind.wrap .i64 (x159.At - v132)) fun x171 =>
        bno (cut v133 0 x171) fun x172 =>
        bno (cat x172 x159.Data) fun x173 =>
        bno (fE x159) fun x174 =>
        bnd (IntKind.wrap .i64 (x174 - v132)) fun x175 =>
        bnd (min (v133.length:Int) x175) fun x176 =>
        bno (cut v133 x176 (v133.length:Int)) fun x177 =>
        bno (cat x173 x177) fun x178 =>
        bnd (IntKind.wrap .i64 (v131 + 1)) fun x179 =>
        (fD a0 v10 n3) x179 v132 x178
      )
    )
   ) else (
     jQ a0 v10 v131 v132 v133
   )
def gF (a0:(List aU)) (a1:aU):Nat → (List aU) → Int → Option (List aU)
 | 0,_,_=>none
 | n0 + 1,v10,v11 =>
   bnd (decide (v11 < (a0.length:Int))) fun x21 =>
   bno (gd (x21 == true) (gix a0 v11) default) fun x22 =>
   bno (gd (x21 == true) (fE x22) default) fun x23 =>
   bnd (decide (x23 < a1.At)) fun x24 =>
   bnd (x21 && x24) fun x25 =>
   bif x25 then (
    bno (gix a0 v11) fun x27 =>
    bno (app 24 v10 ([x27]:(List aU))) fun x28 =>
    bnd (IntKind.wrap .i64 (v11 + 1)) fun x29 =>
    (gF a0 a1 n0) x28 x29
   ) else (
     fD a0 v10 fuel v11 a1.At a1.Data
   )
def nK (a0:(List aU)) (a1:aU):Option (List aU) :=
 gF a0 a1 fuel ([]:(List aU)) 0

def eC (a0:Int) (a1:Int) (a2:(List aU)):Option (List aU):=delS a2 a0 a1

def mA (x24:Int) (v33:Int) (v34:(List UInt8)) (v35:(List aU)):Option (bM × Int) :=
 bno (pS (⟨v33,v34,v35⟩:bM)) fun x36 =>
 bnd (IntKind.wrap .i64 (x36 - x24)) fun x37 =>
 some ((⟨v33,v34,v35⟩:bM),x37)
def jX (a0:bM) (x1:(List aU)) (v20:Int) (v21:(List UInt8)):Option (bM × Int) :=
 bnd (decide (v21=([]:List UInt8))) fun x22 =>
 bif x22 then (
  some ((⟨a0.Base,a0.Ready,x1⟩:bM),0)
 ) else (
   bno (pS (⟨a0.Base,a0.Ready,x1⟩:bM)) fun x24 =>
   bno (nK x1 (⟨v20,v21⟩:aU)) fun x25 =>
   bno (gix x25 0) fun x38 =>
   bno (x25[(0:Int).toNat]?) fun x39 =>
   bnd (decide (x39.At=a0.Base)) fun x40 =>
   bif x40 then (
    bno (fE x39) fun x42 =>
    bno (cat a0.Ready x39.Data) fun x43 =>
    bno (eC 0 1 x25) fun x44 =>
    mA x24 x42 x43 x44
   ) else (
     mA x24 a0.Base a0.Ready x25
   )
 )
def rH (a0:bM) (a1:Int) (a2:(List UInt8)):Option (bM × Int) :=
 bno (dO a0.Parts) fun x1 =>
 bnd (decide (a1 < 0)) fun x2 =>
 bnd (decide (1099511627776 < a1)) fun x3 =>
 bnd (x2 || x3) fun x4 =>
 bno (gd (x4 == false) (lU (⟨a0.Base,a0.Ready,x1⟩:bM)) default) fun x5 =>
 bnd (!decide (x5=0)) fun x6 =>
 bnd (x4 || x6) fun x7 =>
 bif x7 then (
  some ((⟨a0.Base,a0.Ready,x1⟩:bM),0)
 ) else (
   bno (mY (⟨a0.Base,a0.Ready,x1⟩:bM)) fun x9 =>
   bnd (decide (x9 ≤ a1)) fun x10 =>
   bif x10 then (
    some ((⟨a0.Base,a0.Ready,x1⟩:bM),0)
   ) else (
     bnd (IntKind.wrap .i64 (x9 - a1)) fun x12 =>
     bnd (min (a2.length:Int) x12) fun x13 =>
     bno (cut a2 0 x13) fun x14 =>
     bnd (decide (a1 < a0.Base)) fun x45 =>
     bif x45 then (
      bnd (IntKind.wrap .i64 (a0.Base - a1)) fun x47 =>
      bnd (min (x14.length:Int) x47) fun x48 =>
      bno (cut x14 x48 (x14.length:Int)) fun x49 =>
      jX a0 x1 a0.Base x49
     ) else (
       jX a0 x1 a1 x14
     )
   )
 )

def qK (x13:(bM × Int)) (v15:Int):Option (bX × Int × Int) :=
 some ((⟨x13.1,v15⟩:bX),x13.2,0)
def tV (a0:bX) (a1:Int) (a2:(List UInt8)) (a3:Bool):Option (bX × Int × Int) :=
 bnd (decide (a1 < 0)) fun x1 =>
 bnd (IntKind.wrap .i64 (1099511627776 - (a2.length:Int))) fun x2 =>
 bnd (decide (x2 < a1)) fun x3 =>
 bnd (x1 || x3) fun x4 =>
 bno (gd (x4 == false) (mB a0) default) fun x5 =>
 bnd (!decide (x5=0)) fun x6 =>
 bnd (x4 || x6) fun x7 =>
 bif x7 then (
  some (a0,0,2)
 ) else (
   bnd (IntKind.wrap .i64 (a1 + (a2.length:Int))) fun x9 =>
   bno (nL a0) fun x10 =>
   bno (iV x10 x9 a3) fun x11 =>
   bif x11 then (
    some (a0,0,5)
   ) else (
     bno (rH a0.Recv a1 a2) fun x13 =>
     bif a3 then (
      qK x13 x9
     ) else (
       qK x13 a0.End
     )
   )
 )

def pR (a0:bM) (a1:Int):Option (bM × (List UInt8)) :=
 bno (dO a0.Parts) fun x1 =>
 bnd (decide (a1 < 1)) fun x2 =>
 bno (gd (x2 == false) (lU (⟨a0.Base,a0.Ready,x1⟩:bM)) default) fun x3 =>
 bnd (!decide (x3=0)) fun x4 =>
 bnd (x2 || x4) fun x5 =>
 bif x5 then (
  some ((⟨a0.Base,a0.Ready,x1⟩:bM),[])
 ) else (
   bnd (min a1 (a0.Ready.length:Int)) fun x7 =>
   bno (cut a0.Ready 0 x7) fun x8 =>
   bno (cut a0.Ready x7 (a0.Ready.length:Int)) fun x9 =>
   some ((⟨a0.Base,x9,x1⟩:bM),x8)
 )

def sE (a0:bX):Option Bool :=
 bno (nL a0) fun x1 =>
 bno (iA x1) fun x2 =>
 bnd (decide (x1.State.Base=x1.end_)) fun x3 =>
 bnd (x2 && x3) fun x4 =>
 bno (gd (x4 == true) (mB a0) default) fun x5 =>
 bnd (decide (x5=0)) fun x6 =>
 bnd (x4 && x6) fun x7 =>
 some x7

def pT (a0:bX):Option Bool :=
 bnd (decide (a0.Recv.Ready=([]:List UInt8))) fun x1 =>
 bno (gd (x1 == true) (sE a0) default) fun x2 =>
 bnd (x1 && x2) fun x3 =>
 some x3

def rJ (a0:bX) (a1:Int):Option (bX × (List UInt8) × Bool) :=
 bno (pR a0.Recv a1) fun x1 =>
 bno (pT (⟨x1.1,a0.End⟩:bX)) fun x2 =>
 some ((⟨x1.1,a0.End⟩:bX),x1.2,x2)

def dW (a0:(List aU)) (a1:(List aU)):Nat → Int → Option Bool
 | 0,_=>none
 | n0 + 1,v10 =>
   bnd (decide (v10 < (a0.length:Int))) fun x18 =>
   bif x18 then (
    bno (gix a0 v10) fun x20 =>
    bno (gix a1 v10) fun x21 =>
    bnd ((decide (x20.At=x21.At) && (decide (x20.Data=x21.Data) && true))) fun x22 =>
    bif (!x22) then (
     some false
    ) else (
      bnd (IntKind.wrap .i64 (v10 + 1)) fun x24 =>
      (dW a0 a1 n0) x24
    )
   ) else (
     some true
   )
def fP (a0:(List aU)) (a1:(List aU)):Option Bool :=
 bnd (!decide ((a0.length:Int)=(a1.length:Int))) fun x1 =>
 bif x1 then (
  some false
 ) else (
   dW a0 a1 fuel 0
 )

def vH (a0:bM) (a1:bM):Option Bool :=
 bnd (decide (a0.Base=a1.Base)) fun x1 =>
 bnd (decide (a0.Ready=a1.Ready)) fun x2 =>
 bnd (x1 && x2) fun x3 =>
 bno (gd (x3 == true) (fP a0.Parts a1.Parts) default) fun x4 =>
 bnd (x3 && x4) fun x5 =>
 some x5

def xL (a0:bX) (a1:bX):Option Bool :=
 bnd (decide (a0.End=a1.End)) fun x1 =>
 bno (gd (x1 == true) (vH a0.Recv a1.Recv) default) fun x2 =>
 bnd (x1 && x2) fun x3 =>
 some x3

end Go.Fn
open Go Go.IL
namespace Go.Fn
structure bB where
 Send:aY
 Recv:bX
 In:cE
 deriving DecidableEq,Inhabited
structure lF where
 Scope:Int
 Code:Int
 deriving DecidableEq,Inhabited
def lY  : Option bB :=
 bno (zS) fun x1 =>
 bno (zV) fun x2 =>
 some (⟨x1,x2,(⟨[],0,0⟩:cE)⟩:bB)

def dD (a0:bB):Option Int :=
 bno (kP a0.Send) fun x1 =>
 bnd (!decide (x1=0)) fun x2 =>
 bif x2 then (
  some x1
 ) else (
   bno (mB a0.Recv) fun x4 =>
   bnd (!decide (x4=0)) fun x5 =>
   bif x5 then (
    some x4
   ) else (
     bno (kH a0.In) fun x7 =>
     bnd (!decide (x7=0)) fun x8 =>
     bif x8 then (
      some x7
     ) else (
       bnd (decide (0 ≤ a0.Recv.End)) fun x10 =>
       bnd (a0.Send.Closed || x10) fun x11 =>
       bnd (!decide (a0.Recv.Recv.Ready=([]:List UInt8))) fun x12 =>
       bnd (x11 || x12) fun x13 =>
       bnd (!decide (a0.In.Bad=0)) fun x14 =>
       bnd (x13 || x14) fun x15 =>
       bif x15 then (
        some 4
       ) else (
         some 0
       )
     )
   )
 )

def lH (a0 : Int):Option Bool :=
 bnd (decide (a0=1)) fun x1 =>
 bif x1 then (
  some true
 ) else (
   bnd (decide (a0=2)) fun x3 =>
   bif x3 then (
    some true
   ) else (
     bnd (decide (a0=3)) fun x5 =>
     bif x5 then (
      some true
     ) else (
       bnd (decide (a0=4)) fun x7 =>
       bif x7 then (
        some true
       ) else (
         bnd (decide (a0=6)) fun x9 =>
         bif x9 then (
          some true
         ) else (
           bnd (decide (a0=7)) fun x11 =>
           bif x11 then (
            some true
           ) else (
             bnd (decide (a0=8)) fun x13 =>
             bif x13 then (
              some true
             ) else (
               some false
             )
           )
         )
       )
     )
   )
 )

def hM (a0 : bB) (a1:aH):Option (bB × Int) :=
 bno (dD a0) fun x1 =>
 bnd (!decide (x1=0)) fun x2 =>
 bif x2 then (
  some (a0,x1)
 ) else (
   bno (lH a1.Kind) fun x4 =>
   bif (!x4) then (
    some (a0,12)
   ) else (
     bno (rW a1) fun x6 =>
     bnd (!decide (x6.2=0)) fun x7 =>
     bif x7 then (
      some (a0,x6.2)
     ) else (
       bno (pP a0.Send) fun x9 =>
       bnd (decide (x9 < (x6.1.length:Int))) fun x10 =>
       bif x10 then (
        some (a0,7)
       ) else (
         bno (pO a0.Send x6.1) fun x12 =>
         bnd (decide (x12.2 < (x6.1.length:Int))) fun x13 =>
         bif x13 then (
          some (a0,7)
         ) else (
           some ((⟨x12.1,a0.Recv,a0.In⟩:bB),0)
         )
       )
     )
   )
 )

def lR (a0:aY) (a1:Int) (a2:Int) (a3:aL) (a4:(List UInt8)) (a5:Bool):Option (aY × aL × (List UInt8) × Bool) :=
 bno (nI a0 a1 a2 1099511627776) fun x1 =>
 some (x1.1,x1.2.1,x1.2.2.1,x1.2.2.2)

def fT (a0:bB) (a1:Int) (a2:Int) (a3:aL) (a4:(List UInt8)) (a5:Bool):Option (bB × aL × (List UInt8) × Bool) :=
 bno (dD a0) fun x1 =>
 bnd (decide (x1=0)) fun x2 =>
 bif x2 then (
  bno (lR a0.Send a1 a2 a3 a4 a5) fun x4 =>
  some ((⟨x4.1,a0.Recv,a0.In⟩:bB),x4.2.1,x4.2.2.1,x4.2.2.2)
 ) else (
   some (a0,a3,a4,a5)
 )

def jF (a0:bB) (a1:Int) (a2:Int):Option (bB × aL × (List UInt8) × Bool) :=
 bno (fT a0 a1 a2 (⟨0,0,0,false⟩:aL) ([]:(List UInt8)) false) fun x1 =>
 some (x1.1,x1.2.1,x1.2.2.1,x1.2.2.2)

def kN (a0:aH):Option Bool :=
 bno (lH a0.Kind) fun x1 =>
 some (!x1)

def bW (a0:(List aH)):Nat → Int → Option Int
 | 0,_=>none
 | n0 + 1,v7 =>
   bnd (decide (v7 < (a0.length:Int))) fun x14 =>
   bif x14 then (
    bno (gix a0 v7) fun x16 =>
    bno (kN x16) fun x17 =>
    bif x17 then (
     some v7
    ) else (
      bnd (IntKind.wrap .i64 (v7 + 1)) fun x19 =>
      (bW a0 n0) x19
    )
   ) else (
     some (-1)
   )
def dG (a0:(List aH)):Option Int :=
 bW a0 fuel 0

def qI (a0:Int):Option lF :=
 bnd (decide (a0=0)) fun x1 =>
 bif x1 then (
  some (⟨0,0⟩:lF)
 ) else (
   bnd (decide (a0=5)) fun x3 =>
   bif x3 then (
    some (⟨3,6⟩:lF)
   ) else (
     some (⟨3,1⟩:lF)
   )
 )

def fF (a0:bB) (a1:Int) (a2:(List UInt8)):Option (bB × (List aH) × Int) :=
 bno (dD a0) fun x1 =>
 bnd (!decide (x1=0)) fun x2 =>
 bif x2 then (
  some (a0,[],2)
 ) else (
   bno (tV a0.Recv a1 a2 false) fun x4 =>
   bnd (!decide (x4.2.2=0)) fun x5 =>
   bif x5 then (
    some (a0,[],x4.2.2)
   ) else (
     bno (rJ x4.1 4096) fun x7 =>
     bno (nQ a0.In x7.2.1) fun x8 =>
     bno (dG x8.2) fun x9 =>
     bnd (decide (0 ≤ x9)) fun x10 =>
     bif x10 then (
      bno (cut x8.2 0 x9) fun x12 =>
      some (a0,x12,1)
     ) else (
       bno (qI x8.1.Bad) fun x13 =>
       bnd (!decide (x13.Scope=0)) fun x14 =>
       bif x14 then (
        some (a0,x8.2,x13.Code)
       ) else (
         some ((⟨a0.Send,x7.1,x8.1⟩:bB),x8.2,0)
       )
     )
   )
 )

def lS (a0:aY) (a1:Int):Option aY :=
 bno (rG a0 a1) fun x1 =>
 some x1

def fU (a0:bB) (a1:Int):Option bB :=
 bno (dD a0) fun x1 =>
 bnd (decide (x1=0)) fun x2 =>
 bif x2 then (
  bno (lS a0.Send a1) fun x4 =>
  some (⟨x4,a0.Recv,a0.In⟩:bB)
 ) else (
   some a0
 )

def lE (a0:bB) (a1:Int):Option bB :=
 bno (fU a0 a1) fun x1 =>
 some x1

def kV (a0:aY) (a1:Int):Option aY :=
 bno (pQ a0 a1 false) fun x1 =>
 some x1

def fG (a0:bB) (a1:Int):Option bB :=
 bno (dD a0) fun x1 =>
 bnd (decide (x1=0)) fun x2 =>
 bif x2 then (
  bno (kV a0.Send a1) fun x4 =>
  some (⟨x4,a0.Recv,a0.In⟩:bB)
 ) else (
   some a0
 )

def hT (a0:bB) (a1:Int):Option bB :=
 bno (fG a0 a1) fun x1 =>
 some x1

def kI (a0:bB):Option Int :=
 some a0.Recv.Recv.Base

def hG (a0:bB):Option Bool :=
 bno (dD a0) fun x1 =>
 bnd (decide (x1=0)) fun x2 =>
 bno (gd (x2 == true) (rF a0.Send 1099511627776) default) fun x3 =>
 bnd (x2 && x3) fun x4 =>
 some x4

def pF (a0:bB) (a1:bB):Option Bool :=
 bnd ((decide (a0.In.Buf=a1.In.Buf) && (decide (a0.In.Bad=a1.In.Bad) && (decide (a0.In.Seen=a1.In.Seen) && true)))) fun x1 =>
 bno (gd (x1 == true) (xF a0.Send a1.Send) default) fun x2 =>
 bnd (x1 && x2) fun x3 =>
 bno (gd (x3 == true) (xL a0.Recv a1.Recv) default) fun x4 =>
 bnd (x3 && x4) fun x5 =>
 some x5

def hY  : Option Bool :=
 bno (lY) fun x1 =>
 bno (hM x1 (⟨6,false,0,0,0,0,7,0,[],[]⟩:aH)) fun x2 =>
 bno (hM x2.1 (⟨9,false,0,0,0,0,0,0,[],[]⟩:aH)) fun x3 =>
 bno (jF x2.1 1 3) fun x4 =>
 bno (jF x4.1 2 9) fun x5 =>
 bno (lY) fun x6 =>
 bno (fF x6 3 x5.2.2.1) fun x7 =>
 bno (fF x7.1 0 x4.2.2.1) fun x8 =>
 bno (fF x8.1 4 [4,1,0,10,0,2,0,0]) fun x9 =>
 bno (lE x5.1 1) fun x10 =>
 bno (hT x10 4) fun x11 =>
 bnd (decide (x2.2=0)) fun x12 =>
 bnd (decide (x3.2=12)) fun x13 =>
 bnd (x12 && x13) fun x14 =>
 bnd (x14 && x4.2.2.2) fun x15 =>
 bnd (decide (x4.2.1.To=3)) fun x16 =>
 bnd (x15 && x16) fun x17 =>
 bnd (decide (x4.2.2.1=([6,0,1]:List UInt8))) fun x18 =>
 bnd (x17 && x18) fun x19 =>
 bnd (x19 && x5.2.2.2) fun x20 =>
 bnd (decide (x5.2.1.From=3)) fun x21 =>
 bnd (x20 && x21) fun x22 =>
 bnd (decide (x5.2.2.1=([7]:List UInt8))) fun x23 =>
 bnd (x22 && x23) fun x24 =>
 bnd (decide ((x7.2.1.length:Int)=0)) fun x25 =>
 bnd (x24 && x25) fun x26 =>
 bnd (decide (x7.2.2=0)) fun x27 =>
 bnd (x26 && x27) fun x28 =>
 bnd (decide ((x8.2.1.length:Int)=1)) fun x29 =>
 bnd (x28 && x29) fun x30 =>
 bno (gd (x30 == true) (gix x8.2.1 0) default) fun x31 =>
 bnd (decide (x31.N=7)) fun x32 =>
 bnd (x30 && x32) fun x33 =>
 bnd (decide (x8.2.2=0)) fun x34 =>
 bnd (x33 && x34) fun x35 =>
 bno (gd (x35 == true) (kI x8.1) default) fun x36 =>
 bnd (decide (x36=4)) fun x37 =>
 bnd (x35 && x37) fun x38 =>
 bnd (decide ((x9.2.1.length:Int)=1)) fun x39 =>
 bnd (x38 && x39) fun x40 =>
 bno (gd (x40 == true) (gix x9.2.1 0) default) fun x41 =>
 bnd (x40 && x41.Flag) fun x42 =>
 bnd (decide (x9.2.2=1)) fun x43 =>
 bnd (x42 && x43) fun x44 =>
 bno (gd (x44 == true) (hG x10) default) fun x45 =>
 bnd (x44 && x45) fun x46 =>
 bno (gd (x46 == true) (hG x5.1) default) fun x47 =>
 bnd (x46 && (!x47)) fun x48 =>
 bnd (decide (x11.Send.Base=4)) fun x49 =>
 bnd (x48 && x49) fun x50 =>
 bno (gd (x50 == true) (hG x11) default) fun x51 =>
 bnd (x50 && (!x51)) fun x52 =>
 bno (gd (x52 == true) (dD x11) default) fun x53 =>
 bnd (decide (x53=0)) fun x54 =>
 bnd (x52 && x54) fun x55 =>
 bno (gd (x55 == true) (dD ((⟨(⟨0,[],0,[],[],false,false,false,false⟩:aY),(⟨(⟨0,[],[]⟩:bM),0⟩:bX),(⟨[],0,0⟩:cE)⟩:bB))) default) fun x56 =>
 bnd (decide (x56=4)) fun x57 =>
 bnd (x55 && x57) fun x58 =>
 bno (gd (x58 == true) (pF x10 x11) default) fun x59 =>
 bnd (x58 && (!x59)) fun x60 =>
 bno (gd (x60 == true) (pF x11 x11) default) fun x61 =>
 bnd (x60 && x61) fun x62 =>
 bnd (bif x62 then true else false) fun x63 =>
 bnd (bif x63 then true else false) fun x64 =>
 bnd (bif x64 then true else false) fun x65 =>
 bnd (bif x65 then true else false) fun x66 =>
 bnd (bif x66 then true else false) fun x67 =>
 some x67

end Go.Fn
open Go Go.IL
namespace Go.Fn
structure fC where
 Kind:Int
 N:Int
 Path:Int
 F:aH
 deriving DecidableEq,Inhabited
def cM:Enc fC:=⟨⟨fun x=>.agg [.int .u8 x.Kind,.int .u8 x.N,.int .u8 x.Path,.int .u8 x.F.Kind,.bool x.F.Flag,.int .i64 x.F.Stream,.int .i64 x.F.Offset,.int .i64 x.F.Dep,.int .i64 x.F.Weight,.int .i64 x.F.N,.int .i64 x.F.Code,.slice false (x.F.Pairs.map bR.d),.str x.F.Data],13,by decide,fun _=>⟨rfl,rfl⟩⟩,fun _=>rfl⟩

structure cZ where
 at_:Int
 s:(List UInt8)
 deriving DecidableEq,Inhabited
def dY:Enc cZ:=⟨⟨fun x=>.agg [.int .i64 x.at_,.str x.s],2,by decide,fun _=>⟨rfl,rfl⟩⟩,fun _=>rfl⟩

def eT (v179:Int) (kk0:(List aH) → (List aH) → (List cZ) → Int → Int → Int → (List UInt8) → Int → (List aL) → (List aI) → Bool → Bool → Bool → Bool → Int → (List UInt8) → (List aU) → Int → (List UInt8) → Int → Int → Int → (List UInt8) → Int → (List aL) → (List aI) → Bool → Bool → Bool → Bool → Int → (List UInt8) → (List aU) → Int → (List UInt8) → Int → Int → Option Bool) (v432:(List aH)) (v433:(List aH)) (v434:(List cZ)) (v435:Int) (v436:Int) (v437:(List UInt8)) (v438:Int) (v439:(List aL)) (v440:(List aI)) (v441:Bool) (v442:Bool) (v443:Bool) (v444:Bool) (v445:Int) (v446:(List UInt8)) (v447:(List aU)) (v448:Int) (v449:(List UInt8)) (v450:Int) (v451:Int) (v452:Int) (v453:(List UInt8)) (v454:Int) (v455:(List aL)) (v456:(List aI)) (v457:Bool) (v458:Bool) (v459:Bool) (v460:Bool) (v461:Int) (v462:(List UInt8)) (v463:(List aU)) (v464:Int) (v465:(List UInt8)) (v466:Int) (v467:Int) (v486:Bool):Option Bool :=
 bif v486 then (
  some false
 ) else (
   bnd (IntKind.wrap .i64 (v179 + 1)) fun x488 =>
   kk0 v432 v433 v434 v435 x488 v436 v437 v438 v439 v440 v441 v442 v443 v444 v445 v446 v447 v448 v449 v450 v451 v452 v453 v454 v455 v456 v457 v458 v459 v460 v461 v462 v463 v464 v465 v466 v467
 )
def cS (v179:Int) (kk0:(List aH) → (List aH) → (List cZ) → Int → Int → Int → (List UInt8) → Int → (List aL) → (List aI) → Bool → Bool → Bool → Bool → Int → (List UInt8) → (List aU) → Int → (List UInt8) → Int → Int → Int → (List UInt8) → Int → (List aL) → (List aI) → Bool → Bool → Bool → Bool → Int → (List UInt8) → (List aU) → Int → (List UInt8) → Int → Int → Option Bool) (v432:(List aH)) (v433:(List aH)) (v434:(List cZ)) (v435:Int) (v436:Int) (v437:(List UInt8)) (v438:Int) (v439:(List aL)) (v440:(List aI)) (v441:Bool) (v442:Bool) (v443:Bool) (v444:Bool) (v445:Int) (v446:(List UInt8)) (v447:(List aU)) (v448:Int) (v449:(List UInt8)) (v450:Int) (v451:Int) (v452:Int) (v453:(List UInt8)) (v454:Int) (v455:(List aL)) (v456:(List aI)) (v457:Bool) (v458:Bool) (v459:Bool) (v460:Bool) (v461:Int) (v462:(List UInt8)) (v463:(List aU)) (v464:Int) (v465:(List UInt8)) (v466:Int) (v467:Int):Option Bool :=
 bnd (decide ((v432.length:Int) < (v433.length:Int))) fun x489 =>
 bno (gd (x489 == false) (cut v432 0 (v433.length:Int)) []) fun x490 =>
 bif (x489 == false) then (
  bno (gA v433 x490) fun x492 =>
  bnd (x489 || (!x492)) fun x493 =>
  bno (gd (x493 == false) (dD ((⟨(⟨v436,v437,v438,v439,v440,v441,v442,v443,v444⟩:aY),(⟨(⟨v445,v446,v447⟩:bM),v448⟩:bX),(⟨v449,v450,v451⟩:cE)⟩:bB))) default) fun x494 =>
  bnd (!decide (x494=0)) fun x495 =>
  bnd (x493 || x495) fun x496 =>
  bno (gd (x496 == false) (dD ((⟨(⟨v452,v453,v454,v455,v456,v457,v458,v459,v460⟩:aY),(⟨(⟨v461,v462,v463⟩:bM),v464⟩:bX),(⟨v465,v466,v467⟩:cE)⟩:bB))) default) fun x497 =>
  bnd (!decide (x497=0)) fun x498 =>
  bnd (x496 || x498) fun x499 =>
  eT v179 kk0 v432 v433 v434 v435 v436 v437 v438 v439 v440 v441 v442 v443 v444 v445 v446 v447 v448 v449 v450 v451 v452 v453 v454 v455 v456 v457 v458 v459 v460 v461 v462 v463 v464 v465 v466 v467 x499
 ) else (
   bnd (x489 || (!false)) fun x500 =>
   bno (gd (x500 == false) (dD ((⟨(⟨v436,v437,v438,v439,v440,v441,v442,v443,v444⟩:aY),(⟨(⟨v445,v446,v447⟩:bM),v448⟩:bX),(⟨v449,v450,v451⟩:cE)⟩:bB))) default) fun x501 =>
   bnd (!decide (x501=0)) fun x502 =>
   bnd (x500 || x502) fun x503 =>
   bno (gd (x503 == false) (dD ((⟨(⟨v452,v453,v454,v455,v456,v457,v458,v459,v460⟩:aY),(⟨(⟨v461,v462,v463⟩:bM),v464⟩:bX),(⟨v465,v466,v467⟩:cE)⟩:bB))) default) fun x504 =>
   bnd (!decide (x504=0)) fun x505 =>
   bnd (x503 || x505) fun x506 =>
   eT v179 kk0 v432 v433 v434 v435 v436 v437 v438 v439 v440 v441 v442 v443 v444 v445 v446 v447 v448 v449 v450 v451 v452 v453 v454 v455 v456 v457 v458 v459 v460 v461 v462 v463 v464 v465 v466 v467 x506
 )
def dP (v175:(List aH)) (v178:Int):Nat → (List aH) → Int → Int → (List UInt8) → Int → (List aL) → (List aI) → Bool → Bool → Bool → Bool → Int → (List UInt8) → (List aU) → Int → (List UInt8) → Int → Int → Int → (List UInt8) → Int → (List aL) → (List aI) → Bool → Bool → Bool → Bool → Int → (List UInt8) → (List aU) → Int → (List UInt8) → Int → Int → Option Bool
 | 0,_,_,_,_,_,_,_,_,_,_,_,_,_,_,_,_,_,_,_,_,_,_,_,_,_,_,_,_,_,_,_,_,_,_=>none
 | n4 + 1,v596,v597,v598,v599,v600,v601,v602,v603,v604,v605,v606,v607,v608,v609,v610,v611,v612,v613,v614,v615,v616,v617,v618,v619,v620,v621,v622,v623,v624,v625,v626,v627,v628,v629 =>
   bnd (decide (v597 < v178)) fun x643 =>
   bno (gd (x643 == true) (hG ((⟨(⟨v598,v599,v600,v601,v602,v603,v604,v605,v606⟩:aY),(⟨(⟨v607,v608,v609⟩:bM),v610⟩:bX),(⟨v611,v612,v613⟩:cE)⟩:bB))) default) fun x644 =>
   bnd (x643 && x644) fun x645 =>
   bif x645 then (
    bno (jF ((⟨(⟨v598,v599,v600,v601,v602,v603,v604,v605,v606⟩:aY),(⟨(⟨v607,v608,v609⟩:bM),v610⟩:bX),(⟨v611,v612,v613⟩:cE)⟩:bB)) 0 32) fun x647 =>
    bno (fF ((⟨(⟨v614,v615,v616,v617,v618,v619,v620,v621,v622⟩:aY),(⟨(⟨v623,v624,v625⟩:bM),v626⟩:bX),(⟨v627,v628,v629⟩:cE)⟩:bB)) x647.2.1.From x647.2.2.1) fun x648 =>
    bno (kI x648.1) fun x649 =>
    bno (hT x647.1 x649) fun x650 =>
    bno (gK x648.2.1) fun x651 =>
    bno (app 96 v596 x651) fun x652 =>
    bnd (!decide (x648.2.2=0)) fun x653 =>
    bif x653 then (
     some false
    ) else (
      bnd (IntKind.wrap .i64 (v597 + 1)) fun x655 =>
      (dP v175 v178 n4) x652 x655 x650.Send.Base x650.Send.Data x650.Send.Next x650.Send.Pieces x650.Send.Lost x650.Send.Closed x650.Send.Sent x650.Send.Again x650.Send.Done x650.Recv.Recv.Base x650.Recv.Recv.Ready x650.Recv.Recv.Parts x650.Recv.End x650.In.Buf x650.In.Bad x650.In.Seen x648.1.Send.Base x648.1.Send.Data x648.1.Send.Next x648.1.Send.Pieces x648.1.Send.Lost x648.1.Send.Closed x648.1.Send.Sent x648.1.Send.Again x648.1.Send.Done x648.1.Recv.Recv.Base x648.1.Recv.Recv.Ready x648.1.Recv.Recv.Parts x648.1.Recv.End x648.1.In.Buf x648.1.In.Bad x648.1.In.Seen
    )
   ) else (
     bno (gA v596 v175) fun x656 =>
     bnd (decide (v599=([]:List UInt8))) fun x657 =>
     bnd (x656 && x657) fun x658 =>
     bnd (decide (v627=([]:List UInt8))) fun x659 =>
     bnd (x658 && x659) fun x660 =>
     bno (gd (x660 == true) (hY) default) fun x661 =>
     bnd (x660 && x661) fun x662 =>
     some x662
   )
def dQ (v175:(List aH)) (v176:(List aH)) (v178:Int) (v196:Int) (v197:(List UInt8)) (v198:Int) (v199:(List aL)) (v200:(List aI)) (v201:Bool) (v202:Bool) (v203:Bool) (v204:Bool) (v205:Int) (v206:(List UInt8)) (v207:(List aU)) (v208:Int) (v209:(List UInt8)) (v210:Int) (v211:Int):Nat → Int → Int → (List UInt8) → Int → (List aL) → (List aI) → Bool → Bool → Bool → Bool → Int → (List UInt8) → (List aU) → Int → (List UInt8) → Int → Int → Option Bool
 | 0,_,_,_,_,_,_,_,_,_,_,_,_,_,_,_,_,_=>none
 | n3 + 1,v558,v559,v560,v561,v562,v563,v564,v565,v566,v567,v568,v569,v570,v571,v572,v573,v574 =>
   bnd (decide (v558 < 4)) fun x579 =>
   bif x579 then (
    bno (lE ((⟨(⟨v559,v560,v561,v562,v563,v564,v565,v566,v567⟩:aY),(⟨(⟨v568,v569,v570⟩:bM),v571⟩:bX),(⟨v572,v573,v574⟩:cE)⟩:bB)) v558) fun x581 =>
    bnd (IntKind.wrap .i64 (v558 + 1)) fun x582 =>
    (dQ v175 v176 v178 v196 v197 v198 v199 v200 v201 v202 v203 v204 v205 v206 v207 v208 v209 v210 v211 n3) x582 x581.Send.Base x581.Send.Data x581.Send.Next x581.Send.Pieces x581.Send.Lost x581.Send.Closed x581.Send.Sent x581.Send.Again x581.Send.Done x581.Recv.Recv.Base x581.Recv.Recv.Ready x581.Recv.Recv.Parts x581.Recv.End x581.In.Buf x581.In.Bad x581.In.Seen
   ) else (
     dP v175 v178 fuel v176 0 v559 v560 v561 v562 v563 v564 v565 v566 v567 v568 v569 v570 v571 v572 v573 v574 v196 v197 v198 v199 v200 v201 v202 v203 v204 v205 v206 v207 v208 v209 v210 v211
   )
def bK (a0 : (List fC)):Nat → (List aH) → (List aH) → (List cZ) → Int → Int → Int → (List UInt8) → Int → (List aL) → (List aI) → Bool → Bool → Bool → Bool → Int → (List UInt8) → (List aU) → Int → (List UInt8) → Int → Int → Int → (List UInt8) → Int → (List aL) → (List aI) → Bool → Bool → Bool → Bool → Int → (List UInt8) → (List aU) → Int → (List UInt8) → Int → Int → Option Bool
 | 0,_,_,_,_,_,_,_,_,_,_,_,_,_,_,_,_,_,_,_,_,_,_,_,_,_,_,_,_,_,_,_,_,_,_,_,_,_=>none
 | n0 + 1, v175,v176,v177,v178,v179,v180,v181,v182,v183,v184,v185,v186,v187,v188,v189,v190,v191,v192,v193,v194,v195,v196,v197,v198,v199,v200,v201,v202,v203,v204,v205,v206,v207,v208,v209,v210,v211 =>
   bnd (decide (v179 < (a0.length:Int))) fun x383 =>
   bif x383 then (
    bno (gix a0 v179) fun x507 =>
    bno (remI x507.Kind 5) fun x508 =>
    bnd (decide (x508=0)) fun x509 =>
    bif x509 then (
     bno (gix a0 v179) fun x511 =>
     bno (lG x511.F) fun x512 =>
     bif (!x512) then (
      bno (hY) fun x514 =>
      some x514
     ) else (
       bno (gix a0 v179) fun x515 =>
       bno (hM ((⟨(⟨v180,v181,v182,v183,v184,v185,v186,v187,v188⟩:aY),(⟨(⟨v189,v190,v191⟩:bM),v192⟩:bX),(⟨v193,v194,v195⟩:cE)⟩:bB)) x515.F) fun x516 =>
       bnd (decide (x516.2=0)) fun x517 =>
       bif x517 then (
        bno (gix a0 v179) fun x519 =>
        bno (app 96 v175 ([x519.F]:(List aH))) fun x520 =>
        bnd (IntKind.wrap .i64 (v178 + 70)) fun x521 =>
        cS v179 (bK a0 n0) x520 v176 v177 x521 x516.1.Send.Base x516.1.Send.Data x516.1.Send.Next x516.1.Send.Pieces x516.1.Send.Lost x516.1.Send.Closed x516.1.Send.Sent x516.1.Send.Again x516.1.Send.Done x516.1.Recv.Recv.Base x516.1.Recv.Recv.Ready x516.1.Recv.Recv.Parts x516.1.Recv.End x516.1.In.Buf x516.1.In.Bad x516.1.In.Seen v196 v197 v198 v199 v200 v201 v202 v203 v204 v205 v206 v207 v208 v209 v210 v211
       ) else (
         cS v179 (bK a0 n0) v175 v176 v177 v178 x516.1.Send.Base x516.1.Send.Data x516.1.Send.Next x516.1.Send.Pieces x516.1.Send.Lost x516.1.Send.Closed x516.1.Send.Sent x516.1.Send.Again x516.1.Send.Done x516.1.Recv.Recv.Base x516.1.Recv.Recv.Ready x516.1.Recv.Recv.Parts x516.1.Recv.End x516.1.In.Buf x516.1.In.Bad x516.1.In.Seen v196 v197 v198 v199 v200 v201 v202 v203 v204 v205 v206 v207 v208 v209 v210 v211
       )
     )
    ) else (
      bnd (decide (x508=1)) fun x522 =>
      bif x522 then (
       bno (gix a0 v179) fun x524 =>
       bno (remI x524.Path 4) fun x525 =>
       bnd (IntKind.wrap .i64 x525) fun x526 =>
       bno (gix a0 v179) fun x527 =>
       bnd (IntKind.wrap .i64 x527.N) fun x528 =>
       bno (jF ((⟨(⟨v180,v181,v182,v183,v184,v185,v186,v187,v188⟩:aY),(⟨(⟨v189,v190,v191⟩:bM),v192⟩:bX),(⟨v193,v194,v195⟩:cE)⟩:bB)) x526 x528) fun x529 =>
       bif x529.2.2.2 then (
        bno (app 24 v177 (([(⟨x529.2.1.From,x529.2.2.1⟩:cZ)]:(List cZ)))) fun x531 =>
        cS v179 (bK a0 n0) v175 v176 x531 v178 x529.1.Send.Base x529.1.Send.Data x529.1.Send.Next x529.1.Send.Pieces x529.1.Send.Lost x529.1.Send.Closed x529.1.Send.Sent x529.1.Send.Again x529.1.Send.Done x529.1.Recv.Recv.Base x529.1.Recv.Recv.Ready x529.1.Recv.Recv.Parts x529.1.Recv.End x529.1.In.Buf x529.1.In.Bad x529.1.In.Seen v196 v197 v198 v199 v200 v201 v202 v203 v204 v205 v206 v207 v208 v209 v210 v211
       ) else (
         cS v179 (bK a0 n0) v175 v176 v177 v178 x529.1.Send.Base x529.1.Send.Data x529.1.Send.Next x529.1.Send.Pieces x529.1.Send.Lost x529.1.Send.Closed x529.1.Send.Sent x529.1.Send.Again x529.1.Send.Done x529.1.Recv.Recv.Base x529.1.Recv.Recv.Ready x529.1.Recv.Recv.Parts x529.1.Recv.End x529.1.In.Buf x529.1.In.Bad x529.1.In.Seen v196 v197 v198 v199 v200 v201 v202 v203 v204 v205 v206 v207 v208 v209 v210 v211
       )
      ) else (
        bnd (decide (x508=2)) fun x532 =>
        bif x532 then (
         bnd (decide (0 < (v177.length:Int))) fun x534 =>
         bif x534 then (
          bno (gix a0 v179) fun x536 =>
          bnd (IntKind.wrap .i64 x536.N) fun x537 =>
          bno (remI x537 (v177.length:Int)) fun x538 =>
          bno (gix v177 x538) fun x539 =>
          bno (v177[(x538:Int).toNat]?) fun x540 =>
          bno (fF ((⟨(⟨v196,v197,v198,v199,v200,v201,v202,v203,v204⟩:aY),(⟨(⟨v205,v206,v207⟩:bM),v208⟩:bX),(⟨v209,v210,v211⟩:cE)⟩:bB)) x540.at_ x540.s) fun x541 =>
          bno (gK x541.2.1) fun x542 =>
          bno (app 96 v176 x542) fun x543 =>
          bnd (!decide (x541.2.2=0)) fun x544 =>
          bif x544 then (
           some false
          ) else (
            cS v179 (bK a0 n0) v175 x543 v177 v178 v180 v181 v182 v183 v184 v185 v186 v187 v188 v189 v190 v191 v192 v193 v194 v195 x541.1.Send.Base x541.1.Send.Data x541.1.Send.Next x541.1.Send.Pieces x541.1.Send.Lost x541.1.Send.Closed x541.1.Send.Sent x541.1.Send.Again x541.1.Send.Done x541.1.Recv.Recv.Base x541.1.Recv.Recv.Ready x541.1.Recv.Recv.Parts x541.1.Recv.End x541.1.In.Buf x541.1.In.Bad x541.1.In.Seen
          )
         ) else (
           cS v179 (bK a0 n0) v175 v176 v177 v178 v180 v181 v182 v183 v184 v185 v186 v187 v188 v189 v190 v191 v192 v193 v194 v195 v196 v197 v198 v199 v200 v201 v202 v203 v204 v205 v206 v207 v208 v209 v210 v211
         )
        ) else (
          bnd (decide (x508=3)) fun x546 =>
          bif x546 then (
           bno (kI ((⟨(⟨v196,v197,v198,v199,v200,v201,v202,v203,v204⟩:aY),(⟨(⟨v205,v206,v207⟩:bM),v208⟩:bX),(⟨v209,v210,v211⟩:cE)⟩:bB))) fun x548 =>
           bno (hT ((⟨(⟨v180,v181,v182,v183,v184,v185,v186,v187,v188⟩:aY),(⟨(⟨v189,v190,v191⟩:bM),v192⟩:bX),(⟨v193,v194,v195⟩:cE)⟩:bB)) x548) fun x549 =>
           cS v179 (bK a0 n0) v175 v176 v177 v178 x549.Send.Base x549.Send.Data x549.Send.Next x549.Send.Pieces x549.Send.Lost x549.Send.Closed x549.Send.Sent x549.Send.Again x549.Send.Done x549.Recv.Recv.Base x549.Recv.Recv.Ready x549.Recv.Recv.Parts x549.Recv.End x549.In.Buf x549.In.Bad x549.In.Seen v196 v197 v198 v199 v200 v201 v202 v203 v204 v205 v206 v207 v208 v209 v210 v211
          ) else (
            bno (gix a0 v179) fun x550 =>
            bno (remI x550.Path 4) fun x551 =>
            bnd (IntKind.wrap .i64 x551) fun x552 =>
            bno (lE ((⟨(⟨v180,v181,v182,v183,v184,v185,v186,v187,v188⟩:aY),(⟨(⟨v189,v190,v191⟩:bM),v192⟩:bX),(⟨v193,v194,v195⟩:cE)⟩:bB)) x552) fun x553 =>
            cS v179 (bK a0 n0) v175 v176 v177 v178 x553.Send.Base x553.Send.Data x553.Send.Next x553.Send.Pieces x553.Send.Lost x553.Send.Closed x553.Send.Sent x553.Send.Again x553.Send.Done x553.Recv.Recv.Base x553.Recv.Recv.Ready x553.Recv.Recv.Parts x553.Recv.End x553.In.Buf x553.In.Bad x553.In.Seen v196 v197 v198 v199 v200 v201 v202 v203 v204 v205 v206 v207 v208 v209 v210 v211
          )
        )
      )
    )
   ) else (
     dQ v175 v176 v178 v196 v197 v198 v199 v200 v201 v202 v203 v204 v205 v206 v207 v208 v209 v210 v211 fuel 0 v180 v181 v182 v183 v184 v185 v186 v187 v188 v189 v190 v191 v192 v193 v194 v195
   )
def fL (a0:(List fC)):Option Bool :=
 bnd (decide (80 < (a0.length:Int))) fun x1 =>
 bif x1 then (
  bno (hY) fun x3 =>
  some x3
 ) else (
   bno (lY) fun x4 =>
   bno (lY) fun x5 =>
   bK a0 fuel ([]:(List aH)) ([]:(List aH)) ([]:(List cZ)) 4 0 x4.Send.Base x4.Send.Data x4.Send.Next x4.Send.Pieces x4.Send.Lost x4.Send.Closed x4.Send.Sent x4.Send.Again x4.Send.Done x4.Recv.Recv.Base x4.Recv.Recv.Ready x4.Recv.Recv.Parts x4.Recv.End x4.In.Buf x4.In.Bad x4.In.Seen x5.Send.Base x5.Send.Data x5.Send.Next x5.Send.Pieces x5.Send.Lost x5.Send.Closed x5.Send.Sent x5.Send.Again x5.Send.Done x5.Recv.Recv.Base x5.Recv.Recv.Ready x5.Recv.Recv.Parts x5.Recv.End x5.In.Buf x5.In.Bad x5.In.Seen
 )
end Go.Fn
