/-
  A part of the proof: rules and plain facts. No condition.
-/
import Derived.Test.YtnokcmkfkfeaiaaGreatIlEq
set_option linter.all false
open Go.RowKit (Below)
namespace Go.IL
def cpy {α : Type} (xs ys : List α) : List α:=ys.take xs.length ++ xs.drop ys.length
theorem cpy_len {α : Type} (xs ys : List α) : (cpy xs ys).length = xs.length:=by simp [cpy]; omega
theorem aBt {α : Type} {xs ys zs : List α} {n : Nat} (h : cpy xs ys = zs) (hl : xs.length = n) : zs.length = n:=by rw [← h,cpy_len,hl]
section
variable {P : Program} {O : cM} {N : Nat} {S S' : St} {o : Oper} {t : Nat} {Q : Exit → St → Prop}
theorem aBl {α : Type} (f : Enc0 α) (xs ys : List α) : eT (D.flat (xs.map f.d)) 0 ((D.flat (ys.map f.d)).take (min ys.length xs.length * f.sz)) = D.flat ((cpy xs ys).map f.d):=by
  have e1 : (D.flat (ys.map f.d)).take (min ys.length xs.length * f.sz) = D.flat ((ys.take xs.length).map f.d):=by
    have h:=oR f ys (min ys.length xs.length)
    have hl : (D.flat ((ys.take (min ys.length xs.length)).map f.d)).length = min ys.length xs.length * f.sz:=by
      rw [f.flat_len,List.length_take]; congr 1; omega
    rw [h,← hl,List.take_append_of_le_length (Nat.le_refl _),List.take_length]
    congr 2
    rcases Nat.le_total ys.length xs.length with h | h
    · rw [Nat.min_eq_left h,List.take_length,List.take_of_length_le h]
    · rw [Nat.min_eq_right h]
  rw [e1]
  unfold eT cpy
  have e2 : (D.flat ((ys.take xs.length).map f.d)).length = min ys.length xs.length * f.sz:=by rw [f.flat_len,List.length_take]; congr 1; omega
  have e3 : (D.flat (xs.map f.d)).drop (min ys.length xs.length * f.sz) = D.flat ((xs.drop ys.length).map f.d):=by
    have h:=oR f xs (min ys.length xs.length)
    have hl : (D.flat ((xs.take (min ys.length xs.length)).map f.d)).length = min ys.length xs.length * f.sz:=by
      rw [f.flat_len,List.length_take]; congr 1; omega
    rw [h,← hl,List.drop_append_of_le_length (Nat.le_refl _),List.drop_length,List.nil_append]
    congr 2
    rcases Nat.le_total ys.length xs.length with h | h
    · rw [Nat.min_eq_left h]
    · rw [Nat.min_eq_right h,List.drop_length,List.drop_of_length_le h]
  rw [e2,Nat.zero_add,e3,List.take_zero,List.nil_append,f.flat_append]
theorem aAh {α : Type} (f : Enc0 α) {T T2 e : TypeId} {x y : Operand} {id n : Nat} {e' : TypeId} {xs ys zs : List α} {z : Option Value} {bytes : Nat} (ho : o.op = .call { callee := .builtin .copy, args := #[x, y], argTypes := #[T, T2] }) (hd : o.dst = some t) (ht : t < N)
    (hu : P.underlying T = some (.slice e)) (hi : TI P e z f.sz bytes) (hx : S.op x = .osl id f.sz n) (hl : xs.length = n) (he : S.ent id = .blk e' (D.flat (xs.map f.d)))
    (hy : ∀ E β a,Rel O N S E β a → Src E β (a.eval y) ys.length (D.flat (ys.map f.d))) (hz : cpy xs ys = zs) : IOp P O N o S ((S.setE id (.blk e' (D.flat (zs.map f.d)))).set t (.int .i64 ((min ys.length n : Nat) : Int))):=by
  intro E β a hr next Q hn
  subst hz
  have h1 : Rd E β (a.eval x) (.osl id f.sz n):=hx ▸ hr.op x
  have hone : ((D.flat (ys.map f.d)).take (min ys.length n * f.sz)).all D.one = true:=qM (f.one ys) _
  generalize hv : a.eval x = v at h1
  cases h1 with
  | nosl =>
    have hx0 : xs = []:=List.length_eq_zero_iff.1 hl
    subst hx0
    have e0 : cpy ([] : List α) ys = []:=by simp [cpy]
    rw [e0] at hn
    have hsame : Rel O N (S.setE id (.blk e' (D.flat (([] : List α).map f.d)))) E β a:=hr.same (fun _=>rfl) (fun j=>by
      by_cases hj : j = id
      · subst hj; rw [sB,he]
      · rw [pM hj])
    have hrun0 : ∀ r,(Builtin.copy_ #[T,T2] o.type #[a.eval x,a.eval y]).run P E.w = r → (execOp a.eval o).run P E.w = r.andThen fun v w'=>.ok (.value v) w':=fun r hr'=>by
      simp [execOp,ho,resolve,invoke,builtin,hr']
    have hra : (Builtin.copy_ #[T,T2] o.type #[a.eval x,a.eval y]).run P E.w = .ok (goInt 0) E.w:=by
      have hl0 : ∀ q : Addr,(loadCells q 0).run P E.w = .ok #[] E.w:=fun q=>by simpa using run_loadCells_list (P:=P) E.w q [] (by simp)
      have hmn : ∀ k,Nat.min k 0 = 0:=fun k=>Nat.min_zero k
      rcases hy E β a hr with ⟨hyv | ⟨ad,sc,hyv⟩,_,_⟩ | ⟨yb,yoff,ycap,us,hyv,_,_⟩ <;>
      · rw [hv, hyv]
        simp [Builtin.copy_,run_underlying hu,Builtin.lenOf,Builtin.firstCells,hi.run_size,hmn,storeCells,hl0]
    unfold Oper.wp
    rw [hrun0 _ hra]
    simp only [Result.andThen_ok,Oper.upon,hd]
    exact hn E β _ (hsame.set ht (by rw [Nat.min_zero]; unfold goInt; exact .int _ _ _))
  | osl _ _ b _ cap _ hb hc hsz c e2 f2 hcap hcs hcm =>
    subst hl
    exact wZ ho hd ht hu hi he hy (f.flat_len ys) hone (by rw [f.flat_len]; omega) rfl (aBl f xs ys) E β a hr (by
      rw [hv]; exact .rsl _ _ _ 0 _ cap b 0 hb hc hsz ⟨fun _=>rfl,Nat.le_refl _⟩ c e2 f2 hcap (by omega) hcm) next Q hn
theorem aAH {E : Env} {β : cB} {v : Value} {l : List D} (h : Rd E β v (.slice true l)) :
    (v = .slice none 0 0 ∧ l = []) ∨ (∃ b off sz vs,v = .slice (some ⟨b,off,none⟩) l.length l.length ∧ (∀ d ∈ l,d.cells.length = sz) ∧ 0 < sz ∧ E.row b off vs ∧ RdL E β0 vs (D.flat l)) ∨ ∃ ad,v = .slice (some ad) 0 0 ∧ l = []:=by
  cases h with
  | slice _ b off len cap sz _ vs _ hl hc hf hz hsz hr hv=>subst hl; rw [hf rfl]; exact .inr (.inl ⟨b,off,sz,vs,rfl,hz,hsz,hr,hv⟩)
  | nslice=>exact .inl ⟨rfl,rfl⟩
  | eslice _ ad cap _ hf=>rw [hf rfl]; exact .inr (.inr ⟨ad,rfl,rfl⟩)
theorem pD {E : Env} {β : cB} {a : Act} (hr : Rel O N S E β a) {len cap : Nat} {y m : Operand} {k1 k2 : IntKind} {h : Int} (hy : SV S y (.int k1 h)) (hm : SV S m (.int k2 h)) (h0 : 0 ≤ h) (h1 : h ≤ cap) :
    (Instr.sliceBounds true len cap none (some (a.eval y)) (some (a.eval m))).run P E.w = .ok (0,h.toNat,h.toNat) E.w:=by
  have e1 : (h.toNat : Int) = h:=by omega
  simp [Instr.sliceBounds,Instr.sliceBound,fM (hy.rd hr),fM (hm.rd hr),asIntOf,h0,h1,e1]
theorem zP {T e : TypeId} {x y m : Operand} {s r : List D} {f : Bool} {h : Int} {k1 k2 : IntKind} {z : Option Value} {size bytes : Nat} (ho : o.op = .slice T x none (some y) (some m)) (hd : o.dst = some t) (ht : t < N) (hu : P.underlying T = some (.slice e)) (hi' : TI P e z size bytes)
    (hx : SV S x (.slice f s)) (hz : ∀ d ∈ s,d.cells.length = size) (hy : SV S y (.int k1 h)) (hm : SV S m (.int k2 h)) (h0 : 0 ≤ h) (h2 : h ≤ s.length) (hr' : s.take h.toNat = r) : IOp P O N o S (S.set t (.slice true r)) :=
  eU hd ht fun E β a hr => by
    subst hr'
    rcases lZ (hx.rd hr) with ⟨hev,rfl⟩ | ⟨b,off,cap,sz,vs,hev,hc,_,hzz,hsp,hrow,hvs⟩ | ⟨ad,cap,hev,rfl⟩
    · have e1 : h = 0 := by simp at h2; omega
      subst e1
      have hb:=pD (P:=P) hr (len:=0) (cap:=0) hy hm (Int.le_refl 0) (Int.le_refl 0)
      refine ⟨.slice none 0 0,?_,by simpa using Rd.nslice β true⟩
      simp [execOp,ho,hev,Instr.sliceAt,Instr.slice,run_underlying hu,hb,hi'.run_size]
    · have hb := pD (P := P) hr (len := s.length) (cap := cap) hy hm h0 (by omega)
      have hlen : (s.take h.toNat).length = h.toNat:=by rw [List.length_take]; omega
      by_cases hs0 : h.toNat = 0
      · have hs : s.take h.toNat = [] := by rw [hs0]; rfl
        refine ⟨.slice (some ⟨b,off,none⟩) 0 0,?_,by rw [hs]; exact .eslice _ _ 0 true (fun _=>rfl)⟩
        rw [hs0] at hb
        simp [execOp,ho,hev,Instr.sliceAt,Instr.slice,run_underlying hu,hb,hi'.run_size,fQ]
      · have hflat := hvs.take (h.toNat * size)
        have hsplit : D.flat s = D.flat (s.take h.toNat) ++ D.flat (s.drop h.toNat):=by
          have : D.flat (s.take h.toNat) ++ D.flat (s.drop h.toNat) = D.flat (s.take h.toNat ++ s.drop h.toNat):=by simp only [D.flat]; rw [← List.flatMap_append]
          rw [this,List.take_append_drop]
        have hfl : (D.flat (s.take h.toNat)).length = h.toNat * size:=by
          have : ∀ l : List D,(∀ d ∈ l,d.cells.length = size) → (D.flat l).length = l.length * size:=by
            intro l
            induction l with
            | nil=>intro _; simp [D.flat]
            | cons d l ih=>intro hh; have h1:=ih (fun d' hd'=>hh d' (by simp [hd'])); have h2:=hh d (by simp); simp only [D.flat,List.flatMap_cons,List.length_append,List.length_cons] at *; rw [h1,h2,Nat.add_mul]; omega
          rw [this _ (fun d hd=>hz d (List.mem_of_mem_take hd)),hlen]
        rw [hsplit,← hfl,List.take_append_of_le_length (Nat.le_refl _),List.take_length] at hflat
        refine ⟨.slice (some ⟨b,off,none⟩) h.toNat h.toNat,?_,.slice _ b off _ _ size true (vs.take (D.flat (s.take h.toNat)).length) _ hlen (Nat.le_refl _) (fun _=>rfl) (fun d hd=>hz d (List.mem_of_mem_take hd)) ?_ (fun k v hk=>?_) hflat⟩
        · simp [execOp,ho,hev,Instr.sliceAt,Instr.slice,run_underlying hu,hb,hi'.run_size,fQ]
        · have : s ≠ [] := by rintro rfl; simp at h2; omega
          obtain ⟨d,hd⟩:=List.exists_mem_of_ne_nil s this
          have h1:=hz d hd
          have h3:=hzz d hd
          omega
        · rw [List.getElem?_take] at hk
          split at hk
          · exact hrow k v hk
          · cases hk
    · have e1 : h = 0 := by simp at h2; omega
      subst e1
      have hb:=pD (P:=P) hr (len:=0) (cap:=cap) hy hm (Int.le_refl 0) (by omega)
      refine ⟨.slice (some ad) 0 0,?_,by simpa using Rd.eslice β ad 0 true (fun _=>rfl)⟩
      simp [execOp,ho,hev,Instr.sliceAt,Instr.slice,run_underlying hu,hb,hi'.run_size,Addr.add]
theorem wU {T e : TypeId} {x y : Operand} {z : Value} {size bytes m : Nat} {l es : List D} (id' : Nat)
    (ho : o.op = .call { callee:=.builtin .append,args:=#[x,y],argTypes:=#[T,T] }) (hd : o.dst = some t) (ht : t < N)
    (hu : P.underlying T = some (.slice e)) (hi : TI P e (some z) size bytes) (hz : z.cells.size = size) (hsp : 0 < size) (hfr : S.ent id' = .fresh)
    (hx : SV S x (.slice true l)) (hl : (D.flat l).length = l.length * size) (hy : ∀ E β a,Rel O N S E β a → Src E β (a.eval y) m es) (hes : es.length = m * size) (hne : 0 < m)
    (hm : l.length + m ≤ maxLen) (hb : (l.length + m) * bytes ≤ 140737488355328) :
    IOp P O N o S ((S.setE id' (.blk e (D.flat l ++ es))).set t (.osl id' size (l.length + m))):=by
  have hs1 : S.sl = S.sl:=rfl
  have hs2 : ∀ j,S.ent j = S.ent j ∨ S.ent j = .none:=fun _=>.inl rfl
  intro E β a hr next Q hn
  obtain ⟨i,hi1,hi2,hi3,hi4⟩:=hi.at
  have hfre : β id' = none:=by have:=hr.h.ent id'; rw [hfr] at this; exact this
  have hrun : ∀ v,(Builtin.append_ #[T,T] o.type #[a.eval x,a.eval y]).run P E.w = v → (execOp a.eval o).run P E.w = v.andThen fun v w'=>.ok (.value v) w':=fun v hv=>by
    simp [execOp,ho,resolve,invoke,builtin,hv]
  have hts : t < a.tmps.size:=hr.n ▸ ht
  let S2 : St:=(S.setE id' (.blk e (D.flat l ++ es))).set t (.osl id' size (l.length + m))
  have slots : ∀ (E' : Env) (β' : cB) (v : Value),E.le E' → β.le β' → Rd E' β' v (.osl id' size (l.length + m)) → ∀ s,Rd E' β' ((a.put (some t) v).tmps.getD s undef) (S2.get s):=by
    intro E' β' v hle hβ hv s
    by_cases hst : t = s
    · subst hst
      simpa [S2,Act.put,St.get,St.set,bB,hts] using hv
    · have := Rd.mono hle hβ (hr.sl s)
      simpa [S2,Act.put,St.get,St.set,St.setE,bB,hst,Array.getElem?_setIfInBounds_ne,hs1] using this
  let β' : Nat → cB:=fun b j=>if j = id' then some b else β j
  have hβ : ∀ b,β.le (β' b):=fun b j k hj=>by
    by_cases hji : j = id'
    · subst hji; rw [hfre] at hj; cases hj
    · simp [β',hji,hj]
  have hsame : ∀ j,j ≠ id' → S2.ent j = S.ent j:=fun j hj=>by simp [S2,St.ent,entL,St.setE,St.set,bB,Ne.symm hj]
  have hother : ∀ b j,j ≠ id' → (S2.ent j = S.ent j ∧ β' b j = β j) ∨ S2.ent j = .none:=by
    intro b j hj
    rw [hsame j hj]
    rcases hs2 j with h | h
    · exact .inl ⟨h,by simp [β',hj]⟩
    · exact .inr h
  have hheld : ∀ j,j ≠ id' → (S2.ent j).held = true → (S.ent j).held = true:=fun j hj h=>by rw [← hsame j hj]; exact h
  have hheld0 : ∀ j,(S.ent j).held = true → (S.ent j).held = true:=fun j h=>by
    rcases hs2 j with h1 | h1
    · rw [← h1]; exact h
    · rw [h1] at h; cases h
  have hentid : S2.ent id' = .blk e (D.flat l ++ es):=by simp [S2,St.ent,entL,St.setE,St.set,bB]
  have fresh : ∀ (vs us : List Value) (cap : Nat),RdL E β vs (D.flat l) → RdL E β us es → l.length + m ≤ cap → cap ≤ maxLen →
      (Builtin.append_ #[T,T] o.type #[a.eval x,a.eval y]).run P E.w = .ok (.slice (some ⟨E.w.heap.size,0,none⟩) (l.length + m) cap) (E.w.drew.alloc (.cells (vs.toArray ++ us.toArray ++ Builtin.zeroCells z.cells (cap - (l.length + m))) e)) →
      o.wp P a E.w next Q:=by
    intro vs us cap hvs hus hcap hcm hra
    unfold Oper.wp
    rw [hrun _ hra]
    simp only [Result.andThen_ok,Oper.upon,hd]
    let E' : Env:=⟨E.w.drew.alloc (.cells (vs.toArray ++ us.toArray ++ Builtin.zeroCells z.cells (cap - (l.length + m))) e),fun b o=>b = E.w.heap.size ∨ E.X b o⟩
    have hs : Step O E E' E.w.heap.size :=
      ⟨rfl,rfl,rfl,by simp [E'],by simp [E'],.inl hr.h.size,fun k hk _=>heap_alloc_old E.w.drew _ hk,fun k o hk=>by simp [E',hk],fun _ h=>Nat.lt_irrefl _ (dN h)⟩
    have hle : E.le E':=hs.le (fun o v h1 _=>by have:=World.block_lt_of_cell? _ _ h1; simp at this) (fun c e f h1=>by have:=dN h1; simp at this)
    have hnew : E'.w.heap[E.w.heap.size]? = some (.cells (vs.toArray ++ us.toArray ++ Builtin.zeroCells z.cells (cap - (l.length + m))) e (0,0)):=heap_alloc_new E.w.drew _
    have hvl:=hvs.length
    have hul:=hus.length
    have hvs':=(RdL.mono hle (hβ E.w.heap.size) hvs).append (RdL.mono hle (hβ E.w.heap.size) hus)
    refine hn E' (β' E.w.heap.size) _ ⟨by simp [Act.put,hr.n],hr.nd.step hs,?_,slots E' _ _ hle (hβ _) ?_⟩
    · refine HOk.put hr.h hs hle (hβ _) (fun j hj => hother _ j hj) ?_ (id := id') (by simp [β']) ?_ (fun _ _ => trivial)
      · intro j hj hh hbj
        have:=hr.h.held_lt (hheld0 j (hheld j hj hh)) hbj
        omega
      · rw [hentid]
        exact ⟨vs ++ us,(Builtin.zeroCells z.cells (cap - (l.length + m))).toList,by rw [hnew]; simp,fun o=>.inl rfl,hvs'⟩
    · exact .osl _ _ E.w.heap.size _ cap size (by simp [β']) hcap hsp _ _ _ hnew
        (by simp only [Array.size_append,List.size_toArray,size_zeroCells,hz,hvl,hul,hl,hes]; rw [← Nat.add_mul,← Nat.add_mul]; exact Nat.mul_le_mul_right _ (by omega)) hcm
  rcases hy E β a hr with ⟨_,hm0,_⟩ | ⟨yb,yoff,ycap,us,hyv,hyr,hus⟩
  · omega
  · have hul : us.length = m * i.size := by rw [hus.length, hes, hi3]
    have up : ∀ {vs ds},RdL E β0 vs ds → RdL E β vs ds:=fun h=>RdL.mono (Env.le.refl _) (fun _ _ h=>by cases h) h
    rcases aAH (hx.rd hr) with ⟨hxv,rfl⟩ | ⟨b,off,sz,vs,hxv,_,_,hrow,hvs⟩ | ⟨ad,hxv,rfl⟩
    · simp only [List.length_nil, Nat.zero_add] at hm hb fresh ⊢
      have hra:=run_append_nil (P:=P) E.w T o.type e i z hu hi1 hi2 ⟨yb,yoff,none⟩ m ycap us hul hyr hne (by simp [maxLen] at hm; omega) (by rw [hi4]; omega)
      refine fresh [] us (grownCap E.w m 0 e) (.nil _) hus (by simpa using grownCap_ge _ _ _ _) (grownCap_le_maxLen _ _ _ _ (by simpa using hm)) ?_
      rw [hxv,hyv]
      simpa using hra
    · have hvl : vs.length = l.length * i.size := by rw [hvs.length, hl, hi3]
      have hra:=run_append_grow (P:=P) E.w T o.type e i z hu hi1 hi2 ⟨b,off,none⟩ l.length l.length vs hvl (fun j u hj=>by rw [fQ]; exact (hrow j u hj).1) ⟨yb,yoff,none⟩ m ycap us hul hyr (by omega) (by simp [maxLen] at hm; omega) (growslice_fits (by omega) (by rw [hi4]; exact hb))
      refine fresh vs us (grownCap E.w (l.length + m) l.length e) (up hvs) hus (grownCap_ge _ _ _ _) (grownCap_le_maxLen _ _ _ _ hm) ?_
      rw [hxv,hyv]
      exact hra
    · have hra := run_append_grow (P := P) E.w T o.type e i z hu hi1 hi2 ad 0 0 [] (by simp) (fun j u hj => by simp at hj) ⟨yb, yoff, none⟩ m ycap us hul hyr (by omega) (by simp [maxLen] at hm; omega) (growslice_fits (by omega) (by rw [hi4]; simpa using hb))
      refine fresh [] us (grownCap E.w (0 + m) 0 e) (.nil _) hus (by simpa using grownCap_ge _ _ _ _) (grownCap_le_maxLen _ _ _ _ (by simpa using hm)) ?_
      rw [hxv,hyv]
      simpa using hra
theorem aAg {α : Type} (f : Enc α) {T e : TypeId} {x y m : Operand} {b : Bool} {k1 k2 : IntKind} {xs r : List α} {h : Int} {z : Option Value} {bytes : Nat} (ho : o.op = .slice T x none (some y) (some m)) (hd : o.dst = some t) (ht : t < N) (hu : P.underlying T = some (.slice e)) (hi' : TI P e z f.sz bytes)
    (hx : SV S x (.slice b (xs.map f.d))) (hy : SV S y (.int k1 h)) (hm : SV S m (.int k2 h)) (hc : cut xs 0 h = some r) : IOp P O N o S (S.set t (.slice true (r.map f.d))):=by
  obtain ⟨⟨_,h0,h1⟩,hr⟩:=zW hc
  exact zP ho hd ht hu hi' hx (f.len xs) hy hm h0 (by simpa using h1) (by rw [← hr,← List.map_take]; simp)
theorem aBg {α : Type} (f : Enc0 α) {T e : TypeId} {x y : Operand} {z : Value} {bytes : Nat} {xs ys zs : List α} (id' : Nat)
    (ho : o.op = .call { callee:=.builtin .append,args:=#[x,y],argTypes:=#[T,T] }) (hd : o.dst = some t) (ht : t < N)
    (hu : P.underlying T = some (.slice e)) (hi : TI P e (some z) f.sz bytes) (hz : z.cells.size = f.sz)
    (hx : SV S x (.slice true (xs.map f.d))) (hfr : S.ent id' = .fresh)
    (hy : ∀ E β a,Rel O N S E β a → Src E β (a.eval y) ys.length (D.flat (ys.map f.d))) (hne : 0 < ys.length) (ha : app bytes xs ys = some zs) :
    IOp P O N o S ((S.setE id' (.blk e (D.flat (zs.map f.d)))).set t (.osl id' f.sz zs.length)):=by
  obtain ⟨⟨h1,h2⟩,rfl⟩:=aBy ha
  have:=wU id' ho hd ht hu hi hz f.pos hfr hx (by rw [f.flat_len,List.length_map]) hy (f.flat_len ys) hne (by rw [List.length_map]; exact h1) (by rw [List.length_map]; exact h2)
  rwa [List.length_map,f.flat_append,← List.length_append] at this
theorem kK {ops : Array Oper} {o : Oper} {l : List Oper} {j tj t : Nat} {want g : Bool} (hg : o.guard = some (j,want)) (hj : (ops[j]?).bind (·.dst) = some tj)
    (hb : Grd S tj want g) (hd : (o.dst,oH o.op) = (some t,true)) (ht : t < N) (h1 : g = true → ILS P O N ops ({ o with guard:=none } :: l) S Q) (h2 : g = false → ILS P O N ops l (S.set t (.cnd g (.bool false))) Q) : ILS P O N ops (o :: l) S Q:=by
  obtain ⟨hd,hnd⟩:=Prod.mk.inj hd
  intro E β a hr
  have hwant:=hb.yields hr hj hg
  unfold wpListIn
  rw [hwant]
  cases g with
  | true =>
    simp only [if_true]
    have h3:=h1 rfl E β a hr
    have h4 : Oper.wpIn (fen O.round) 0 P { o with guard:=none } a E.w (wpListIn (fen O.round) 0 P ops (fun e a' w'=>∃ S' E' β',E'.w = w' ∧ Rel O N S' E' β' a' ∧ Q e S') l) (fun e a' w'=>∃ S' E' β',E'.w = w' ∧ Rel O N S' E' β' a' ∧ Q e S'):=by
      unfold wpListIn at h3
      simp only [Region.wanted,if_true] at h3
      exact h3
    have h5 : Oper.wpIn (fen O.round) 0 P o a E.w (wpListIn (fen O.round) 0 P ops (fun e a' w'=>∃ S' E' β',E'.w = w' ∧ Rel O N S' E' β' a' ∧ Q e S') l) (fun e a' w'=>∃ S' E' β',E'.w = w' ∧ Rel O N S' E' β' a' ∧ Q e S'):=h4
    exact h5
  | false =>
    simp only [Bool.false_eq_true,if_false,hd]
    exact ⟨fun _ _=>trivial,(h2 rfl E β _ (hr.set ht (.cnd _ _ _ _ (fun h=>by cases h) fun _=>rfl)))⟩
theorem Rel.uncnd {E : Env} {β : cB} {a : Act} (h : Rel O N S E β a) {t : Nat} {g : Bool} {d : D} (hS : S.get t = .cnd g d) (hg : g = true) : Rel O N (S.set t d) E β a:=by
  refine ⟨h.n,h.nd,h.h,fun s=>?_⟩
  by_cases hs : t = s
  · subst hs
    have:=h.sl t
    rw [hS] at this
    have e : (S.set t d).get t = d:=by simp [St.get,St.set,bB]
    rw [e]
    generalize a.tmps.getD t undef = v at this ⊢
    cases this with
    | cnd _ _ _ _ k _=>exact k hg
  · have e : (S.set t d).get s = S.get s := by simp [St.get, St.set, bB, hs]
    rw [e]; exact h.sl s
theorem kV {ops : Array Oper} {l : List Oper} (t : Nat) {g : Bool} {d : D} (hS : S.get t = .cnd g d) (hg : g = true) (k : ILS P O N ops l (S.set t d) Q) : ILS P O N ops l S Q :=
  fun E β a hr=>k E β a (hr.uncnd hS hg)
end
end Go.IL
namespace Go.IL
section
variable {P : Program} {O : cM} {N : Nat} {S S' : St} {o : Oper} {t : Nat} {Q : Exit → St → Prop}
theorem lb {a b : Nat} (h : Nat.ble (a + 1) b = true) : a < b:=Nat.le_of_ble_eq_true h
theorem svI {x : Operand} {k : IntKind} {n : Int} (h : S.op x = .int k n) : SV S x (.int k n):=sv h
theorem svB {x : Operand} {n : Bool} (h : S.op x = .bool n) : SV S x (.bool n):=sv h
theorem svR {x : Operand} {i j : Nat} (h : S.op x = .ref i j) : SV S x (.ref i j):=sv h
theorem svL {x : Operand} {f : Bool} {l : List D} (h : S.op x = .slice f l) : SV S x (.slice f l):=sv h
theorem svA {x : Operand} (l : List D) (h : S.op x = .agg l) : SV S x (.agg l):=sv h
theorem svcI {x : Operand} {b : Bool} {k : IntKind} {n : Int} (h : S.op x = .cnd b (.int k n)) (hb : b = true) : SV S x (.int k n):=svc h hb
theorem svcB {x : Operand} {b n : Bool} (h : S.op x = .cnd b (.bool n)) (hb : b = true) : SV S x (.bool n):=svc h hb
theorem svcR {x : Operand} {b : Bool} {i j : Nat} (h : S.op x = .cnd b (.ref i j)) (hb : b = true) : SV S x (.ref i j):=svc h hb
theorem svcL {x : Operand} {b : Bool} {f : Bool} {l : List D} (h : S.op x = .cnd b (.slice f l)) (hb : b = true) : SV S x (.slice f l):=svc h hb
theorem svcA {x : Operand} {b : Bool} (l : List D) (h : S.op x = .cnd b (.agg l)) (hb : b = true) : SV S x (.agg l):=svc h hb
theorem mvI {x : Operand} {k : IntKind} {n : Int} (ho : o.op = .move x) (hd : o.dst = some t) (ht : Nat.ble (t + 1) N = true) (hx : S.op x = .int k n) : IOp P O N o S (S.set t (.int k n)):=aM ho hd (lb ht) (sv hx)
theorem mvB {x : Operand} {n : Bool} (ho : o.op = .move x) (hd : o.dst = some t) (ht : Nat.ble (t + 1) N = true) (hx : S.op x = .bool n) : IOp P O N o S (S.set t (.bool n)):=aM ho hd (lb ht) (sv hx)
theorem mvR {x : Operand} {i j : Nat} (ho : o.op = .move x) (hd : o.dst = some t) (ht : Nat.ble (t + 1) N = true) (hx : S.op x = .ref i j) : IOp P O N o S (S.set t (.ref i j)):=aM ho hd (lb ht) (sv hx)
theorem mvL {x : Operand} {f : Bool} {l : List D} (ho : o.op = .move x) (hd : o.dst = some t) (ht : Nat.ble (t + 1) N = true) (hx : S.op x = .slice f l) : IOp P O N o S (S.set t (.slice f l)):=aM ho hd (lb ht) (sv hx)
theorem asI {x : Operand} {k : IntKind} {n : Int} (ho : o.op = .assign x) (hd : o.dst = some t) (ht : Nat.ble (t + 1) N = true) (hx : S.op x = .int k n) : IOp P O N o S (S.set t (.int k n)):=aH ho hd (lb ht) (sv hx)
theorem asB {x : Operand} {n : Bool} (ho : o.op = .assign x) (hd : o.dst = some t) (ht : Nat.ble (t + 1) N = true) (hx : S.op x = .bool n) : IOp P O N o S (S.set t (.bool n)):=aH ho hd (lb ht) (sv hx)
def LA (P : Program) (T : TypeId) (u : TypeDesc) (z : Option Value) (size bytes : Nat) (g : Bool) : Prop:=P.underlying T = some u ∧ gP P T = g ∧ TI P T z size bytes ∧ 0 < size
theorem LA.mk {T : TypeId} {u : TypeDesc} {z : Option Value} {size bytes : Nat} {g : Bool} (h1 : P.underlying T = some u) (h2 : gP P T = g) (h3 : TI P T z size bytes) (h4 : 0 < size) : LA P T u z size bytes g:=⟨h1,h2,h3,h4⟩
theorem lra {T : TypeId} {x : Operand} {u : TypeDesc} {z : Option Value} {size bytes : Nat} {id off : Nat} {e : TypeId} {ds : List D} (cs : List D) (l : LA P T u z size bytes true) (ho : o.op = .load T x) (hd : o.dst = some t) (ht : Nat.ble (t + 1) N = true)
    (hx : S.op x = .ref id off) (he : S.ent id = .blk e ds) (hn : off + size ≤ ds.length) (hdd : (ds.drop off).take size = cs) : IOp P O N o S (S.set t (.agg cs)):=bK ho hd (lb ht) l.1 l.2.1 l.2.2.1 l.2.2.2 (sv hx) he hn hdd
theorem lrL {T : TypeId} {x : Operand} {u : TypeDesc} {z : Option Value} {size bytes : Nat} {id off : Nat} {e : TypeId} {ds r : List D} {f : Bool} {m : List D} (l : LA P T u z size bytes false) (ho : o.op = .load T x) (hd : o.dst = some t) (ht : Nat.ble (t + 1) N = true)
    (hx : S.op x = .ref id off) (he : S.ent id = .blk e ds) (hn : off + size ≤ ds.length) (hdd : ds.drop off = .slice f m :: r) : IOp P O N o S (S.set t (.slice f m)):=aF ho hd (lb ht) l.1 l.2.1 l.2.2.1 l.2.2.2 (sv hx) he hn hdd
theorem rva {x : Nat} {T : TypeId} {id off : Nat} {e : TypeId} {ds cs : List D} {u : TypeDesc} {z : Option Value} {size bytes : Nat} (l : LA P T u z size bytes true) (hx : S.get x = .ref id off) (he : S.ent id = .blk e ds)
    (hn : off + size ≤ ds.length) (hd : (ds.drop off).take size = cs) : ResV P S (.cell x T) (.agg cs):=resv_a hx he l.1 l.2.1 l.2.2.1 l.2.2.2 hn hd
theorem stA {T : TypeId} {x y : Operand} {z : Option Value} {size bytes : Nat} {id off : Nat} {e : TypeId} {ds : List D} (c ds' : List D) (hi : TI P T z size bytes) (ho : o.op = .store T x y) (hd : o.dst = none)
    (hx : S.op x = .ref id off) (he : S.ent id = .blk e ds) (hy : S.op y = .agg c) (hb : (D.agg c).boxable = true) (hsz : (D.agg c).cells.length = size) (h1 : (D.agg c).cells.all D.one = true)
    (hn : off + size ≤ ds.length) (hds : eT ds off (D.agg c).cells = ds') : IOp P O N o S (S.setE id (.blk e ds')):=bN ho hd hi (sv hx) he (sv hy) hb hsz h1 hn hds
theorem faR {T : TypeId} {x : Operand} {i : Nat} {fs : Array Field} {F : Field} {z : Option Value} {size bytes : Nat} {id off : Nat} (off' : Nat) (ho : o.op = .fieldAddr T x i) (hd : o.dst = some t) (ht : Nat.ble (t + 1) N = true)
    (hu : P.underlying T = some (.struct fs)) (hf : fs[i]? = some F) (hi : TI P F.type z size bytes) (hs : 0 < size) (hx : S.op x = .ref id off) (ho' : off + F.offset = off') : IOp P O N o S (S.set t (.ref id off')) :=
  aI ho hd (lb ht) hu hf hi hs (sv hx) ho'
theorem svaI {n : Node} {S0 : St} {s : Nat} {k : IntKind} {m : Int} (hA : oM n S S0) (hm : n.rs.elem s = true) (h : S0.get s = .int k m) : SV S (.tmp s) (.int k m):=sv (agr hA hm h)
theorem svaB {n : Node} {S0 : St} {s : Nat} {m : Bool} (hA : oM n S S0) (hm : n.rs.elem s = true) (h : S0.get s = .bool m) : SV S (.tmp s) (.bool m):=sv (agr hA hm h)
theorem svaR {n : Node} {S0 : St} {s i j : Nat} (hA : oM n S S0) (hm : n.rs.elem s = true) (h : S0.get s = .ref i j) : SV S (.tmp s) (.ref i j):=sv (agr hA hm h)
theorem svaL {n : Node} {S0 : St} {s : Nat} {f : Bool} {l : List D} (hA : oM n S S0) (hm : n.rs.elem s = true) (h : S0.get s = .slice f l) : SV S (.tmp s) (.slice f l):=sv (agr hA hm h)
theorem svaA {n : Node} {S0 : St} {s : Nat} (l : List D) (hA : oM n S S0) (hm : n.rs.elem s = true) (h : S0.get s = .agg l) : SV S (.tmp s) (.agg l):=sv (agr hA hm h)
theorem AllW.s {ρ : Nat → Nat} {t : Nat} {d : D} {l : List (Nat × D)} (h : S.get t = d.ren ρ) (hr : d.refsIn S'.okn = true) (k : AllW (SlW S S' ρ) l) : AllW (SlW S S' ρ) ((t,d) :: l):=.cons (.same h hr) k
theorem AllW.sames {ρ : Nat → Nat} : ∀ {l : List (Nat × D)},l.map (fun p=>S.get p.1) = l.map (fun p=>p.2.ren ρ) → (l.all fun p=>p.2.refsIn S'.okn) = true → AllW (SlW S S' ρ) l
  | [],_,_=>.nil
  | (t, d) :: l, h, hr => by
    simp only [List.map_cons,List.cons.injEq] at h
    simp only [List.all_cons,Bool.and_eq_true] at hr
    exact .cons (.same h.1 hr.1) (AllW.sames h.2 hr.2)
end
theorem SubL.k {d : D} {ds ds' : List D} (t : SubL ds ds') : SubL (d :: ds) (d :: ds'):=.cons (.refl d) t
theorem SubL.k4 {a b c d : D} {ds ds' : List D} (t : SubL ds ds') : SubL (a :: b :: c :: d :: ds) (a :: b :: c :: d :: ds'):=.k (.k (.k (.k t)))
theorem FDL.k {S : St} {d : D} {ds ds' : List D} (t : FDL S ds ds') : FDL S (d :: ds) (d :: ds'):=.cons (.refl d) t
theorem FDL.k4 {S : St} {a b c d : D} {ds ds' : List D} (t : FDL S ds ds') : FDL S (a :: b :: c :: d :: ds) (a :: b :: c :: d :: ds'):=.k (.k (.k (.k t)))
theorem SubL.all : ∀ (l : List D),SubL l l
  | []=>.nil
  | d :: l=>.cons (.refl d) (SubL.all l)
theorem FDL.all {S : St} (l : List D) : FDL S l l:=oS l
theorem aBE {a b : Bool} (h : (a && false) = b) : b = false:=by rw [← h,Bool.and_false]
end Go.IL
open Go Go.IL
namespace Go.Fn
structure zZ where
  Kind : Int
  N : Int
  Path : Int
  Fin : Bool
  deriving DecidableEq,Inhabited
structure aJ where
  From : Int
  To : Int
  Path : Int
  Fin : Bool
  deriving DecidableEq,Inhabited
def aB : Enc aJ:=⟨⟨fun x=>.agg [.int .i64 x.From,.int .i64 x.To,.int .i64 x.Path,.bool x.Fin],4,by decide,fun _=>⟨rfl,rfl⟩⟩,fun _=>rfl⟩

structure aG where
  From : Int
  To : Int
  deriving DecidableEq,Inhabited
def aK : Enc aG:=⟨⟨fun x=>.agg [.int .i64 x.From,.int .i64 x.To],2,by decide,fun _=>⟨rfl,rfl⟩⟩,fun _=>rfl⟩

structure aW where
  Base : Int
  Data : (List UInt8)
  Next : Int
  Pieces : (List aJ)
  Lost : (List aG)
  Closed : Bool
  Sent : Bool
  Again : Bool
  Done : Bool
  deriving DecidableEq,Inhabited
def uP  : Option aW :=
  some (⟨0,[],0,[],[],false,false,false,false⟩ : aW)

def dP (a0 : (List aG)) : Option (List aG) :=
  vN a0 (
    some []
  ) (
    bno (app 16 ([] : (List aG)) a0) fun x3 =>
    some x3
  )

def eO (a0 : aW) : Option (Int × (List UInt8) × Int × (List aJ) × (List aG) × Bool × Bool × Bool × Bool) :=
  bno (made 32 (a0.Pieces.length : Int) ((⟨0,0,0,false⟩ : aJ) : aJ)) fun x1 =>
  bnd (cpy x1 a0.Pieces) fun x2 =>
  bno (dP a0.Lost) fun x3 =>
  some (a0.Base,a0.Data,a0.Next,x2,x3,a0.Closed,a0.Sent,a0.Again,a0.Done)

def oJ (a0 : Int) : Option Bool :=
  bnd (decide (0 ≤ a0)) fun x1 =>
  bnd (decide (a0 ≤ 4611686018427387903)) fun x2 =>
  bnd (x1 && x2) fun x3 =>
  some x3

def fU (a0 : aG) : Option Bool :=
  bno (oJ a0.From) fun x1 =>
  bno (gd (x1 == true) (oJ a0.To) default) fun x2 =>
  bnd (x1 && x2) fun x3 =>
  some x3

def kC (a0 : aG) : Option Bool :=
  bno (fU (⟨a0.From,a0.To⟩ : aG)) fun x1 =>
  some (!x1)

def bU (a0 : (List aG)) : Nat → Int → Option Int
  | 0,_=>none
  | n0 + 1, v7 =>
    bnd (decide (v7 < (a0.length : Int))) fun x14 =>
    bif x14 then (
      bno (gix a0 v7) fun x16 =>
      bno (kC (⟨x16.From,x16.To⟩ : aG)) fun x17 =>
      bif x17 then (
        some v7
      ) else (
        bnd (IntKind.wrap .i64 (v7 + 1)) fun x19 =>
        (bU a0 n0) x19
      )
    ) else (
      some (-1)
    )
def dV (a0 : (List aG)) : Option Int :=
  bU a0 fuel 0

def cX (a0 : (List aG)) : Option Bool :=
  bno (dV a0) fun x1 =>
  bnd (decide (0 ≤ x1)) fun x2 =>
  some x2

def eX (a0 : aG) : Option Bool :=
  bnd (decide (a0.To ≤ a0.From)) fun x1 =>
  some x1

def bY (a0 : (List aG)) : Nat → Int → Option Int
  | 0,_=>none
  | n0 + 1, v7 =>
    bnd (decide (v7 < (a0.length : Int))) fun x14 =>
    bif x14 then (
      bno (gix a0 v7) fun x16 =>
      bno (eX (⟨x16.From,x16.To⟩ : aG)) fun x17 =>
      bif x17 then (
        some v7
      ) else (
        bnd (IntKind.wrap .i64 (v7 + 1)) fun x19 =>
        (bY a0 n0) x19
      )
    ) else (
      some (-1)
    )
def dZ (a0 : (List aG)) : Option Int :=
  bY a0 fuel 0

def dG (a0 : (List aG)) : Option Bool :=
  bno (dZ a0) fun x1 =>
  bnd (decide (0 ≤ x1)) fun x2 =>
  some x2

def fH (a0 : (List aG)) : Nat → Int → Option Int
  | 0,_=>none
  | n0 + 1, v13 =>
    bnd (decide (v13 < (a0.length : Int))) fun x22 =>
    bif x22 then (
      bno (gix a0 v13) fun x24 =>
      bnd (IntKind.wrap .i64 (v13 - 1)) fun x25 =>
      bno (gix a0 x25) fun x26 =>
      bnd (decide (x24.From ≤ x26.To)) fun x27 =>
      bif x27 then (
        some 10
      ) else (
        bnd (IntKind.wrap .i64 (v13 + 1)) fun x29 =>
        (fH a0 n0) x29
      )
    ) else (
      some 0
    )
def iV (a0 : (List aG)) : Option Int :=
  bno (cX a0) fun x1 =>
  bif x1 then (
    some 8
  ) else (
    bno (dG a0) fun x3 =>
    bif x3 then (
      some 4
    ) else (
      fH a0 fuel 1
    )
  )

def iQ (a0 : aW) : Option Bool :=
  bno (iV a0.Lost) fun x1 =>
  bnd (!decide (x1 = 0)) fun x2 =>
  bif x2 then (
    some false
  ) else (
    bnd (decide ((a0.Lost.length : Int) = 0)) fun x4 =>
    bno (gd (x4 == false) (gix a0.Lost 0) default) fun x5 =>
    bnd (decide (a0.Base ≤ x5.From)) fun x6 =>
    bnd (IntKind.wrap .i64 ((a0.Lost.length : Int) - 1)) fun x7 =>
    bno (gd ((x4 == false) && (x6 == true)) (gix a0.Lost x7) default) fun x8 =>
    bnd (decide (x8.To ≤ a0.Next)) fun x9 =>
    bnd (x6 && x9) fun x10 =>
    bnd (x4 || x10) fun x11 =>
    some x11
  )

def lO (a0 : Int) : Option Bool :=
  bnd (decide (0 ≤ a0)) fun x1 =>
  bnd (decide (a0 < 4)) fun x2 =>
  bnd (x1 && x2) fun x3 =>
  some x3

def eW (a0 : aJ) : Option aG :=
  some (⟨a0.From,a0.To⟩ : aG)

def cZ (a0 : (List aG)) : Option (List aG) :=
  vN a0 (
    some ([] : (List aG))
  ) (
    bno (app 16 ([] : (List aG)) a0) fun x3 =>
    some x3
  )

def fA (v52 : Int) (kk0 : Int → (List aG) → Option (List aG)) (x99 : aG) (x100 : Int) (x101 : Int) : Nat → Int → (List aG) → Option (List aG)
  | 0,_,_=>none
  | n1 + 1, v113, v114 =>
    bnd (decide (v113 < 2)) fun x127 =>
    bif x127 then (
      bno (gix ([(⟨x99.From,x100⟩ : aG),(⟨x101,x99.To⟩ : aG)] : List aG) v113) fun x129 =>
      bno (eX (⟨x129.From,x129.To⟩ : aG)) fun x130 =>
      bif ((!x130) == true) then (
        bno (app 16 v114 (([(⟨x129.From,x129.To⟩ : aG)] : (List aG)))) fun x132 =>
        bnd ((!x130) && (!true)) fun x133 =>
        bif x133 then (
          some x132
        ) else (
          bnd (IntKind.wrap .i64 (v113 + 1)) fun x135 =>
          (fA v52 kk0 x99 x100 x101 n1) x135 x132
        )
      ) else (
        bnd ((!x130) && (!false)) fun x136 =>
        bif x136 then (
          some v114
        ) else (
          bnd (IntKind.wrap .i64 (v113 + 1)) fun x138 =>
          (fA v52 kk0 x99 x100 x101 n1) x138 v114
        )
      )
    ) else (
      bnd (IntKind.wrap .i64 (v52 + 1)) fun x139 =>
      kk0 x139 v114
    )
def gO (a0 : (List aG)) (a1 : aG) : Nat → Int → (List aG) → Option (List aG)
  | 0,_,_=>none
  | n0 + 1, v52, v53 =>
    bnd (decide (v52 < (a0.length : Int))) fun x97 =>
    bif x97 then (
      bno (gix a0 v52) fun x99 =>
      bnd (min x99.To a1.From) fun x100 =>
      bnd (max x99.From a1.To) fun x101 =>
      fA v52 (gO a0 a1 n0) x99 x100 x101 fuel 0 v53
    ) else (
      some v53
    )
def lV (a0 : (List aG)) (a1 : aG) : Option (List aG) :=
  bno (fU (⟨a1.From,a1.To⟩ : aG)) fun x1 =>
  bno (gd ((!x1) == false) (eX (⟨a1.From,a1.To⟩ : aG)) default) fun x2 =>
  bnd ((!x1) || x2) fun x3 =>
  bno (gd (x3 == false) (iV a0) default) fun x4 =>
  bnd (!decide (x4 = 0)) fun x5 =>
  bnd (x3 || x5) fun x6 =>
  bif x6 then (
    bno (cZ a0) fun x8 =>
    some x8
  ) else (
    gO a0 a1 fuel 0 ([] : (List aG))
  )

def gN (a0 : (List aG)) : Nat → (List aG) → Int → Option (List aG)
  | 0,_,_=>none
  | n0 + 1, v13, v14 =>
    bnd (decide (v14 < (a0.length : Int))) fun x20 =>
    bif x20 then (
      bno (gix a0 v14) fun x22 =>
      bno (lV v13 (⟨x22.From,x22.To⟩ : aG)) fun x23 =>
      bnd (IntKind.wrap .i64 (v14 + 1)) fun x24 =>
      (gN a0 n0) x23 x24
    ) else (
      some v13
    )
def mY (a0 : (List aG)) (a1 : aG) : Option (List aG) :=
  bno (fU (⟨a1.From,a1.To⟩ : aG)) fun x1 =>
  bno (gd ((!x1) == false) (iV a0) default) fun x2 =>
  bnd (!decide (x2 = 0)) fun x3 =>
  bnd ((!x1) || x3) fun x4 =>
  bno (gd (x4 == false) (eX (⟨a1.From,a1.To⟩ : aG)) default) fun x5 =>
  bnd (x4 || x5) fun x6 =>
  bif x6 then (
    some []
  ) else (
    gN a0 fuel (([(⟨a1.From,a1.To⟩ : aG)] : (List aG))) 0
  )

def cJ (a0 : (List aG)) (a1 : (List aG)) : Nat → Int → Option Bool
  | 0,_=>none
  | n0 + 1, v10 =>
    bnd (decide (v10 < (a0.length : Int))) fun x18 =>
    bif x18 then (
      bno (gix a0 v10) fun x20 =>
      bno (gix a1 v10) fun x21 =>
      bnd ((decide (x20.From = x21.From) && (decide (x20.To = x21.To) && true))) fun x22 =>
      bif (!x22) then (
        some false
      ) else (
        bnd (IntKind.wrap .i64 (v10 + 1)) fun x24 =>
        (cJ a0 a1 n0) x24
      )
    ) else (
      some true
    )
def eB (a0 : (List aG)) (a1 : (List aG)) : Option Bool :=
  bnd (!decide ((a0.length : Int) = (a1.length : Int))) fun x1 =>
  bif x1 then (
    some false
  ) else (
    cJ a0 a1 fuel 0
  )

def lJ (a0 : (List aG)) (a1 : (List aG)) : Option Bool :=
  bno (eB a0 a1) fun x1 =>
  some x1

def iR (a0 : aW) (a1 : aJ) (a2 : Int) : Option Bool :=
  bnd (decide (a1.From < a2)) fun x1 =>
  bnd (decide (a1.To < a1.From)) fun x2 =>
  bnd (x1 || x2) fun x3 =>
  bnd (decide (a0.Next < a1.To)) fun x4 =>
  bnd (x3 || x4) fun x5 =>
  bno (gd (x5 == false) (lO a1.Path) default) fun x6 =>
  bnd (x5 || (!x6)) fun x7 =>
  bif x7 then (
    some false
  ) else (
    bnd (decide (a1.From = a1.To)) fun x9 =>
    bif x9 then (
      some a1.Fin
    ) else (
      bno (eW a1) fun x11 =>
      bno (mY a0.Lost (⟨x11.From,x11.To⟩ : aG)) fun x12 =>
      bno (eW a1) fun x13 =>
      bno (lJ x12 ([(⟨x13.From,x13.To⟩ : aG)] : (List aG))) fun x14 =>
      some x14
    )
  )

def eI (a0 : aW) : Option Int :=
  bnd (IntKind.wrap .i64 (a0.Base + (a0.Data.length : Int))) fun x1 =>
  some x1

def eC (a0 : aW) : Nat → Int → Int → Option Bool
  | 0,_,_=>none
  | n0 + 1, v11, v12 =>
    bnd (decide (v12 < (a0.Pieces.length : Int))) fun x23 =>
    bif x23 then (
      bno (gix a0.Pieces v12) fun x25 =>
      bif x25.Fin then (
        bnd (IntKind.wrap .i64 (v11 + 1)) fun x27 =>
        bno (eI a0) fun x28 =>
        bnd (!decide (x25.To = x28)) fun x29 =>
        bif x29 then (
          some false
        ) else (
          bnd (IntKind.wrap .i64 (v12 + 1)) fun x31 =>
          (eC a0 n0) x27 x31
        )
      ) else (
        bnd (IntKind.wrap .i64 (v12 + 1)) fun x32 =>
        (eC a0 n0) v11 x32
      )
    ) else (
      bif (!a0.Sent) then (
        bnd (decide (v11 = 0)) fun x34 =>
        bnd (x34 && (!a0.Again)) fun x35 =>
        bnd (x35 && (!a0.Done)) fun x36 =>
        some x36
      ) else (
        bno (gd ((!a0.Closed) == false) (eI a0) default) fun x37 =>
        bnd (!decide (a0.Next = x37)) fun x38 =>
        bnd ((!a0.Closed) || x38) fun x39 =>
        bnd (a0.Again && a0.Done) fun x40 =>
        bnd (x39 || x40) fun x41 =>
        bif x41 then (
          some false
        ) else (
          bnd ((!a0.Again) && (!a0.Done)) fun x43 =>
          bnd (decide (v11 = 1)) fun x44 =>
          bnd (x43 && x44) fun x45 =>
          bnd (decide (v11 = 0)) fun x46 =>
          bnd ((!x43) && x46) fun x47 =>
          bnd (x45 || x47) fun x48 =>
          some x48
        )
      )
    )
def jZ (a0 : aW) : Option Bool :=
  eC a0 fuel 0 0

def gG (a0 : aW) : Nat → Int → Int → Option Int
  | 0,_,_=>none
  | n1 + 1, v21, v22 =>
    bnd (decide (v22 < (a0.Pieces.length : Int))) fun x29 =>
    bif x29 then (
      bno (gix a0.Pieces v22) fun x31 =>
      bno (iR a0 x31 v21) fun x32 =>
      bif (!x32) then (
        some 10
      ) else (
        bnd (IntKind.wrap .i64 (v22 + 1)) fun x34 =>
        (gG a0 n1) x31.To x34
      )
    ) else (
      bno (jZ a0) fun x35 =>
      bif (!x35) then (
        some 9
      ) else (
        some 0
      )
    )
def iD (a0 : aW) (v9 : Bool) : Option Int :=
  bif v9 then (
    some 8
  ) else (
    bnd (decide (4096 < (a0.Data.length : Int))) fun x11 =>
    bif x11 then (
      some 5
    ) else (
      bno (iQ a0) fun x13 =>
      bif (!x13) then (
        some 4
      ) else (
        gG a0 fuel a0.Base 0
      )
    )
  )
def hG (a0 : aW) : Option Int :=
  bnd (decide (a0.Base < 0)) fun x37 =>
  bif x37 then (
    iD a0 x37
  ) else (
    bnd (decide (1099511623680 < a0.Base)) fun x39 =>
    bif x39 then (
      iD a0 x39
    ) else (
      bnd (decide (a0.Next < a0.Base)) fun x41 =>
      bif x41 then (
        iD a0 x41
      ) else (
        bnd (IntKind.wrap .i64 (a0.Next - a0.Base)) fun x43 =>
        bnd (decide ((a0.Data.length : Int) < x43)) fun x44 =>
        iD a0 x44
      )
    )
  )

def nY (a0 : aW) : Option Int :=
  bif a0.Closed then (
    some 0
  ) else (
    bnd (IntKind.wrap .i64 (4096 - (a0.Data.length : Int))) fun x2 =>
    some x2
  )

def mO (a0 : aW) (a1 : (List UInt8)) : Option (aW × Int) :=
  bno (eO a0) fun x1 =>
  bno (hG a0) fun x2 =>
  bnd (!decide (x2 = 0)) fun x3 =>
  bif x3 then (
    some ((⟨x1.1,x1.2.1,x1.2.2.1,x1.2.2.2.1,x1.2.2.2.2.1,x1.2.2.2.2.2.1,x1.2.2.2.2.2.2.1,x1.2.2.2.2.2.2.2.1,x1.2.2.2.2.2.2.2.2⟩ : aW),0)
  ) else (
    bno (nY a0) fun x5 =>
    bnd (min x5 (a1.length : Int)) fun x6 =>
    bno (eI a0) fun x7 =>
    bnd (IntKind.wrap .i64 (1099511623680 - x6)) fun x8 =>
    bnd (decide (x8 < x7)) fun x9 =>
    bif x9 then (
      some ((⟨x1.1,x1.2.1,x1.2.2.1,x1.2.2.2.1,x1.2.2.2.2.1,x1.2.2.2.2.2.1,x1.2.2.2.2.2.2.1,x1.2.2.2.2.2.2.2.1,x1.2.2.2.2.2.2.2.2⟩ : aW),0)
    ) else (
      bno (cut a1 0 x6) fun x11 =>
      bno (cat x1.2.1 x11) fun x12 =>
      some ((⟨x1.1,x12,x1.2.2.1,x1.2.2.2.1,x1.2.2.2.2.1,x1.2.2.2.2.2.1,x1.2.2.2.2.2.2.1,x1.2.2.2.2.2.2.2.1,x1.2.2.2.2.2.2.2.2⟩ : aW),x6)
    )
  )

def mP (a0 : aW) : Option aW :=
  bno (eO a0) fun x1 =>
  bno (gd (x1.2.2.2.2.2.1 == false) (hG a0) default) fun x2 =>
  bnd (decide (x2 = 0)) fun x3 =>
  bnd (x1.2.2.2.2.2.1 || x3) fun x4 =>
  some (⟨x1.1,x1.2.1,x1.2.2.1,x1.2.2.2.1,x1.2.2.2.2.1,x4,x1.2.2.2.2.2.2.1,x1.2.2.2.2.2.2.2.1,x1.2.2.2.2.2.2.2.2⟩ : aW)

def iJ (a0 : aW) : Option Bool :=
  bnd ((!a0.Closed) || a0.Done) fun x1 =>
  bif x1 then (
    some false
  ) else (
    bnd (a0.Again || (!a0.Sent)) fun x3 =>
    some x3
  )

def gZ (a0 : aW) (a1 : Int) (a2 : Int) : Option (aJ × Bool) :=
  bnd (decide (0 < (a0.Lost.length : Int))) fun x1 =>
  bif x1 then (
    bno (gix a0.Lost 0) fun x3 =>
    bnd (IntKind.wrap .i64 (x3.To - x3.From)) fun x4 =>
    bnd (min a1 x4) fun x5 =>
    bnd (IntKind.wrap .i64 (x3.From + x5)) fun x6 =>
    some ((⟨x3.From,x6,0,false⟩ : aJ),true)
  ) else (
    bno (eI a0) fun x7 =>
    bnd (IntKind.wrap .i64 (x7 - a0.Next)) fun x8 =>
    bnd (decide (0 < x8)) fun x9 =>
    bif x9 then (
      bnd (max a2 a0.Next) fun x11 =>
      bnd (IntKind.wrap .i64 (x11 - a0.Next)) fun x12 =>
      bnd (min (min x8 a1) x12) fun x13 =>
      bnd (IntKind.wrap .i64 (a0.Next + x13)) fun x14 =>
      bnd (decide (0 < x13)) fun x15 =>
      some ((⟨a0.Next,x14,0,false⟩ : aJ),x15)
    ) else (
      bno (iJ a0) fun x16 =>
      some ((⟨a0.Next,a0.Next,0,false⟩ : aJ),x16)
    )
  )

def iN (a0 : aJ) (a1 : aJ) : Option Bool :=
  bnd (decide (a1.From < a0.From)) fun x1 =>
  bnd (decide (a0.From = a1.From)) fun x2 =>
  bnd (decide (a1.To ≤ a0.To)) fun x3 =>
  bnd (x2 && x3) fun x4 =>
  bnd (x1 || x4) fun x5 =>
  some x5

def bP (a0 : (List aJ)) (a1 : aJ) : Nat → Int → Option Int
  | 0,_=>none
  | n0 + 1, v7 =>
    bnd (decide (v7 < (a0.length : Int))) fun x14 =>
    bif x14 then (
      bno (gix a0 v7) fun x16 =>
      bno (iN x16 a1) fun x17 =>
      bif x17 then (
        some v7
      ) else (
        bnd (IntKind.wrap .i64 (v7 + 1)) fun x19 =>
        (bP a0 a1 n0) x19
      )
    ) else (
      some (-1)
    )
def dF (a0 : (List aJ)) (a1 : aJ) : Option Int :=
  bP a0 a1 fuel 0

def iH (a0 : aW) (a1 : aJ) : Option Int :=
  bno (cut a0.Pieces 0 (a0.Pieces.length : Int)) fun x1 =>
  bno (eI a0) fun x2 =>
  bno (eI a0) fun x3 =>
  bnd (IntKind.wrap .i64 (x3 + 1)) fun x4 =>
  bno (app 32 x1 (([(⟨x2,x4,0,false⟩ : aJ)] : (List aJ)))) fun x5 =>
  bno (dF x5 a1) fun x6 =>
  some x6

def eK (a0 : Int) (a1 : (List aJ)) (a2 : (List aJ)) : Option (List aJ):=insS 32 a2 a0 a1

def hY (a0 : aW) (a1 : Int) (x1 : (Int × (List UInt8) × Int × (List aJ) × (List aG) × Bool × Bool × Bool × Bool)) (x9 : (aJ × Bool)) (x11 : Int) (v16 : (List aG)) (v22 : Bool) (v23 : Bool) (v24 : Bool) : Option (aW × aJ × (List UInt8) × Bool) :=
  bno (iH a0 (⟨x9.1.From,x9.1.To,a1,v24⟩ : aJ)) fun x25 =>
  bno (eK x25 ([(⟨x9.1.From,x9.1.To,a1,v24⟩ : aJ)] : (List aJ)) x1.2.2.2.1) fun x26 =>
  bnd (IntKind.wrap .i64 (x9.1.From - a0.Base)) fun x27 =>
  bnd (IntKind.wrap .i64 (x9.1.To - a0.Base)) fun x28 =>
  bno (cut a0.Data x27 x28) fun x29 =>
  some (((⟨x1.1,x1.2.1,x11,x26,v16,x1.2.2.2.2.2.1,v22,v23,x1.2.2.2.2.2.2.2.2⟩ : aW),(⟨x9.1.From,x9.1.To,a1,v24⟩ : aJ),x29,true))
def jQ (a0 : aW) (a1 : Int) (x1 : (Int × (List UInt8) × Int × (List aJ) × (List aG) × Bool × Bool × Bool × Bool)) (x9 : (aJ × Bool)) (x11 : Int) (v16 : (List aG)) : Option (aW × aJ × (List UInt8) × Bool) :=
  bno (eI a0) fun x30 =>
  bnd (decide (x9.1.To = x30)) fun x31 =>
  bno (gd (x31 == true) (iJ a0) default) fun x32 =>
  bnd (x31 && x32) fun x33 =>
  bif x33 then (
    hY a0 a1 x1 x9 x11 v16 true false x33
  ) else (
    hY a0 a1 x1 x9 x11 v16 x1.2.2.2.2.2.2.1 x1.2.2.2.2.2.2.2.1 x33
  )
def kB (a0 : aW) (a1 : Int) (a2 : Int) (a3 : Int) : Option (aW × aJ × (List UInt8) × Bool) :=
  bno (eO a0) fun x1 =>
  bno (lO a1) fun x2 =>
  bnd (decide (a2 < 1)) fun x3 =>
  bnd ((!x2) || x3) fun x4 =>
  bno (gd (x4 == false) (hG a0) default) fun x5 =>
  bnd (!decide (x5 = 0)) fun x6 =>
  bnd (x4 || x6) fun x7 =>
  bif x7 then (
    some (((⟨x1.1,x1.2.1,x1.2.2.1,x1.2.2.2.1,x1.2.2.2.2.1,x1.2.2.2.2.2.1,x1.2.2.2.2.2.2.1,x1.2.2.2.2.2.2.2.1,x1.2.2.2.2.2.2.2.2⟩ : aW),(⟨0,0,0,false⟩ : aJ),[],false))
  ) else (
    bno (gZ a0 a2 a3) fun x9 =>
    bif (!x9.2) then (
      some (((⟨x1.1,x1.2.1,x1.2.2.1,x1.2.2.2.1,x1.2.2.2.2.1,x1.2.2.2.2.2.1,x1.2.2.2.2.2.2.1,x1.2.2.2.2.2.2.2.1,x1.2.2.2.2.2.2.2.2⟩ : aW),(⟨0,0,0,false⟩ : aJ),[],false))
    ) else (
      bnd (max x1.2.2.1 x9.1.To) fun x11 =>
      bnd (decide (x9.1.From < x9.1.To)) fun x35 =>
      bif x35 then (
        bno (eW (⟨x9.1.From,x9.1.To,a1,x9.1.Fin⟩ : aJ)) fun x37 =>
        bno (lV x1.2.2.2.2.1 (⟨x37.From,x37.To⟩ : aG)) fun x38 =>
        jQ a0 a1 x1 x9 x11 x38
      ) else (
        jQ a0 a1 x1 x9 x11 x1.2.2.2.2.1
      )
    )
  )

def jM (a0 : aJ) (a1 : Int) : Option Bool :=
  bnd (decide (a0.Path = a1)) fun x1 =>
  some x1

def fY (a0 : aG) (a1 : (List aG)) : Option (List aG) :=
  bno (eX (⟨a0.From,a0.To⟩ : aG)) fun x1 =>
  bif x1 then (
    some a1
  ) else (
    bnd (decide (0 < (a1.length : Int))) fun x3 =>
    bnd (IntKind.wrap .i64 ((a1.length : Int) - 1)) fun x4 =>
    bno (gd (x3 == true) (gix a1 x4) default) fun x5 =>
    bno (gd (x3 == true) (a1[(x4 : Int).toNat]?) default) fun x6 =>
    bnd (decide (a0.From ≤ x6.To)) fun x7 =>
    bnd (x3 && x7) fun x8 =>
    bif x8 then (
      bnd (IntKind.wrap .i64 ((a1.length : Int) - 1)) fun x10 =>
      bnd (IntKind.wrap .i64 ((a1.length : Int) - 1)) fun x11 =>
      bno (gix a1 x11) fun x12 =>
      bno (a1[(x11 : Int).toNat]?) fun x13 =>
      bnd (max x13.To a0.To) fun x14 =>
      bno (gix a1 x10) fun x15 =>
      bno (a1[(x10 : Int).toNat]?) fun x16 =>
      bnd (a1.set ((x10 : Int).toNat) (⟨x16.From,x14⟩ : aG)) fun x17 =>
      some x17
    ) else (
      bno (app 16 a1 (([(⟨a0.From,a0.To⟩ : aG)] : (List aG)))) fun x18 =>
      some x18
    )
  )

def jV (v26 : Int) (kk0 : (List aG) → Bool → Int → Option (List aG)) (x44 : aG) (v49 : (List aG)) (v50 : Bool) : Option (List aG) :=
  bno (fY (⟨x44.From,x44.To⟩ : aG) v49) fun x51 =>
  bnd (IntKind.wrap .i64 (v26 + 1)) fun x52 =>
  kk0 x51 v50 x52
def fK (a0 : (List aG)) (a1 : aG) : Nat → (List aG) → Bool → Int → Option (List aG)
  | 0,_,_,_=>none
  | n0 + 1, v24, v25, v26 =>
    bnd (decide (v26 < (a0.length : Int))) fun x42 =>
    bif x42 then (
      bno (gix a0 v26) fun x44 =>
      bnd (decide (a1.From ≤ x44.From)) fun x53 =>
      bnd ((!v25) && x53) fun x54 =>
      bif x54 then (
        bno (fY (⟨a1.From,a1.To⟩ : aG) v24) fun x56 =>
        jV v26 (fK a0 a1 n0) x44 x56 true
      ) else (
        jV v26 (fK a0 a1 n0) x44 v24 v25
      )
    ) else (
      bif (!v25) then (
        bno (fY (⟨a1.From,a1.To⟩ : aG) v24) fun x58 =>
        some x58
      ) else (
        some v24
      )
    )
def oK (a0 : (List aG)) (a1 : aG) : Option (List aG) :=
  bno (fU (⟨a1.From,a1.To⟩ : aG)) fun x1 =>
  bno (gd ((!x1) == false) (eX (⟨a1.From,a1.To⟩ : aG)) default) fun x2 =>
  bnd ((!x1) || x2) fun x3 =>
  bno (gd (x3 == false) (iV a0) default) fun x4 =>
  bnd (!decide (x4 = 0)) fun x5 =>
  bnd (x3 || x5) fun x6 =>
  bif x6 then (
    bno (cZ a0) fun x8 =>
    some x8
  ) else (
    fK a0 a1 fuel ([] : (List aG)) false 0
  )

def cG (a0 : (List aJ)) (a1 : Int) : Nat → Int → Option Int
  | 0,_=>none
  | n0 + 1, v7 =>
    bnd (decide (v7 < (a0.length : Int))) fun x14 =>
    bif x14 then (
      bno (gix a0 v7) fun x16 =>
      bno (jM x16 a1) fun x17 =>
      bif x17 then (
        some v7
      ) else (
        bnd (IntKind.wrap .i64 (v7 + 1)) fun x19 =>
        (cG a0 a1 n0) x19
      )
    ) else (
      some (-1)
    )
def dT (a0 : (List aJ)) (a1 : Int) : Option Int :=
  cG a0 a1 fuel 0

def bW (a1 : Int) : Nat → (List aJ) → Int → Int → Option (List aJ)
  | 0,_,_,_=>none
  | n0 + 1, v17, v18, v19 =>
    bnd (decide (v19 < (v17.length : Int))) fun x32 =>
    bif x32 then (
      bno (gix v17 v19) fun x34 =>
      bno (v17[(v19 : Int).toNat]?) fun x35 =>
      bno (jM x35 a1) fun x36 =>
      bif (!x36) then (
        bno (gix v17 v18) fun x38 =>
        bno (v17[(v18 : Int).toNat]?) fun x39 =>
        bnd (v17.set ((v18 : Int).toNat) x35) fun x40 =>
        bnd (IntKind.wrap .i64 (v18 + 1)) fun x41 =>
        bnd (IntKind.wrap .i64 (v19 + 1)) fun x42 =>
        (bW a1 n0) x40 x41 x42
      ) else (
        bnd (IntKind.wrap .i64 (v19 + 1)) fun x43 =>
        (bW a1 n0) v17 v18 x43
      )
    ) else (
      bno (cut v17 0 v18) fun x44 =>
      bno (cut x44 0 v18) fun x45 =>
      some x45
    )
def cV (a0 : (List aJ)) (a1 : Int) : Option (List aJ) :=
  bno (dT a0 a1) fun x1 =>
  bnd (decide (x1 = (-1))) fun x2 =>
  bif x2 then (
    some a0
  ) else (
    bnd (IntKind.wrap .i64 (x1 + 1)) fun x4 =>
    bW a1 fuel a0 x1 x4
  )

def gF (a0 : aW) (a1 : Int) (x1 : (Int × (List UInt8) × Int × (List aJ) × (List aG) × Bool × Bool × Bool × Bool)) : Nat → Int → (List aG) → Bool → Option aW
  | 0,_,_,_=>none
  | n0 + 1, v15, v16, v17 =>
    bnd (decide (v15 < (a0.Pieces.length : Int))) fun x28 =>
    bif x28 then (
      bno (gix a0.Pieces v15) fun x30 =>
      bno (jM x30 a1) fun x31 =>
      bif x31 then (
        bno (eW x30) fun x33 =>
        bno (oK v16 (⟨x33.From,x33.To⟩ : aG)) fun x34 =>
        bnd (v17 || x30.Fin) fun x35 =>
        bnd (IntKind.wrap .i64 (v15 + 1)) fun x36 =>
        (gF a0 a1 x1 n0) x36 x34 x35
      ) else (
        bnd (IntKind.wrap .i64 (v15 + 1)) fun x37 =>
        (gF a0 a1 x1 n0) x37 v16 v17
      )
    ) else (
      bno (cV x1.2.2.2.1 a1) fun x38 =>
      some (⟨x1.1,x1.2.1,x1.2.2.1,x38,v16,x1.2.2.2.2.2.1,x1.2.2.2.2.2.2.1,v17,x1.2.2.2.2.2.2.2.2⟩ : aW)
    )
def nZ (a0 : aW) (a1 : Int) : Option aW :=
  bno (eO a0) fun x1 =>
  bno (hG a0) fun x2 =>
  bnd (!decide (x2 = 0)) fun x3 =>
  bif x3 then (
    some (⟨x1.1,x1.2.1,x1.2.2.1,x1.2.2.2.1,x1.2.2.2.2.1,x1.2.2.2.2.2.1,x1.2.2.2.2.2.2.1,x1.2.2.2.2.2.2.2.1,x1.2.2.2.2.2.2.2.2⟩ : aW)
  ) else (
    gF a0 a1 x1 fuel 0 x1.2.2.2.2.1 x1.2.2.2.2.2.2.2.1
  )

def lP (a0 : aJ) : Option Bool :=
  bnd (decide (a0.From = a0.To)) fun x1 =>
  bnd (x1 && (!a0.Fin)) fun x2 =>
  some x2

def cH (a0 : (List aJ)) : Nat → Int → Option Int
  | 0,_=>none
  | n0 + 1, v7 =>
    bnd (decide (v7 < (a0.length : Int))) fun x14 =>
    bif x14 then (
      bno (gix a0 v7) fun x16 =>
      bno (lP x16) fun x17 =>
      bif x17 then (
        some v7
      ) else (
        bnd (IntKind.wrap .i64 (v7 + 1)) fun x19 =>
        (cH a0 n0) x19
      )
    ) else (
      some (-1)
    )
def dU (a0 : (List aJ)) : Option Int :=
  cH a0 fuel 0

def bX  : Nat → (List aJ) → Int → Int → Option (List aJ)
  | 0,_,_,_=>none
  | n0 + 1, v17, v18, v19 =>
    bnd (decide (v19 < (v17.length : Int))) fun x32 =>
    bif x32 then (
      bno (gix v17 v19) fun x34 =>
      bno (v17[(v19 : Int).toNat]?) fun x35 =>
      bno (lP x35) fun x36 =>
      bif (!x36) then (
        bno (gix v17 v18) fun x38 =>
        bno (v17[(v18 : Int).toNat]?) fun x39 =>
        bnd (v17.set ((v18 : Int).toNat) x35) fun x40 =>
        bnd (IntKind.wrap .i64 (v18 + 1)) fun x41 =>
        bnd (IntKind.wrap .i64 (v19 + 1)) fun x42 =>
        (bX n0) x40 x41 x42
      ) else (
        bnd (IntKind.wrap .i64 (v19 + 1)) fun x43 =>
        (bX n0) v17 v18 x43
      )
    ) else (
      bno (cut v17 0 v18) fun x44 =>
      bno (cut x44 0 v18) fun x45 =>
      some x45
    )
def cW (a0 : (List aJ)) : Option (List aJ) :=
  bno (dU a0) fun x1 =>
  bnd (decide (x1 = (-1))) fun x2 =>
  bif x2 then (
    some a0
  ) else (
    bnd (IntKind.wrap .i64 (x1 + 1)) fun x4 =>
    bX fuel a0 x1 x4
  )

def iA (a0 : aW) (a2 : Bool) (x1 : (Int × (List UInt8) × Int × (List aJ) × (List aG) × Bool × Bool × Bool × Bool)) (x14 : Int) : Nat → Int → (List aJ) → Option aW
  | 0,_,_=>none
  | n0 + 1, v31, v32 =>
    bnd (decide (v31 < (x1.2.2.2.1.length : Int))) fun x49 =>
    bif x49 then (
      bno (gix v32 v31) fun x51 =>
      bno (v32[(v31 : Int).toNat]?) fun x52 =>
      bnd (max x52.From x14) fun x53 =>
      bno (v32[(v31 : Int).toNat]?) fun x54 =>
      bnd (max x54.To x14) fun x55 =>
      bno (v32[(v31 : Int).toNat]?) fun x56 =>
      bnd (v32.set ((v31 : Int).toNat) (⟨x53,x56.To,x56.Path,x56.Fin⟩ : aJ)) fun x57 =>
      bno (x57[(v31 : Int).toNat]?) fun x58 =>
      bnd (x57.set ((v31 : Int).toNat) (⟨x58.From,x55,x58.Path,x58.Fin⟩ : aJ)) fun x59 =>
      bno (x59[(v31 : Int).toNat]?) fun x60 =>
      bnd (x60.Fin && (!a2)) fun x61 =>
      bno (x59[(v31 : Int).toNat]?) fun x62 =>
      bnd (x59.set ((v31 : Int).toNat) (⟨x62.From,x62.To,x62.Path,x61⟩ : aJ)) fun x63 =>
      bnd (IntKind.wrap .i64 (v31 + 1)) fun x64 =>
      (iA a0 a2 x1 x14 n0) x64 x63
    ) else (
      bno (cW v32) fun x65 =>
      bnd (IntKind.wrap .i64 (x14 - a0.Base)) fun x66 =>
      bno (cut a0.Data x66 (a0.Data.length : Int)) fun x67 =>
      bno (lV x1.2.2.2.2.1 (⟨0,x14⟩ : aG)) fun x68 =>
      bif a2 then (
        some (⟨x14,x67,x1.2.2.1,x65,x68,x1.2.2.2.2.2.1,x1.2.2.2.2.2.2.1,false,true⟩ : aW)
      ) else (
        some (⟨x14,x67,x1.2.2.1,x65,x68,x1.2.2.2.2.2.1,x1.2.2.2.2.2.2.1,x1.2.2.2.2.2.2.2.1,x1.2.2.2.2.2.2.2.2⟩ : aW)
      )
    )
def mQ (a0 : aW) (a1 : Int) (a2 : Bool) : Option aW :=
  bno (eO a0) fun x1 =>
  bno (hG a0) fun x2 =>
  bnd (!decide (x2 = 0)) fun x3 =>
  bnd (decide (a1 < 0)) fun x4 =>
  bnd (x3 || x4) fun x5 =>
  bnd (decide (a0.Next < a1)) fun x6 =>
  bnd (x5 || x6) fun x7 =>
  bno (gd ((x7 == false) && (a2 == true)) (eI a0) default) fun x8 =>
  bnd (!decide (a1 = x8)) fun x9 =>
  bnd (x9 || (!a0.Sent)) fun x10 =>
  bnd (a2 && x10) fun x11 =>
  bnd (x7 || x11) fun x12 =>
  bif x12 then (
    some (⟨x1.1,x1.2.1,x1.2.2.1,x1.2.2.2.1,x1.2.2.2.2.1,x1.2.2.2.2.2.1,x1.2.2.2.2.2.2.1,x1.2.2.2.2.2.2.2.1,x1.2.2.2.2.2.2.2.2⟩ : aW)
  ) else (
    bnd (max a1 a0.Base) fun x14 =>
    iA a0 a2 x1 x14 fuel 0 x1.2.2.2.1
  )

def sJ (a0 : aW) : Option Bool :=
  bnd (decide (a0.Data = ([] : List UInt8))) fun x1 =>
  bnd (a0.Done && x1) fun x2 =>
  some x2

def sH (a0 : aW) (a1 : Int) : Option Bool :=
  bno (hG a0) fun x1 =>
  bnd (!decide (x1 = 0)) fun x2 =>
  bif x2 then (
    some false
  ) else (
    bno (gZ a0 1 a1) fun x4 =>
    some x4.2
  )

def dI (a0 : (List aJ)) (a1 : (List aJ)) : Nat → Int → Option Bool
  | 0,_=>none
  | n0 + 1, v10 =>
    bnd (decide (v10 < (a0.length : Int))) fun x18 =>
    bif x18 then (
      bno (gix a0 v10) fun x20 =>
      bno (gix a1 v10) fun x21 =>
      bnd ((decide (x20.From = x21.From) && (decide (x20.To = x21.To) && (decide (x20.Path = x21.Path) && ((x20.Fin == x21.Fin) && true))))) fun x22 =>
      bif (!x22) then (
        some false
      ) else (
        bnd (IntKind.wrap .i64 (v10 + 1)) fun x24 =>
        (dI a0 a1 n0) x24
      )
    ) else (
      some true
    )
def eR (a0 : (List aJ)) (a1 : (List aJ)) : Option Bool :=
  bnd (!decide ((a0.length : Int) = (a1.length : Int))) fun x1 =>
  bif x1 then (
    some false
  ) else (
    dI a0 a1 fuel 0
  )

def sI (a0 : aW) (a1 : aW) : Option Bool :=
  bno (eR a0.Pieces a1.Pieces) fun x1 =>
  bno (gd ((!x1) == false) (lJ a0.Lost a1.Lost) default) fun x2 =>
  bnd ((!x1) || (!x2)) fun x3 =>
  bif x3 then (
    some false
  ) else (
    bnd (a0.Closed == a1.Closed) fun x5 =>
    bnd (a0.Sent == a1.Sent) fun x6 =>
    bnd (x5 && x6) fun x7 =>
    bnd (a0.Again == a1.Again) fun x8 =>
    bnd (x7 && x8) fun x9 =>
    bnd (a0.Done == a1.Done) fun x10 =>
    bnd (x9 && x10) fun x11 =>
    bnd (decide (a0.Base = a1.Base)) fun x12 =>
    bnd (x11 && x12) fun x13 =>
    bnd (decide (a0.Data = a1.Data)) fun x14 =>
    bnd (x13 && x14) fun x15 =>
    bnd (decide (a0.Next = a1.Next)) fun x16 =>
    bnd (x15 && x16) fun x17 =>
    some x17
  )

end Go.Fn
open Go Go.IL
namespace Go.Fn
structure cC where
  Kind : Int
  N : Int
  Path : Int
  Text : (List UInt8)
  deriving DecidableEq,Inhabited
def cP : Enc cC:=⟨⟨fun x=>.agg [.int .u8 x.Kind,.int .u8 x.N,.int .u8 x.Path,.str x.Text],4,by decide,fun _=>⟨rfl,rfl⟩⟩,fun _=>rfl⟩

structure aN where
  At : Int
  Data : (List UInt8)
  deriving DecidableEq,Inhabited
def aL : Enc aN:=⟨⟨fun x=>.agg [.int .i64 x.At,.str x.Data],2,by decide,fun _=>⟨rfl,rfl⟩⟩,fun _=>rfl⟩

structure bJ where
  Base : Int
  Ready : (List UInt8)
  Parts : (List aN)
  deriving DecidableEq,Inhabited
structure bV where
  Recv : bJ
  End : Int
  deriving DecidableEq,Inhabited
structure bE where
  Window : Int
  Limit : Int
  Used : Int
  Read : Int
  deriving DecidableEq,Inhabited
structure aR where
  ID : Int
  Send : aW
  Recv : bV
  Out : bE
  In : bE
  Mine : Int
  Hers : Int
  deriving DecidableEq,Inhabited
structure fI where
  State : bJ
  end_ : Int
  deriving DecidableEq,Inhabited
structure bL where
  at_ : Int
  s : (List UInt8)
  fin : Bool
  deriving DecidableEq,Inhabited
def aO : Enc bL:=⟨⟨fun x=>.agg [.int .i64 x.at_,.str x.s,.bool x.fin],3,by decide,fun _=>⟨rfl,rfl⟩⟩,fun _=>rfl⟩

structure gQ where
  a : aR
  b : aR
  went : (List bL)
  wrote : (List UInt8)
  read : (List UInt8)
  given : Int
  end_ : Bool
  deriving DecidableEq,Inhabited
def eL (a0 : (List cC)) : Nat → Int → Option Bool
  | 0,_=>none
  | n0 + 1, v9 =>
    bnd (decide (v9 < (a0.length : Int))) fun x16 =>
    bif x16 then (
      bno (gix a0 v9) fun x18 =>
      bnd (decide (100 < (x18.Text.length : Int))) fun x19 =>
      bif x19 then (
        some false
      ) else (
        bnd (IntKind.wrap .i64 (v9 + 1)) fun x21 =>
        (eL a0 n0) x21
      )
    ) else (
      some true
    )
def gY (a0 : (List cC)) (a1 : Int) : Option Bool :=
  bnd (decide (a1 < (a0.length : Int))) fun x1 =>
  bif x1 then (
    some false
  ) else (
    eL a0 fuel 0
  )

def fL (a0 : bE) : Option Int :=
  bnd (decide (0 ≤ a0.Read)) fun x1 =>
  bnd (decide (a0.Read ≤ a0.Used)) fun x2 =>
  bnd (x1 && x2) fun x3 =>
  bnd (decide (a0.Used ≤ a0.Limit)) fun x4 =>
  bnd (x3 && x4) fun x5 =>
  bnd (decide (a0.Limit ≤ 1099511627776)) fun x6 =>
  bnd (x5 && x6) fun x7 =>
  bnd (decide (a0.Window < 1)) fun x8 =>
  bnd ((!x7) || x8) fun x9 =>
  bnd (decide (1048576 < a0.Window)) fun x10 =>
  bnd (x9 || x10) fun x11 =>
  bif x11 then (
    some 8
  ) else (
    some 0
  )

def lL (a0 : Int) : Option (bE × Int) :=
  bno (fL (⟨a0,a0,0,0⟩ : bE)) fun x1 =>
  bnd (!decide (x1 = 0)) fun x2 =>
  bif x2 then (
    some ((⟨0,0,0,0⟩ : bE),x1)
  ) else (
    some ((⟨a0,a0,0,0⟩ : bE),0)
  )

def sK  : Option bJ :=
  some (⟨0,[],[]⟩ : bJ)

def uR  : Option bV :=
  bno (sK) fun x1 =>
  some (⟨x1,(-1)⟩ : bV)

def lB (a0 : Int) (a1 : Int) (a2 : Int) : Option (aR × Int) :=
  bno (lL a1) fun x1 =>
  bno (lL a2) fun x2 =>
  bnd (!decide (x1.2 = 0)) fun x3 =>
  bnd (!decide (x2.2 = 0)) fun x4 =>
  bnd (x3 || x4) fun x5 =>
  bnd (decide (4096 < a2)) fun x6 =>
  bnd (x5 || x6) fun x7 =>
  bnd (decide (a0 < 0)) fun x8 =>
  bnd (x7 || x8) fun x9 =>
  bnd (decide (1048576 < a0)) fun x10 =>
  bnd (x9 || x10) fun x11 =>
  bif x11 then (
    some (((⟨0,(⟨0,[],0,[],[],false,false,false,false⟩ : aW),(⟨(⟨0,[],[]⟩ : bJ),0⟩ : bV),(⟨0,0,0,0⟩ : bE),(⟨0,0,0,0⟩ : bE),0,0⟩ : aR),8))
  ) else (
    bno (uP) fun x13 =>
    bno (uR) fun x14 =>
    some (((⟨a0,x13,x14,x1.1,x2.1,(-1),(-1)⟩ : aR),0))
  )

def mK (a0 : Int) (a1 : Int) (a2 : Int) : Option Bool :=
  bnd (decide (a1 ≤ a0)) fun x1 =>
  bnd (decide (a0 ≤ a2)) fun x2 =>
  bnd (x1 && x2) fun x3 =>
  some x3

def kI (a0 : bJ) : Option Int :=
  bnd (IntKind.wrap .i64 (a0.Base - (a0.Ready.length : Int))) fun x1 =>
  bnd (IntKind.wrap .i64 (x1 + 4096)) fun x2 =>
  bnd (min x2 1099511627776) fun x3 =>
  some x3

def eN (a0 : aN) : Option Int :=
  bnd (IntKind.wrap .i64 (a0.At + (a0.Data.length : Int))) fun x1 =>
  some x1

def fR (a0 : bJ) (x8 : Int) : Nat → Int → Int → Option Int
  | 0,_,_=>none
  | n0 + 1, v23, v24 =>
    bnd (decide (v24 < (a0.Parts.length : Int))) fun x39 =>
    bif x39 then (
      bno (gix a0.Parts v24) fun x41 =>
      bnd (decide (x41.At ≤ v23)) fun x42 =>
      bnd (decide (x41.Data = ([] : List UInt8))) fun x43 =>
      bnd (x42 || x43) fun x44 =>
      bnd (decide (x8 < x41.At)) fun x45 =>
      bnd (x44 || x45) fun x46 =>
      bnd (IntKind.wrap .i64 (x8 - x41.At)) fun x47 =>
      bnd (decide (x47 < (x41.Data.length : Int))) fun x48 =>
      bnd (x46 || x48) fun x49 =>
      bif x49 then (
        some 10
      ) else (
        bno (eN x41) fun x51 =>
        bnd (IntKind.wrap .i64 (v24 + 1)) fun x52 =>
        (fR a0 x8 n0) x51 x52
      )
    ) else (
      some 0
    )
def jN (a0 : bJ) : Option Int :=
  bnd (decide (a0.Base < 0)) fun x1 =>
  bnd (decide (1099511627776 < a0.Base)) fun x2 =>
  bnd (x1 || x2) fun x3 =>
  bnd (min a0.Base 4096) fun x4 =>
  bnd (decide (x4 < (a0.Ready.length : Int))) fun x5 =>
  bnd (x3 || x5) fun x6 =>
  bif x6 then (
    some 8
  ) else (
    bno (kI a0) fun x8 =>
    fR a0 x8 fuel a0.Base 0
  )

def kS (a0 : bV) : Option fI :=
  some (⟨a0.Recv,a0.End⟩ : fI)

def gD (a0 : fI) : Option Int :=
  bnd (decide (0 < (a0.State.Parts.length : Int))) fun x1 =>
  bif x1 then (
    bnd (IntKind.wrap .i64 ((a0.State.Parts.length : Int) - 1)) fun x3 =>
    bno (gix a0.State.Parts x3) fun x4 =>
    bnd (IntKind.wrap .i64 ((a0.State.Parts.length : Int) - 1)) fun x5 =>
    bno (gix a0.State.Parts x5) fun x6 =>
    bnd (IntKind.wrap .i64 (x4.At + (x6.Data.length : Int))) fun x7 =>
    some x7
  ) else (
    some a0.State.Base
  )

def mT (a0 : bV) : Option Int :=
  bno (kS a0) fun x1 =>
  bno (gD x1) fun x2 =>
  some x2

def jT (a0 : bV) : Option Int :=
  bno (jN a0.Recv) fun x1 =>
  bnd (!decide (x1 = 0)) fun x2 =>
  bif x2 then (
    some x1
  ) else (
    bnd (!decide (a0.End = (-1))) fun x4 =>
    bno (gd (x4 == true) (mT a0) default) fun x5 =>
    bnd (decide (a0.End < x5)) fun x6 =>
    bnd (decide (1099511627776 < a0.End)) fun x7 =>
    bnd (x6 || x7) fun x8 =>
    bnd (x4 && x8) fun x9 =>
    bif x9 then (
      some 8
    ) else (
      some 0
    )
  )

def jI (a0 : aR) : Option Int :=
  bno (fL a0.Out) fun x1 =>
  bnd (!decide (x1 = 0)) fun x2 =>
  bif x2 then (
    some x1
  ) else (
    bno (fL a0.In) fun x4 =>
    bnd (!decide (x4 = 0)) fun x5 =>
    bif x5 then (
      some x4
    ) else (
      bno (hG a0.Send) fun x7 =>
      bnd (!decide (x7 = 0)) fun x8 =>
      bif x8 then (
        some x7
      ) else (
        bno (jT a0.Recv) fun x10 =>
        some x10
      )
    )
  )

def jJ (a0 : aR) : Option Bool :=
  bno (mT a0.Recv) fun x1 =>
  bnd (max a0.Recv.End x1) fun x2 =>
  bnd (IntKind.wrap .i64 (a0.Recv.Recv.Base - (a0.Recv.Recv.Ready.length : Int))) fun x3 =>
  bnd (decide (a0.Out.Used = a0.Send.Next)) fun x4 =>
  bnd (decide (a0.In.Used = x2)) fun x5 =>
  bnd (x4 && x5) fun x6 =>
  bnd (decide (a0.In.Read = x3)) fun x7 =>
  bnd (x6 && x7) fun x8 =>
  bnd (IntKind.wrap .i64 (x3 + a0.In.Window)) fun x9 =>
  bnd (decide (a0.In.Limit ≤ x9)) fun x10 =>
  bnd (x8 && x10) fun x11 =>
  some x11

def iI (a0 : aR) : Option Int :=
  bno (mK a0.ID 0 1048576) fun x1 =>
  bno (gd ((!x1) == false) (mK a0.Mine (-1) 255) default) fun x2 =>
  bnd ((!x1) || (!x2)) fun x3 =>
  bno (gd (x3 == false) (mK a0.Hers (-1) 255) default) fun x4 =>
  bnd (x3 || (!x4)) fun x5 =>
  bnd (decide (4096 < a0.In.Window)) fun x6 =>
  bnd (x5 || x6) fun x7 =>
  bif x7 then (
    some 8
  ) else (
    bno (jI a0) fun x9 =>
    bnd (!decide (x9 = 0)) fun x10 =>
    bif x10 then (
      some x9
    ) else (
      bno (jJ a0) fun x12 =>
      bif (!x12) then (
        some 4
      ) else (
        some 0
      )
    )
  )

def jE (a0 : aR) : Option Bool :=
  bnd (!decide (a0.Mine = (-1))) fun x1 =>
  bnd (!decide (a0.Hers = (-1))) fun x2 =>
  bnd (x1 || x2) fun x3 =>
  some x3

def eA (a0 : aR) : Option Int :=
  bno (iI a0) fun x1 =>
  bnd (!decide (x1 = 0)) fun x2 =>
  bif x2 then (
    some x1
  ) else (
    bno (jE a0) fun x4 =>
    bif x4 then (
      some 15
    ) else (
      some 0
    )
  )

def gX (a0 : aR) : Option Int :=
  bno (eA a0) fun x1 =>
  bnd (!decide (x1 = 0)) fun x2 =>
  bif x2 then (
    some x1
  ) else (
    bif a0.Send.Closed then (
      some 9
    ) else (
      some 0
    )
  )

def lG (a0 : aR) (a1 : (List UInt8)) : Option (aR × Int × Int) :=
  bno (gX a0) fun x1 =>
  bnd (!decide (x1 = 0)) fun x2 =>
  bif x2 then (
    some (a0,0,x1)
  ) else (
    bno (mO a0.Send a1) fun x4 =>
    some ((⟨a0.ID,x4.1,a0.Recv,a0.Out,a0.In,a0.Mine,a0.Hers⟩ : aR),x4.2,0)
  )

def iG (a0 : aR) (a1 : Int) : Option Int :=
  bnd (IntKind.wrap .i64 (a0.Out.Limit - a0.Send.Next)) fun x1 =>
  bnd (min a1 x1) fun x2 =>
  bnd (IntKind.wrap .i64 (a0.Send.Next + x2)) fun x3 =>
  some x3

def kP (a0 : aR) (a1 : Int) (a2 : Int) (a3 : Int) : Option (aR × aJ × (List UInt8) × Bool) :=
  bnd (decide (a3 < 0)) fun x1 =>
  bno (gd (x1 == false) (eA a0) default) fun x2 =>
  bnd (!decide (x2 = 0)) fun x3 =>
  bnd (x1 || x3) fun x4 =>
  bif x4 then (
    some (a0,(⟨0,0,0,false⟩ : aJ),[],false)
  ) else (
    bno (iG a0 a3) fun x6 =>
    bno (kB a0.Send a1 a2 x6) fun x7 =>
    some ((⟨a0.ID,x7.1,a0.Recv,(⟨a0.Out.Window,a0.Out.Limit,x7.1.Next,a0.Out.Read⟩ : bE),a0.In,a0.Mine,a0.Hers⟩ : aR),x7.2.1,x7.2.2.1,x7.2.2.2)
  )

def kX (a0 : bE) (a1 : Int) : Option (bE × Int × Bool) :=
  bnd (decide (a1 < 0)) fun x1 =>
  bnd (decide (a0.Limit < a1)) fun x2 =>
  bnd (x1 || x2) fun x3 =>
  bno (gd (x3 == false) (fL a0) default) fun x4 =>
  bnd (!decide (x4 = 0)) fun x5 =>
  bnd (x3 || x5) fun x6 =>
  bif x6 then (
    some (a0,0,false)
  ) else (
    bnd (max a0.Used a1) fun x8 =>
    bnd (IntKind.wrap .i64 (x8 - a0.Used)) fun x9 =>
    some ((⟨a0.Window,a0.Limit,x8,a0.Read⟩ : bE),x9,true)
  )

def fW (a0 : fI) : Option Bool :=
  bnd (decide (0 ≤ a0.end_)) fun x1 =>
  some x1

def gK (a0 : fI) (a1 : Int) (a2 : Bool) : Option Bool :=
  bno (fW a0) fun x1 =>
  bif x1 then (
    bnd (decide (a0.end_ < a1)) fun x3 =>
    bnd (decide (a1 < a0.end_)) fun x4 =>
    bnd (a2 && x4) fun x5 =>
    bnd (x3 || x5) fun x6 =>
    some x6
  ) else (
    bno (gd (a2 == true) (gD a0) default) fun x7 =>
    bnd (decide (a1 < x7)) fun x8 =>
    bnd (a2 && x8) fun x9 =>
    some x9
  )

def dC (a0 : (List aN)) : Option (List aN) :=
  vN a0 (
    some []
  ) (
    bno (app 24 ([] : (List aN)) a0) fun x3 =>
    some x3
  )

def gJ (a0 : bJ) : Nat → Int → Int → Option Int
  | 0,_,_=>none
  | n0 + 1, v6, v7 =>
    bnd (decide (v7 < (a0.Parts.length : Int))) fun x13 =>
    bif x13 then (
      bno (gix a0.Parts v7) fun x15 =>
      bnd (IntKind.wrap .i64 (v6 + (x15.Data.length : Int))) fun x16 =>
      bnd (IntKind.wrap .i64 (v7 + 1)) fun x17 =>
      (gJ a0 n0) x16 x17
    ) else (
      some v6
    )
def mS (a0 : bJ) : Option Int :=
  gJ a0 fuel (a0.Ready.length : Int) 0

def hM (a0 : (List aN)) (v10 : (List aN)) (v102 : Int) (v103 : Int) (v104 : (List UInt8)) : Option (List aN) :=
  bno (app 24 v10 (([(⟨v103,v104⟩ : aN)] : (List aN)))) fun x105 =>
  bno (cut a0 v102 (a0.length : Int)) fun x106 =>
  bno (app 24 x105 x106) fun x107 =>
  some x107
def eM (a0 : (List aN)) (v10 : (List aN)) : Nat → Int → Int → (List UInt8) → Option (List aN)
  | 0,_,_,_=>none
  | n3 + 1, v131, v132, v133 =>
    bnd (decide (v131 < (a0.length : Int))) fun x157 =>
    bif x157 then (
      bno (gix a0 v131) fun x159 =>
      bno (eN (⟨v132,v133⟩ : aN)) fun x160 =>
      bnd (decide (x160 < x159.At)) fun x161 =>
      bif x161 then (
        hM a0 v10 v131 v132 v133
      ) else (
        bnd (decide (x159.At ≤ v132)) fun x163 =>
        bif x163 then (
          bno (eN x159) fun x165 =>
          bnd (IntKind.wrap .i64 (x165 - v132)) fun x166 =>
          bnd (min (v133.length : Int) x166) fun x167 =>
          bno (cut v133 x167 (v133.length : Int)) fun x168 =>
          bno (cat x159.Data x168) fun x169 =>
          bnd (IntKind.wrap .i64 (v131 + 1)) fun x170 =>
          (eM a0 v10 n3) x170 x159.At x169
        ) else (
          bnd (IntKind.wrap .i64 (x159.At - v132)) fun x171 =>
          bno (cut v133 0 x171) fun x172 =>
          bno (cat x172 x159.Data) fun x173 =>
          bno (eN x159) fun x174 =>
          bnd (IntKind.wrap .i64 (x174 - v132)) fun x175 =>
          bnd (min (v133.length : Int) x175) fun x176 =>
          bno (cut v133 x176 (v133.length : Int)) fun x177 =>
          bno (cat x173 x177) fun x178 =>
          bnd (IntKind.wrap .i64 (v131 + 1)) fun x179 =>
          (eM a0 v10 n3) x179 v132 x178
        )
      )
    ) else (
      hM a0 v10 v131 v132 v133
    )
def fJ (a0 : (List aN)) (a1 : aN) : Nat → (List aN) → Int → Option (List aN)
  | 0,_,_=>none
  | n0 + 1, v10, v11 =>
    bnd (decide (v11 < (a0.length : Int))) fun x21 =>
    bno (gd (x21 == true) (gix a0 v11) default) fun x22 =>
    bno (gd (x21 == true) (eN x22) default) fun x23 =>
    bnd (decide (x23 < a1.At)) fun x24 =>
    bnd (x21 && x24) fun x25 =>
    bif x25 then (
      bno (gix a0 v11) fun x27 =>
      bno (app 24 v10 ([x27] : (List aN))) fun x28 =>
      bnd (IntKind.wrap .i64 (v11 + 1)) fun x29 =>
      (fJ a0 a1 n0) x28 x29
    ) else (
      eM a0 v10 fuel v11 a1.At a1.Data
    )
def kR (a0 : (List aN)) (a1 : aN) : Option (List aN) :=
  fJ a0 a1 fuel ([] : (List aN)) 0

def dS (a0 : Int) (a1 : Int) (a2 : (List aN)) : Option (List aN):=delS a2 a0 a1

def jS (x24 : Int) (v33 : Int) (v34 : (List UInt8)) (v35 : (List aN)) : Option (bJ × Int) :=
  bno (mS (⟨v33,v34,v35⟩ : bJ)) fun x36 =>
  bnd (IntKind.wrap .i64 (x36 - x24)) fun x37 =>
  some ((⟨v33,v34,v35⟩ : bJ),x37)
def iB (a0 : bJ) (x1 : (List aN)) (v20 : Int) (v21 : (List UInt8)) : Option (bJ × Int) :=
  bnd (decide (v21 = ([] : List UInt8))) fun x22 =>
  bif x22 then (
    some ((⟨a0.Base,a0.Ready,x1⟩ : bJ),0)
  ) else (
    bno (mS (⟨a0.Base,a0.Ready,x1⟩ : bJ)) fun x24 =>
    bno (kR x1 (⟨v20,v21⟩ : aN)) fun x25 =>
    bno (gix x25 0) fun x38 =>
    bno (x25[(0 : Int).toNat]?) fun x39 =>
    bnd (decide (x39.At = a0.Base)) fun x40 =>
    bif x40 then (
      bno (eN x39) fun x42 =>
      bno (cat a0.Ready x39.Data) fun x43 =>
      bno (dS 0 1 x25) fun x44 =>
      jS x24 x42 x43 x44
    ) else (
      jS x24 a0.Base a0.Ready x25
    )
  )
def oB (a0 : bJ) (a1 : Int) (a2 : (List UInt8)) : Option (bJ × Int) :=
  bno (dC a0.Parts) fun x1 =>
  bnd (decide (a1 < 0)) fun x2 =>
  bnd (decide (1099511627776 < a1)) fun x3 =>
  bnd (x2 || x3) fun x4 =>
  bno (gd (x4 == false) (jN (⟨a0.Base,a0.Ready,x1⟩ : bJ)) default) fun x5 =>
  bnd (!decide (x5 = 0)) fun x6 =>
  bnd (x4 || x6) fun x7 =>
  bif x7 then (
    some ((⟨a0.Base,a0.Ready,x1⟩ : bJ),0)
  ) else (
    bno (kI (⟨a0.Base,a0.Ready,x1⟩ : bJ)) fun x9 =>
    bnd (decide (x9 ≤ a1)) fun x10 =>
    bif x10 then (
      some ((⟨a0.Base,a0.Ready,x1⟩ : bJ),0)
    ) else (
      bnd (IntKind.wrap .i64 (x9 - a1)) fun x12 =>
      bnd (min (a2.length : Int) x12) fun x13 =>
      bno (cut a2 0 x13) fun x14 =>
      bnd (decide (a1 < a0.Base)) fun x45 =>
      bif x45 then (
        bnd (IntKind.wrap .i64 (a0.Base - a1)) fun x47 =>
        bnd (min (x14.length : Int) x47) fun x48 =>
        bno (cut x14 x48 (x14.length : Int)) fun x49 =>
        iB a0 x1 a0.Base x49
      ) else (
        iB a0 x1 a1 x14
      )
    )
  )

def nH (x13 : (bJ × Int)) (v15 : Int) : Option (bV × Int × Int) :=
  some ((⟨x13.1,v15⟩ : bV),x13.2,0)
def pU (a0 : bV) (a1 : Int) (a2 : (List UInt8)) (a3 : Bool) : Option (bV × Int × Int) :=
  bnd (decide (a1 < 0)) fun x1 =>
  bnd (IntKind.wrap .i64 (1099511627776 - (a2.length : Int))) fun x2 =>
  bnd (decide (x2 < a1)) fun x3 =>
  bnd (x1 || x3) fun x4 =>
  bno (gd (x4 == false) (jT a0) default) fun x5 =>
  bnd (!decide (x5 = 0)) fun x6 =>
  bnd (x4 || x6) fun x7 =>
  bif x7 then (
    some (a0,0,2)
  ) else (
    bnd (IntKind.wrap .i64 (a1 + (a2.length : Int))) fun x9 =>
    bno (kS a0) fun x10 =>
    bno (gK x10 x9 a3) fun x11 =>
    bif x11 then (
      some (a0,0,5)
    ) else (
      bno (oB a0.Recv a1 a2) fun x13 =>
      bif a3 then (
        nH x13 x9
      ) else (
        nH x13 a0.End
      )
    )
  )

def fD (a0 : aR) (a1 : Int) (a2 : (List UInt8)) (a3 : Bool) : Option (aR × Int × Int) :=
  bno (eA a0) fun x1 =>
  bnd (!decide (x1 = 0)) fun x2 =>
  bnd (decide (a2 = ([] : List UInt8))) fun x3 =>
  bnd (x3 && (!a3)) fun x4 =>
  bnd (x2 || x4) fun x5 =>
  bif x5 then (
    some (a0,0,0)
  ) else (
    bno (mK a1 0 1099511627776) fun x7 =>
    bif (!x7) then (
      some (a0,0,3)
    ) else (
      bnd (IntKind.wrap .i64 (a1 + (a2.length : Int))) fun x9 =>
      bno (kX a0.In x9) fun x10 =>
      bif (!x10.2.2) then (
        some (a0,0,3)
      ) else (
        bno (pU a0.Recv a1 a2 a3) fun x12 =>
        bnd (!decide (x12.2.2 = 0)) fun x13 =>
        bif x13 then (
          some (a0,0,x12.2.2)
        ) else (
          some ((⟨a0.ID,a0.Send,x12.1,a0.Out,x10.1,a0.Mine,a0.Hers⟩ : aR),x10.2.1,0)
        )
      )
    )
  )

def mR (a0 : bJ) (a1 : Int) : Option (bJ × (List UInt8)) :=
  bno (dC a0.Parts) fun x1 =>
  bnd (decide (a1 < 1)) fun x2 =>
  bno (gd (x2 == false) (jN (⟨a0.Base,a0.Ready,x1⟩ : bJ)) default) fun x3 =>
  bnd (!decide (x3 = 0)) fun x4 =>
  bnd (x2 || x4) fun x5 =>
  bif x5 then (
    some ((⟨a0.Base,a0.Ready,x1⟩ : bJ),[])
  ) else (
    bnd (min a1 (a0.Ready.length : Int)) fun x7 =>
    bno (cut a0.Ready 0 x7) fun x8 =>
    bno (cut a0.Ready x7 (a0.Ready.length : Int)) fun x9 =>
    some ((⟨a0.Base,x9,x1⟩ : bJ),x8)
  )

def oQ (a0 : bV) : Option Bool :=
  bno (kS a0) fun x1 =>
  bno (fW x1) fun x2 =>
  bnd (decide (x1.State.Base = x1.end_)) fun x3 =>
  bnd (x2 && x3) fun x4 =>
  bno (gd (x4 == true) (jT a0) default) fun x5 =>
  bnd (decide (x5 = 0)) fun x6 =>
  bnd (x4 && x6) fun x7 =>
  some x7

def lI (a0 : bV) : Option Bool :=
  bnd (decide (a0.Recv.Ready = ([] : List UInt8))) fun x1 =>
  bno (gd (x1 == true) (oQ a0) default) fun x2 =>
  bnd (x1 && x2) fun x3 =>
  some x3

def pT (a0 : bV) (a1 : Int) : Option (bV × (List UInt8) × Bool) :=
  bno (mR a0.Recv a1) fun x1 =>
  bno (lI (⟨x1.1,a0.End⟩ : bV)) fun x2 =>
  some ((⟨x1.1,a0.End⟩ : bV),x1.2,x2)

def nC (a0 : bE) (a1 : Int) : Option bE :=
  bno (fL a0) fun x1 =>
  bnd (decide (x1 = 0)) fun x2 =>
  bnd (decide (0 < a1)) fun x3 =>
  bnd (x2 && x3) fun x4 =>
  bif x4 then (
    bnd (IntKind.wrap .i64 (a0.Used - a0.Read)) fun x6 =>
    bnd (min a1 x6) fun x7 =>
    bnd (IntKind.wrap .i64 (a0.Read + x7)) fun x8 =>
    some (⟨a0.Window,a0.Limit,a0.Used,x8⟩ : bE)
  ) else (
    some a0
  )

def lM (a0 : aR) (a1 : Int) : Option (aR × (List UInt8) × Bool × Int) :=
  bno (eA a0) fun x1 =>
  bnd (!decide (x1 = 0)) fun x2 =>
  bif x2 then (
    some (a0,[],false,x1)
  ) else (
    bno (pT a0.Recv a1) fun x4 =>
    bno (nC a0.In (x4.2.1.length : Int)) fun x5 =>
    some ((⟨a0.ID,a0.Send,x4.1,a0.Out,x5,a0.Mine,a0.Hers⟩ : aR),x4.2.1,x4.2.2,0)
  )

def mM (a0 : aR) : Option Int :=
  bnd (decide (0 ≤ a0.Recv.End)) fun x1 =>
  bif x1 then (
    some 3
  ) else (
    some 2
  )

def kY (a0 : bE) : Option (bE × Int) :=
  bno (fL a0) fun x1 =>
  bnd (!decide (x1 = 0)) fun x2 =>
  bif x2 then (
    some (a0,0)
  ) else (
    bnd (IntKind.wrap .i64 (a0.Read + a0.Window)) fun x4 =>
    bnd (min x4 1099511627776) fun x5 =>
    bnd (IntKind.wrap .i64 (x5 - a0.Limit)) fun x6 =>
    bno (quoI .i64 a0.Window 2) fun x7 =>
    bnd (max 1 x7) fun x8 =>
    bnd (decide (x6 < x8)) fun x9 =>
    bif x9 then (
      some (a0,0)
    ) else (
      bnd (IntKind.wrap .i64 (a0.Limit + x6)) fun x11 =>
      some ((⟨a0.Window,x11,a0.Used,a0.Read⟩ : bE),x6)
    )
  )

def kM (a0 : aR) (a1 : Int) : Option (aR × Int) :=
  bno (mM a0) fun x1 =>
  bnd (decide (x1 = 2)) fun x2 =>
  bif x2 then (
    bno (kY a0.In) fun x4 =>
    some ((⟨a0.ID,a0.Send,a0.Recv,a0.Out,x4.1,a0.Mine,a0.Hers⟩ : aR),x4.2)
  ) else (
    some (a0,a1)
  )

def fG (a0 : aR) (a1 : Int) : Option (aR × Int) :=
  bno (eA a0) fun x1 =>
  bnd (decide (x1 = 0)) fun x2 =>
  bif x2 then (
    bno (kM a0 a1) fun x4 =>
    some (x4.1,x4.2)
  ) else (
    some (a0,a1)
  )

def kG (a0 : aR) : Option (aR × Int) :=
  bno (fG a0 0) fun x1 =>
  some (x1.1,x1.2)

def sE (a0 : Int) : Option Bool :=
  bno (mK a0 0 255) fun x1 =>
  some x1

def nV (a0 : aR) (a1 : Int) : Option aR :=
  bnd (decide (a0.Hers = (-1))) fun x1 =>
  bno (gd (x1 == true) (sE a1) default) fun x2 =>
  bnd (x1 && x2) fun x3 =>
  bno (gd (x3 == true) (iI a0) default) fun x4 =>
  bnd (decide (x4 = 0)) fun x5 =>
  bnd (x3 && x5) fun x6 =>
  bif x6 then (
    some (⟨a0.ID,a0.Send,a0.Recv,a0.Out,a0.In,a0.Mine,a1⟩ : aR)
  ) else (
    some a0
  )

def kZ (a0 : bE) (a1 : Int) : Option (bE × Bool) :=
  bnd (decide (a1 < 1)) fun x1 =>
  bno (gd (x1 == false) (fL a0) default) fun x2 =>
  bnd (!decide (x2 = 0)) fun x3 =>
  bnd (x1 || x3) fun x4 =>
  bnd (IntKind.wrap .i64 (1099511627776 - a0.Limit)) fun x5 =>
  bnd (decide (x5 < a1)) fun x6 =>
  bnd (x4 || x6) fun x7 =>
  bif x7 then (
    some (a0,false)
  ) else (
    bnd (IntKind.wrap .i64 (a0.Limit + a1)) fun x9 =>
    some ((⟨a0.Window,x9,a0.Used,a0.Read⟩ : bE),true)
  )

def iX (a0 : aR) (a1 : Int) (a2 : Int) : Option (aR × Int) :=
  bno (kZ a0.Out a1) fun x1 =>
  bif (!x1.2) then (
    some ((⟨a0.ID,a0.Send,a0.Recv,x1.1,a0.In,a0.Mine,a0.Hers⟩ : aR),3)
  ) else (
    some ((⟨a0.ID,a0.Send,a0.Recv,x1.1,a0.In,a0.Mine,a0.Hers⟩ : aR),a2)
  )

def eP (a0 : aR) (a1 : Int) (a2 : Int) : Option (aR × Int) :=
  bno (eA a0) fun x1 =>
  bnd (decide (x1 = 0)) fun x2 =>
  bif x2 then (
    bno (iX a0 a1 a2) fun x4 =>
    some (x4.1,x4.2)
  ) else (
    some (a0,a2)
  )

def iY (a0 : aR) (a1 : Int) : Option (aR × Int) :=
  bno (eP a0 a1 0) fun x1 =>
  some (x1.1,x1.2)

def pR (a0 : aR) : Option Bool :=
  bno (jE a0) fun x1 =>
  bno (gd (x1 == false) (lI a0.Recv) default) fun x2 =>
  bno (gd ((x1 == false) && (x2 == true)) (sJ a0.Send) default) fun x3 =>
  bnd (x2 && x3) fun x4 =>
  bnd (x1 || x4) fun x5 =>
  some x5

def pP (a0 : aR) (a1 : Int) : Option Bool :=
  bnd (decide (0 ≤ a1)) fun x1 =>
  bno (gd (x1 == true) (eA a0) default) fun x2 =>
  bnd (decide (x2 = 0)) fun x3 =>
  bnd (x1 && x3) fun x4 =>
  bno (gd (x4 == true) (iG a0 a1) default) fun x5 =>
  bno (gd (x4 == true) (sH a0.Send x5) default) fun x6 =>
  bnd (x4 && x6) fun x7 =>
  some x7

def dJ (a0 : (List aN)) (a1 : (List aN)) : Nat → Int → Option Bool
  | 0,_=>none
  | n0 + 1, v10 =>
    bnd (decide (v10 < (a0.length : Int))) fun x18 =>
    bif x18 then (
      bno (gix a0 v10) fun x20 =>
      bno (gix a1 v10) fun x21 =>
      bnd ((decide (x20.At = x21.At) && (decide (x20.Data = x21.Data) && true))) fun x22 =>
      bif (!x22) then (
        some false
      ) else (
        bnd (IntKind.wrap .i64 (v10 + 1)) fun x24 =>
        (dJ a0 a1 n0) x24
      )
    ) else (
      some true
    )
def eS (a0 : (List aN)) (a1 : (List aN)) : Option Bool :=
  bnd (!decide ((a0.length : Int) = (a1.length : Int))) fun x1 =>
  bif x1 then (
    some false
  ) else (
    dJ a0 a1 fuel 0
  )

def qQ (a0 : bJ) (a1 : bJ) : Option Bool :=
  bnd (decide (a0.Base = a1.Base)) fun x1 =>
  bnd (decide (a0.Ready = a1.Ready)) fun x2 =>
  bnd (x1 && x2) fun x3 =>
  bno (gd (x3 == true) (eS a0.Parts a1.Parts) default) fun x4 =>
  bnd (x3 && x4) fun x5 =>
  some x5

def sO (a0 : bV) (a1 : bV) : Option Bool :=
  bnd (decide (a0.End = a1.End)) fun x1 =>
  bno (gd (x1 == true) (qQ a0.Recv a1.Recv) default) fun x2 =>
  bnd (x1 && x2) fun x3 =>
  some x3

def pQ (a0 : aR) (a1 : aR) : Option Bool :=
  bno (sI a0.Send a1.Send) fun x1 =>
  bno (gd ((!x1) == false) (sO a0.Recv a1.Recv) default) fun x2 =>
  bnd ((!x1) || (!x2)) fun x3 =>
  bif x3 then (
    some false
  ) else (
    bnd (decide (a0.ID = a1.ID)) fun x5 =>
    bnd ((decide (a0.Out.Window = a1.Out.Window) && (decide (a0.Out.Limit = a1.Out.Limit) && (decide (a0.Out.Used = a1.Out.Used) && (decide (a0.Out.Read = a1.Out.Read) && true))))) fun x6 =>
    bnd (x5 && x6) fun x7 =>
    bnd ((decide (a0.In.Window = a1.In.Window) && (decide (a0.In.Limit = a1.In.Limit) && (decide (a0.In.Used = a1.In.Used) && (decide (a0.In.Read = a1.In.Read) && true))))) fun x8 =>
    bnd (x7 && x8) fun x9 =>
    bnd (decide (a0.Mine = a1.Mine)) fun x10 =>
    bnd (x9 && x10) fun x11 =>
    bnd (decide (a0.Hers = a1.Hers)) fun x12 =>
    bnd (x11 && x12) fun x13 =>
    some x13
  )

def fV  : Option Bool :=
  bno (lB 1 10 10) fun x1 =>
  bno (lG x1.1 [104,101,108,108,111]) fun x2 =>
  bno (kP x2.1 0 3 99) fun x3 =>
  bno (lB 1 10 10) fun x4 =>
  bno (fD x4.1 0 x3.2.2.1 false) fun x5 =>
  bno (fD x5.1 9 [120,121] false) fun x6 =>
  bno (lM x5.1 9) fun x7 =>
  bno (kG x7.1) fun x8 =>
  bno (nV x8.1 8) fun x9 =>
  bno (kG x9) fun x10 =>
  bno (lM x10.1 1) fun x11 =>
  bno (iY x3.1 0) fun x12 =>
  bno (lB 1 10 4097) fun x13 =>
  bnd (decide (x1.2 = 0)) fun x14 =>
  bnd (decide (x2.2.1 = 5)) fun x15 =>
  bnd (x14 && x15) fun x16 =>
  bnd (decide (x2.2.2 = 0)) fun x17 =>
  bnd (x16 && x17) fun x18 =>
  bnd (x18 && x3.2.2.2) fun x19 =>
  bnd (decide (x3.2.1.To = 3)) fun x20 =>
  bnd (x19 && x20) fun x21 =>
  bnd (decide (x3.2.2.1 = ([104,101,108] : List UInt8))) fun x22 =>
  bnd (x21 && x22) fun x23 =>
  bnd (decide (x3.1.Out.Used = 3)) fun x24 =>
  bnd (x23 && x24) fun x25 =>
  bnd (decide (x4.2 = 0)) fun x26 =>
  bnd (x25 && x26) fun x27 =>
  bnd (decide (x5.2.1 = 3)) fun x28 =>
  bnd (x27 && x28) fun x29 =>
  bnd (decide (x5.2.2 = 0)) fun x30 =>
  bnd (x29 && x30) fun x31 =>
  bnd (decide (x6.2.2 = 3)) fun x32 =>
  bnd (x31 && x32) fun x33 =>
  bnd (decide (x7.2.1 = ([104,101,108] : List UInt8))) fun x34 =>
  bnd (x33 && x34) fun x35 =>
  bnd (x35 && (!x7.2.2.1)) fun x36 =>
  bnd (decide (x7.2.2.2 = 0)) fun x37 =>
  bnd (x36 && x37) fun x38 =>
  bnd (decide (x8.2 = 0)) fun x39 =>
  bnd (x38 && x39) fun x40 =>
  bnd (decide (x10.2 = 0)) fun x41 =>
  bnd (x40 && x41) fun x42 =>
  bnd (decide (x11.2.2.2 = 15)) fun x43 =>
  bnd (x42 && x43) fun x44 =>
  bnd (decide (x12.2 = 3)) fun x45 =>
  bnd (x44 && x45) fun x46 =>
  bno (gd (x46 == true) (pR x10.1) default) fun x47 =>
  bnd (x46 && x47) fun x48 =>
  bno (gd (x48 == true) (pR x8.1) default) fun x49 =>
  bnd (x48 && (!x49)) fun x50 =>
  bno (gd (x50 == true) (mM x8.1) default) fun x51 =>
  bnd (decide (x51 = 2)) fun x52 =>
  bnd (x50 && x52) fun x53 =>
  bno (gd (x53 == true) (pP x3.1 1) default) fun x54 =>
  bnd (x53 && x54) fun x55 =>
  bno (gd (x55 == true) (pP x3.1 0) default) fun x56 =>
  bnd (x55 && (!x56)) fun x57 =>
  bnd (decide (x13.2 = 8)) fun x58 =>
  bnd (x57 && x58) fun x59 =>
  bno (gd (x59 == true) (iI x8.1) default) fun x60 =>
  bnd (decide (x60 = 0)) fun x61 =>
  bnd (x59 && x61) fun x62 =>
  bno (gd (x62 == true) (pQ x8.1 x7.1) default) fun x63 =>
  bnd (x62 && x63) fun x64 =>
  bno (gd (x64 == true) (pQ x8.1 x10.1) default) fun x65 =>
  bnd (x64 && (!x65)) fun x66 =>
  bnd (bif x66 then true else false) fun x67 =>
  bnd (bif x67 then true else false) fun x68 =>
  bnd (bif x68 then true else false) fun x69 =>
  bnd (bif x69 then true else false) fun x70 =>
  some x70

def mL (a0 : aR) : Option (aR × Int) :=
  bno (gX a0) fun x1 =>
  bnd (!decide (x1 = 0)) fun x2 =>
  bif x2 then (
    some (a0,x1)
  ) else (
    bno (mP a0.Send) fun x4 =>
    some ((⟨a0.ID,x4,a0.Recv,a0.Out,a0.In,a0.Mine,a0.Hers⟩ : aR),0)
  )

def jY (a0 : aR) (a1 : Int) (a2 : Bool) : Option aR :=
  bno (mQ a0.Send a1 a2) fun x1 =>
  some (⟨a0.ID,x1,a0.Recv,a0.Out,a0.In,a0.Mine,a0.Hers⟩ : aR)

def fC (a0 : aR) (a1 : Int) (a2 : Bool) : Option aR :=
  bno (eA a0) fun x1 =>
  bnd (decide (x1 = 0)) fun x2 =>
  bif x2 then (
    bno (jY a0 a1 a2) fun x4 =>
    some x4
  ) else (
    some a0
  )

def lN (a0 : aR) (a1 : Int) (a2 : Bool) : Option aR :=
  bno (fC a0 a1 a2) fun x1 =>
  some x1

def nW (a0 : aR) (a1 : Int) : Option aR :=
  bno (iI a0) fun x1 =>
  bnd (decide (x1 = 0)) fun x2 =>
  bif x2 then (
    bno (nZ a0.Send a1) fun x4 =>
    some (⟨a0.ID,x4,a0.Recv,a0.Out,a0.In,a0.Mine,a0.Hers⟩ : aR)
  ) else (
    some a0
  )

def dM (a0 : gQ) (a1 : Int) : Option Bool :=
  bno (iI a0.a) fun x1 =>
  bnd (!decide (x1 = 0)) fun x2 =>
  bno (gd (x2 == false) (iI a0.b) default) fun x3 =>
  bnd (!decide (x3 = 0)) fun x4 =>
  bnd (x2 || x4) fun x5 =>
  bnd (decide ((a0.wrote.length : Int) < (a0.read.length : Int))) fun x6 =>
  bnd (x5 || x6) fun x7 =>
  bno (gd (x7 == false) (cut a0.wrote 0 (a0.read.length : Int)) []) fun x8 =>
  bnd (!decide (x8 = a0.read)) fun x9 =>
  bnd (x7 || x9) fun x10 =>
  bif x10 then (
    some false
  ) else (
    bnd (IntKind.wrap .i64 (a0.b.In.Used - a0.b.In.Read)) fun x12 =>
    bnd (decide (a1 < x12)) fun x13 =>
    bnd (IntKind.wrap .i64 (a0.a.Out.Limit + a0.given)) fun x14 =>
    bnd (!decide (x14 = a0.b.In.Limit)) fun x15 =>
    bnd (x13 || x15) fun x16 =>
    bnd (decide (a0.a.Out.Limit < a0.a.Out.Used)) fun x17 =>
    bnd (x16 || x17) fun x18 =>
    bif x18 then (
      some false
    ) else (
      bnd (decide (a0.read = a0.wrote)) fun x20 =>
      bnd (x20 && a0.a.Send.Closed) fun x21 =>
      bnd ((!a0.end_) || x21) fun x22 =>
      some x22
    )
  )

def bQ (a0 : cC) (a1 : Int) (a2 : Int) (a3 : (List UInt8)) (a4 : Int) (a5 : (List aJ)) (a6 : (List aG)) (a7 : Bool) (a8 : Bool) (a9 : Bool) (a10 : Bool) (a11 : Int) (a12 : (List UInt8)) (a13 : (List aN)) (a14 : Int) (a15 : Int) (a16 : Int) (a17 : Int) (a18 : Int) (a19 : Int) (a20 : Int) (a21 : Int) (a22 : Int) (a23 : Int) (a24 : Int) (a25 : Int) (a26 : Int) (a27 : (List UInt8)) (a28 : Int) (a29 : (List aJ)) (a30 : (List aG)) (a31 : Bool) (a32 : Bool) (a33 : Bool) (a34 : Bool) (a35 : Int) (a36 : (List UInt8)) (a37 : (List aN)) (a38 : Int) (a39 : Int) (a40 : Int) (a41 : Int) (a42 : Int) (a43 : Int) (a44 : Int) (a45 : Int) (a46 : Int) (a47 : Int) (a48 : Int) (a49 : (List UInt8)) (a50 : (List UInt8)) (a51 : Int) (a52 : Bool) (a53 : (List bL)) : Option (Bool × Int × Int × (List UInt8) × Int × (List aJ) × (List aG) × Bool × Bool × Bool × Bool × Int × (List UInt8) × (List aN) × Int × Int × Int × Int × Int × Int × Int × Int × Int × Int × Int × Int × Int × (List UInt8) × Int × (List aJ) × (List aG) × Bool × Bool × Bool × Bool × Int × (List UInt8) × (List aN) × Int × Int × Int × Int × Int × Int × Int × Int × Int × Int × Int × (List bL) × (List UInt8) × (List UInt8) × Int × Bool) :=
  bno (remI a0.Kind 8) fun x1 =>
  bnd (decide (x1 = 0)) fun x2 =>
  bif x2 then (
    bno (lG ((⟨a1,(⟨a2,a3,a4,a5,a6,a7,a8,a9,a10⟩ : aW),(⟨(⟨a11,a12,a13⟩ : bJ),a14⟩ : bV),(⟨a15,a16,a17,a18⟩ : bE),(⟨a19,a20,a21,a22⟩ : bE),a23,a24⟩ : aR)) a0.Text) fun x4 =>
    bnd (decide (x4.2.2 = 0)) fun x5 =>
    bnd (decide (x4.2.1 < 0)) fun x6 =>
    bnd (decide ((a0.Text.length : Int) < x4.2.1)) fun x7 =>
    bnd (x6 || x7) fun x8 =>
    bnd (x5 && x8) fun x9 =>
    bnd (!decide (x4.2.2 = 0)) fun x10 =>
    bnd (!decide (x4.2.1 = 0)) fun x11 =>
    bnd (x10 && x11) fun x12 =>
    bnd (x9 || x12) fun x13 =>
    bif x13 then (
      some (false,a1,a2,a3,a4,a5,a6,a7,a8,a9,a10,a11,a12,a13,a14,a15,a16,a17,a18,a19,a20,a21,a22,a23,a24,a25,a26,a27,a28,a29,a30,a31,a32,a33,a34,a35,a36,a37,a38,a39,a40,a41,a42,a43,a44,a45,a46,a47,a48,a53,a49,a50,a51,a52)
    ) else (
      bno (cut a0.Text 0 x4.2.1) fun x15 =>
      bno (cat a49 x15) fun x16 =>
      some (true,x4.1.ID,x4.1.Send.Base,x4.1.Send.Data,x4.1.Send.Next,x4.1.Send.Pieces,x4.1.Send.Lost,x4.1.Send.Closed,x4.1.Send.Sent,x4.1.Send.Again,x4.1.Send.Done,x4.1.Recv.Recv.Base,x4.1.Recv.Recv.Ready,x4.1.Recv.Recv.Parts,x4.1.Recv.End,x4.1.Out.Window,x4.1.Out.Limit,x4.1.Out.Used,x4.1.Out.Read,x4.1.In.Window,x4.1.In.Limit,x4.1.In.Used,x4.1.In.Read,x4.1.Mine,x4.1.Hers,a25,a26,a27,a28,a29,a30,a31,a32,a33,a34,a35,a36,a37,a38,a39,a40,a41,a42,a43,a44,a45,a46,a47,a48,a53,x16,a50,a51,a52)
    )
  ) else (
    bnd (decide (x1 = 1)) fun x17 =>
    bif x17 then (
      bno (mL ((⟨a1,(⟨a2,a3,a4,a5,a6,a7,a8,a9,a10⟩ : aW),(⟨(⟨a11,a12,a13⟩ : bJ),a14⟩ : bV),(⟨a15,a16,a17,a18⟩ : bE),(⟨a19,a20,a21,a22⟩ : bE),a23,a24⟩ : aR))) fun x19 =>
      some (true,x19.1.ID,x19.1.Send.Base,x19.1.Send.Data,x19.1.Send.Next,x19.1.Send.Pieces,x19.1.Send.Lost,x19.1.Send.Closed,x19.1.Send.Sent,x19.1.Send.Again,x19.1.Send.Done,x19.1.Recv.Recv.Base,x19.1.Recv.Recv.Ready,x19.1.Recv.Recv.Parts,x19.1.Recv.End,x19.1.Out.Window,x19.1.Out.Limit,x19.1.Out.Used,x19.1.Out.Read,x19.1.In.Window,x19.1.In.Limit,x19.1.In.Used,x19.1.In.Read,x19.1.Mine,x19.1.Hers,a25,a26,a27,a28,a29,a30,a31,a32,a33,a34,a35,a36,a37,a38,a39,a40,a41,a42,a43,a44,a45,a46,a47,a48,a53,a49,a50,a51,a52)
    ) else (
      bnd (decide (x1 = 2)) fun x20 =>
      bif x20 then (
        bno (remI a0.Path 4) fun x22 =>
        bnd (IntKind.wrap .i64 x22) fun x23 =>
        bnd (IntKind.wrap .i64 a0.N) fun x24 =>
        bno (kP ((⟨a1,(⟨a2,a3,a4,a5,a6,a7,a8,a9,a10⟩ : aW),(⟨(⟨a11,a12,a13⟩ : bJ),a14⟩ : bV),(⟨a15,a16,a17,a18⟩ : bE),(⟨a19,a20,a21,a22⟩ : bE),a23,a24⟩ : aR)) x23 x24 1099511627776) fun x25 =>
        bif x25.2.2.2 then (
          bno (app 32 a53 (([(⟨x25.2.1.From,x25.2.2.1,x25.2.1.Fin⟩ : bL)] : (List bL)))) fun x27 =>
          some (true,x25.1.ID,x25.1.Send.Base,x25.1.Send.Data,x25.1.Send.Next,x25.1.Send.Pieces,x25.1.Send.Lost,x25.1.Send.Closed,x25.1.Send.Sent,x25.1.Send.Again,x25.1.Send.Done,x25.1.Recv.Recv.Base,x25.1.Recv.Recv.Ready,x25.1.Recv.Recv.Parts,x25.1.Recv.End,x25.1.Out.Window,x25.1.Out.Limit,x25.1.Out.Used,x25.1.Out.Read,x25.1.In.Window,x25.1.In.Limit,x25.1.In.Used,x25.1.In.Read,x25.1.Mine,x25.1.Hers,a25,a26,a27,a28,a29,a30,a31,a32,a33,a34,a35,a36,a37,a38,a39,a40,a41,a42,a43,a44,a45,a46,a47,a48,x27,a49,a50,a51,a52)
        ) else (
          some (true,x25.1.ID,x25.1.Send.Base,x25.1.Send.Data,x25.1.Send.Next,x25.1.Send.Pieces,x25.1.Send.Lost,x25.1.Send.Closed,x25.1.Send.Sent,x25.1.Send.Again,x25.1.Send.Done,x25.1.Recv.Recv.Base,x25.1.Recv.Recv.Ready,x25.1.Recv.Recv.Parts,x25.1.Recv.End,x25.1.Out.Window,x25.1.Out.Limit,x25.1.Out.Used,x25.1.Out.Read,x25.1.In.Window,x25.1.In.Limit,x25.1.In.Used,x25.1.In.Read,x25.1.Mine,x25.1.Hers,a25,a26,a27,a28,a29,a30,a31,a32,a33,a34,a35,a36,a37,a38,a39,a40,a41,a42,a43,a44,a45,a46,a47,a48,a53,a49,a50,a51,a52)
        )
      ) else (
        bnd (decide (x1 = 3)) fun x28 =>
        bif x28 then (
          bnd (decide (0 < (a53.length : Int))) fun x30 =>
          bif x30 then (
            bnd (IntKind.wrap .i64 a0.N) fun x32 =>
            bno (remI x32 (a53.length : Int)) fun x33 =>
            bno (gix a53 x33) fun x34 =>
            bno (a53[(x33 : Int).toNat]?) fun x35 =>
            bno (fD ((⟨a25,(⟨a26,a27,a28,a29,a30,a31,a32,a33,a34⟩ : aW),(⟨(⟨a35,a36,a37⟩ : bJ),a38⟩ : bV),(⟨a39,a40,a41,a42⟩ : bE),(⟨a43,a44,a45,a46⟩ : bE),a47,a48⟩ : aR)) x35.at_ x35.s x35.fin) fun x36 =>
            bnd (decide (x36.2.2 = 0)) fun x37 =>
            some (x37,a1,a2,a3,a4,a5,a6,a7,a8,a9,a10,a11,a12,a13,a14,a15,a16,a17,a18,a19,a20,a21,a22,a23,a24,x36.1.ID,x36.1.Send.Base,x36.1.Send.Data,x36.1.Send.Next,x36.1.Send.Pieces,x36.1.Send.Lost,x36.1.Send.Closed,x36.1.Send.Sent,x36.1.Send.Again,x36.1.Send.Done,x36.1.Recv.Recv.Base,x36.1.Recv.Recv.Ready,x36.1.Recv.Recv.Parts,x36.1.Recv.End,x36.1.Out.Window,x36.1.Out.Limit,x36.1.Out.Used,x36.1.Out.Read,x36.1.In.Window,x36.1.In.Limit,x36.1.In.Used,x36.1.In.Read,x36.1.Mine,x36.1.Hers,a53,a49,a50,a51,a52)
          ) else (
            some (true,a1,a2,a3,a4,a5,a6,a7,a8,a9,a10,a11,a12,a13,a14,a15,a16,a17,a18,a19,a20,a21,a22,a23,a24,a25,a26,a27,a28,a29,a30,a31,a32,a33,a34,a35,a36,a37,a38,a39,a40,a41,a42,a43,a44,a45,a46,a47,a48,a53,a49,a50,a51,a52)
          )
        ) else (
          bnd (decide (x1 = 4)) fun x38 =>
          bif x38 then (
            bnd (IntKind.wrap .i64 a0.N) fun x40 =>
            bno (lM ((⟨a25,(⟨a26,a27,a28,a29,a30,a31,a32,a33,a34⟩ : aW),(⟨(⟨a35,a36,a37⟩ : bJ),a38⟩ : bV),(⟨a39,a40,a41,a42⟩ : bE),(⟨a43,a44,a45,a46⟩ : bE),a47,a48⟩ : aR)) x40) fun x41 =>
            bno (cat a50 x41.2.1) fun x42 =>
            bnd (a52 || x41.2.2.1) fun x43 =>
            bno (kG x41.1) fun x44 =>
            bnd (IntKind.wrap .i64 (a51 + x44.2)) fun x45 =>
            bnd (decide (x41.2.2.2 = 0)) fun x46 =>
            some (x46,a1,a2,a3,a4,a5,a6,a7,a8,a9,a10,a11,a12,a13,a14,a15,a16,a17,a18,a19,a20,a21,a22,a23,a24,x44.1.ID,x44.1.Send.Base,x44.1.Send.Data,x44.1.Send.Next,x44.1.Send.Pieces,x44.1.Send.Lost,x44.1.Send.Closed,x44.1.Send.Sent,x44.1.Send.Again,x44.1.Send.Done,x44.1.Recv.Recv.Base,x44.1.Recv.Recv.Ready,x44.1.Recv.Recv.Parts,x44.1.Recv.End,x44.1.Out.Window,x44.1.Out.Limit,x44.1.Out.Used,x44.1.Out.Read,x44.1.In.Window,x44.1.In.Limit,x44.1.In.Used,x44.1.In.Read,x44.1.Mine,x44.1.Hers,a53,a49,x42,x45,x43)
          ) else (
            bnd (decide (x1 = 5)) fun x47 =>
            bif x47 then (
              bnd (decide (0 < a51)) fun x49 =>
              bif x49 then (
                bno (iY ((⟨a1,(⟨a2,a3,a4,a5,a6,a7,a8,a9,a10⟩ : aW),(⟨(⟨a11,a12,a13⟩ : bJ),a14⟩ : bV),(⟨a15,a16,a17,a18⟩ : bE),(⟨a19,a20,a21,a22⟩ : bE),a23,a24⟩ : aR)) a51) fun x51 =>
                bnd (decide (x51.2 = 0)) fun x52 =>
                some (x52,x51.1.ID,x51.1.Send.Base,x51.1.Send.Data,x51.1.Send.Next,x51.1.Send.Pieces,x51.1.Send.Lost,x51.1.Send.Closed,x51.1.Send.Sent,x51.1.Send.Again,x51.1.Send.Done,x51.1.Recv.Recv.Base,x51.1.Recv.Recv.Ready,x51.1.Recv.Recv.Parts,x51.1.Recv.End,x51.1.Out.Window,x51.1.Out.Limit,x51.1.Out.Used,x51.1.Out.Read,x51.1.In.Window,x51.1.In.Limit,x51.1.In.Used,x51.1.In.Read,x51.1.Mine,x51.1.Hers,a25,a26,a27,a28,a29,a30,a31,a32,a33,a34,a35,a36,a37,a38,a39,a40,a41,a42,a43,a44,a45,a46,a47,a48,a53,a49,a50,0,a52)
              ) else (
                some (true,a1,a2,a3,a4,a5,a6,a7,a8,a9,a10,a11,a12,a13,a14,a15,a16,a17,a18,a19,a20,a21,a22,a23,a24,a25,a26,a27,a28,a29,a30,a31,a32,a33,a34,a35,a36,a37,a38,a39,a40,a41,a42,a43,a44,a45,a46,a47,a48,a53,a49,a50,a51,a52)
              )
            ) else (
              bnd (decide (x1 = 6)) fun x53 =>
              bif x53 then (
                bnd (decide (a38 = a35)) fun x55 =>
                bno (lN ((⟨a1,(⟨a2,a3,a4,a5,a6,a7,a8,a9,a10⟩ : aW),(⟨(⟨a11,a12,a13⟩ : bJ),a14⟩ : bV),(⟨a15,a16,a17,a18⟩ : bE),(⟨a19,a20,a21,a22⟩ : bE),a23,a24⟩ : aR)) a35 x55) fun x56 =>
                some (true,x56.ID,x56.Send.Base,x56.Send.Data,x56.Send.Next,x56.Send.Pieces,x56.Send.Lost,x56.Send.Closed,x56.Send.Sent,x56.Send.Again,x56.Send.Done,x56.Recv.Recv.Base,x56.Recv.Recv.Ready,x56.Recv.Recv.Parts,x56.Recv.End,x56.Out.Window,x56.Out.Limit,x56.Out.Used,x56.Out.Read,x56.In.Window,x56.In.Limit,x56.In.Used,x56.In.Read,x56.Mine,x56.Hers,a25,a26,a27,a28,a29,a30,a31,a32,a33,a34,a35,a36,a37,a38,a39,a40,a41,a42,a43,a44,a45,a46,a47,a48,a53,a49,a50,a51,a52)
              ) else (
                bnd (decide (x1 = 7)) fun x57 =>
                bif x57 then (
                  bno (remI a0.Path 4) fun x59 =>
                  bnd (IntKind.wrap .i64 x59) fun x60 =>
                  bno (nW ((⟨a1,(⟨a2,a3,a4,a5,a6,a7,a8,a9,a10⟩ : aW),(⟨(⟨a11,a12,a13⟩ : bJ),a14⟩ : bV),(⟨a15,a16,a17,a18⟩ : bE),(⟨a19,a20,a21,a22⟩ : bE),a23,a24⟩ : aR)) x60) fun x61 =>
                  some (true,x61.ID,x61.Send.Base,x61.Send.Data,x61.Send.Next,x61.Send.Pieces,x61.Send.Lost,x61.Send.Closed,x61.Send.Sent,x61.Send.Again,x61.Send.Done,x61.Recv.Recv.Base,x61.Recv.Recv.Ready,x61.Recv.Recv.Parts,x61.Recv.End,x61.Out.Window,x61.Out.Limit,x61.Out.Used,x61.Out.Read,x61.In.Window,x61.In.Limit,x61.In.Used,x61.In.Read,x61.Mine,x61.Hers,a25,a26,a27,a28,a29,a30,a31,a32,a33,a34,a35,a36,a37,a38,a39,a40,a41,a42,a43,a44,a45,a46,a47,a48,a53,a49,a50,a51,a52)
                ) else (
                  some (true,a1,a2,a3,a4,a5,a6,a7,a8,a9,a10,a11,a12,a13,a14,a15,a16,a17,a18,a19,a20,a21,a22,a23,a24,a25,a26,a27,a28,a29,a30,a31,a32,a33,a34,a35,a36,a37,a38,a39,a40,a41,a42,a43,a44,a45,a46,a47,a48,a53,a49,a50,a51,a52)
                )
              )
            )
          )
        )
      )
    )
  )

end Go.Fn
abbrev Prod.e {a b c d e : Type} (x : a × b × c × d × e) : e:=x.2.2.2.2
abbrev Prod.f {a b c d e f g h i j k l m n o p q : Type} (x : a × b × c × d × e × f × g × h × i × j × k × l × m × n × o × p × q) : q:=x.2.2.2.2.2.2.2.2.2.2.2.2.2.2.2.2
open Go Go.IL
namespace Go.Fn


def eJ (x5 : Int) (v294 : Int) (kk2 : Int → Int → Int → (List UInt8) → Int → (List aJ) → (List aG) → Bool → Bool → Bool → Bool → Int → (List UInt8) → (List aN) → Int → Int → Int → Int → Int → Int → Int → Int → Int → Int → Int → Int → Int → (List UInt8) → Int → (List aJ) → (List aG) → Bool → Bool → Bool → Bool → Int → (List UInt8) → (List aN) → Int → Int → Int → Int → Int → Int → Int → Int → Int → Int → Int → (List bL) → (List UInt8) → (List UInt8) → Int → Bool → Option Bool) (v509 : Int) (v510 : Int) (v511 : (List UInt8)) (v512 : Int) (v513 : (List aJ)) (v514 : (List aG)) (v515 : Bool) (v516 : Bool) (v517 : Bool) (v518 : Bool) (v519 : Int) (v520 : (List UInt8)) (v521 : (List aN)) (v522 : Int) (v523 : Int) (v524 : Int) (v525 : Int) (v526 : Int) (v527 : Int) (v528 : Int) (v529 : Int) (v530 : Int) (v531 : Int) (v532 : Int) (v557 : (List bL)) (v558 : (List UInt8)) (v559 : (List UInt8)) (v560 : Int) (v561 : Bool) (v569 : Bool) (v570 : Int) (v571 : Int) (v572 : (List UInt8)) (v573 : Int) (v574 : (List aJ)) (v575 : (List aG)) (v576 : Bool) (v577 : Bool) (v578 : Bool) (v579 : Bool) (v580 : Int) (v581 : (List UInt8)) (v582 : (List aN)) (v583 : Int) (v584 : Int) (v585 : Int) (v586 : Int) (v587 : Int) (v588 : Int) (v589 : Int) (v590 : Int) (v591 : Int) (v592 : Int) (v593 : Int) : Option Bool :=
  bno (gd ((!v569) == false) (dM ((⟨(⟨v509,(⟨v510,v511,v512,v513,v514,v515,v516,v517,v518⟩ : aW),(⟨(⟨v519,v520,v521⟩ : bJ),v522⟩ : bV),(⟨v523,v524,v525,v526⟩ : bE),(⟨v527,v528,v529,v530⟩ : bE),v531,v532⟩ : aR),(⟨v570,(⟨v571,v572,v573,v574,v575,v576,v577,v578,v579⟩ : aW),(⟨(⟨v580,v581,v582⟩ : bJ),v583⟩ : bV),(⟨v584,v585,v586,v587⟩ : bE),(⟨v588,v589,v590,v591⟩ : bE),v592,v593⟩ : aR),v557,v558,v559,v560,v561⟩ : gQ)) x5) default) fun x594 =>
  bnd ((!v569) || (!x594)) fun x595 =>
  bif x595 then (
    some false
  ) else (
    bnd (IntKind.wrap .i64 (v294 + 1)) fun x597 =>
    kk2 x597 v509 v510 v511 v512 v513 v514 v515 v516 v517 v518 v519 v520 v521 v522 v523 v524 v525 v526 v527 v528 v529 v530 v531 v532 v570 v571 v572 v573 v574 v575 v576 v577 v578 v579 v580 v581 v582 v583 v584 v585 v586 v587 v588 v589 v590 v591 v592 v593 v557 v558 v559 v560 v561
  )
def dK (x5 : Int) (v294 : Int) (v343 : (List bL)) (kk2 : Int → Int → Int → (List UInt8) → Int → (List aJ) → (List aG) → Bool → Bool → Bool → Bool → Int → (List UInt8) → (List aN) → Int → Int → Int → Int → Int → Int → Int → Int → Int → Int → Int → Int → Int → (List UInt8) → Int → (List aJ) → (List aG) → Bool → Bool → Bool → Bool → Int → (List UInt8) → (List aN) → Int → Int → Int → Int → Int → Int → Int → Int → Int → Int → Int → (List bL) → (List UInt8) → (List UInt8) → Int → Bool → Option Bool) (v508 : Bool) (v509 : Int) (v510 : Int) (v511 : (List UInt8)) (v512 : Int) (v513 : (List aJ)) (v514 : (List aG)) (v515 : Bool) (v516 : Bool) (v517 : Bool) (v518 : Bool) (v519 : Int) (v520 : (List UInt8)) (v521 : (List aN)) (v522 : Int) (v523 : Int) (v524 : Int) (v525 : Int) (v526 : Int) (v527 : Int) (v528 : Int) (v529 : Int) (v530 : Int) (v531 : Int) (v532 : Int) (v533 : Int) (v534 : Int) (v535 : (List UInt8)) (v536 : Int) (v537 : (List aJ)) (v538 : (List aG)) (v539 : Bool) (v540 : Bool) (v541 : Bool) (v542 : Bool) (v543 : Int) (v544 : (List UInt8)) (v545 : (List aN)) (v546 : Int) (v547 : Int) (v548 : Int) (v549 : Int) (v550 : Int) (v551 : Int) (v552 : Int) (v553 : Int) (v554 : Int) (v555 : Int) (v556 : Int) (v557 : (List bL)) (v558 : (List UInt8)) (v559 : (List UInt8)) (v560 : Int) (v561 : Bool) : Option Bool :=
  bnd (decide ((v343.length : Int) < (v557.length : Int))) fun x598 =>
  bif x598 then (
    bno (gix v557 (v343.length : Int)) fun x600 =>
    bno (v557[((v343.length : Int) : Int).toNat]?) fun x601 =>
    bno (fD ((⟨v533,(⟨v534,v535,v536,v537,v538,v539,v540,v541,v542⟩ : aW),(⟨(⟨v543,v544,v545⟩ : bJ),v546⟩ : bV),(⟨v547,v548,v549,v550⟩ : bE),(⟨v551,v552,v553,v554⟩ : bE),v555,v556⟩ : aR)) x601.at_ x601.s x601.fin) fun x602 =>
    bnd (decide (x602.2.2 = 0)) fun x603 =>
    bnd (v508 && x603) fun x604 =>
    eJ x5 v294 kk2 v509 v510 v511 v512 v513 v514 v515 v516 v517 v518 v519 v520 v521 v522 v523 v524 v525 v526 v527 v528 v529 v530 v531 v532 v557 v558 v559 v560 v561 x604 x602.1.ID x602.1.Send.Base x602.1.Send.Data x602.1.Send.Next x602.1.Send.Pieces x602.1.Send.Lost x602.1.Send.Closed x602.1.Send.Sent x602.1.Send.Again x602.1.Send.Done x602.1.Recv.Recv.Base x602.1.Recv.Recv.Ready x602.1.Recv.Recv.Parts x602.1.Recv.End x602.1.Out.Window x602.1.Out.Limit x602.1.Out.Used x602.1.Out.Read x602.1.In.Window x602.1.In.Limit x602.1.In.Used x602.1.In.Read x602.1.Mine x602.1.Hers
  ) else (
    eJ x5 v294 kk2 v509 v510 v511 v512 v513 v514 v515 v516 v517 v518 v519 v520 v521 v522 v523 v524 v525 v526 v527 v528 v529 v530 v531 v532 v557 v558 v559 v560 v561 v508 v533 v534 v535 v536 v537 v538 v539 v540 v541 v542 v543 v544 v545 v546 v547 v548 v549 v550 v551 v552 v553 v554 v555 v556
  )
def cI (x5 : Int) (x155 : Int) : Nat → Int → Int → Int → (List UInt8) → Int → (List aJ) → (List aG) → Bool → Bool → Bool → Bool → Int → (List UInt8) → (List aN) → Int → Int → Int → Int → Int → Int → Int → Int → Int → Int → Int → Int → Int → (List UInt8) → Int → (List aJ) → (List aG) → Bool → Bool → Bool → Bool → Int → (List UInt8) → (List aN) → Int → Int → Int → Int → Int → Int → Int → Int → Int → Int → Int → (List bL) → (List UInt8) → (List UInt8) → Int → Bool → Option Bool
  | 0,_,_,_,_,_,_,_,_,_,_,_,_,_,_,_,_,_,_,_,_,_,_,_,_,_,_,_,_,_,_,_,_,_,_,_,_,_,_,_,_,_,_,_,_,_,_,_,_,_,_,_,_,_,_=>none
  | n2 + 1, v294, v295, v296, v297, v298, v299, v300, v301, v302, v303, v304, v305, v306, v307, v308, v309, v310, v311, v312, v313, v314, v315, v316, v317, v318, v319, v320, v321, v322, v323, v324, v325, v326, v327, v328, v329, v330, v331, v332, v333, v334, v335, v336, v337, v338, v339, v340, v341, v342, v343, v344, v345, v346, v347 =>
    bnd (decide (v294 < x155)) fun x486 =>
    bnd (x486 && (!v347)) fun x487 =>
    bif x487 then (
      bno (bQ (⟨2,30,0,[]⟩ : cC) v295 v296 v297 v298 v299 v300 v301 v302 v303 v304 v305 v306 v307 v308 v309 v310 v311 v312 v313 v314 v315 v316 v317 v318 v319 v320 v321 v322 v323 v324 v325 v326 v327 v328 v329 v330 v331 v332 v333 v334 v335 v336 v337 v338 v339 v340 v341 v342 v344 v345 v346 v347 v343) fun x605 =>
      bif (x605.1 == true) then (
        bno (bQ (⟨4,255,0,[]⟩ : cC) x605.2.1 x605.2.2.1 x605.2.2.2.1 x605.e.1 x605.e.2.1 x605.e.2.2.1 x605.e.2.2.2.1 x605.e.e.1 x605.e.e.2.1 x605.e.e.2.2.1 x605.e.e.2.2.2.1 x605.e.e.e.1 x605.e.e.e.2.1 x605.e.e.e.2.2.1 x605.e.e.e.2.2.2.1 x605.f.1 x605.f.2.1 x605.f.2.2.1 x605.f.2.2.2.1 x605.f.e.1 x605.f.e.2.1 x605.f.e.2.2.1 x605.f.e.2.2.2.1 x605.f.e.e.1 x605.f.e.e.2.1 x605.f.e.e.2.2.1 x605.f.e.e.2.2.2.1 x605.f.e.e.e.1 x605.f.e.e.e.2.1 x605.f.e.e.e.2.2.1 x605.f.e.e.e.2.2.2.1 x605.f.f.1 x605.f.f.2.1 x605.f.f.2.2.1 x605.f.f.2.2.2.1 x605.f.f.e.1 x605.f.f.e.2.1 x605.f.f.e.2.2.1 x605.f.f.e.2.2.2.1 x605.f.f.e.e.1 x605.f.f.e.e.2.1 x605.f.f.e.e.2.2.1 x605.f.f.e.e.2.2.2.1 x605.f.f.e.e.e.1 x605.f.f.e.e.e.2.1 x605.f.f.e.e.e.2.2.1 x605.f.f.e.e.e.2.2.2.1 x605.f.f.f.1 x605.f.f.f.2.2.1 x605.f.f.f.2.2.2.1 x605.f.f.f.e.1 x605.f.f.f.e.2 x605.f.f.f.2.1) fun x607 =>
        bnd (bif x605.1 then x607.1 else false) fun x608 =>
        bif (x608 == true) then (
          bno (bQ (⟨5,0,0,[]⟩ : cC) x607.2.1 x607.2.2.1 x607.2.2.2.1 x607.e.1 x607.e.2.1 x607.e.2.2.1 x607.e.2.2.2.1 x607.e.e.1 x607.e.e.2.1 x607.e.e.2.2.1 x607.e.e.2.2.2.1 x607.e.e.e.1 x607.e.e.e.2.1 x607.e.e.e.2.2.1 x607.e.e.e.2.2.2.1 x607.f.1 x607.f.2.1 x607.f.2.2.1 x607.f.2.2.2.1 x607.f.e.1 x607.f.e.2.1 x607.f.e.2.2.1 x607.f.e.2.2.2.1 x607.f.e.e.1 x607.f.e.e.2.1 x607.f.e.e.2.2.1 x607.f.e.e.2.2.2.1 x607.f.e.e.e.1 x607.f.e.e.e.2.1 x607.f.e.e.e.2.2.1 x607.f.e.e.e.2.2.2.1 x607.f.f.1 x607.f.f.2.1 x607.f.f.2.2.1 x607.f.f.2.2.2.1 x607.f.f.e.1 x607.f.f.e.2.1 x607.f.f.e.2.2.1 x607.f.f.e.2.2.2.1 x607.f.f.e.e.1 x607.f.f.e.e.2.1 x607.f.f.e.e.2.2.1 x607.f.f.e.e.2.2.2.1 x607.f.f.e.e.e.1 x607.f.f.e.e.e.2.1 x607.f.f.e.e.e.2.2.1 x607.f.f.e.e.e.2.2.2.1 x607.f.f.f.1 x607.f.f.f.2.2.1 x607.f.f.f.2.2.2.1 x607.f.f.f.e.1 x607.f.f.f.e.2 x607.f.f.f.2.1) fun x610 =>
          bnd (bif x608 then x610.1 else false) fun x611 =>
          bif (x611 == true) then (
            bno (bQ (⟨6,0,0,[]⟩ : cC) x610.2.1 x610.2.2.1 x610.2.2.2.1 x610.e.1 x610.e.2.1 x610.e.2.2.1 x610.e.2.2.2.1 x610.e.e.1 x610.e.e.2.1 x610.e.e.2.2.1 x610.e.e.2.2.2.1 x610.e.e.e.1 x610.e.e.e.2.1 x610.e.e.e.2.2.1 x610.e.e.e.2.2.2.1 x610.f.1 x610.f.2.1 x610.f.2.2.1 x610.f.2.2.2.1 x610.f.e.1 x610.f.e.2.1 x610.f.e.2.2.1 x610.f.e.2.2.2.1 x610.f.e.e.1 x610.f.e.e.2.1 x610.f.e.e.2.2.1 x610.f.e.e.2.2.2.1 x610.f.e.e.e.1 x610.f.e.e.e.2.1 x610.f.e.e.e.2.2.1 x610.f.e.e.e.2.2.2.1 x610.f.f.1 x610.f.f.2.1 x610.f.f.2.2.1 x610.f.f.2.2.2.1 x610.f.f.e.1 x610.f.f.e.2.1 x610.f.f.e.2.2.1 x610.f.f.e.2.2.2.1 x610.f.f.e.e.1 x610.f.f.e.e.2.1 x610.f.f.e.e.2.2.1 x610.f.f.e.e.2.2.2.1 x610.f.f.e.e.e.1 x610.f.f.e.e.e.2.1 x610.f.f.e.e.e.2.2.1 x610.f.f.e.e.e.2.2.2.1 x610.f.f.f.1 x610.f.f.f.2.2.1 x610.f.f.f.2.2.2.1 x610.f.f.f.e.1 x610.f.f.f.e.2 x610.f.f.f.2.1) fun x613 =>
            bnd (bif x611 then x613.1 else false) fun x614 =>
            dK x5 v294 v343 (cI x5 x155 n2) x614 x613.2.1 x613.2.2.1 x613.2.2.2.1 x613.e.1 x613.e.2.1 x613.e.2.2.1 x613.e.2.2.2.1 x613.e.e.1 x613.e.e.2.1 x613.e.e.2.2.1 x613.e.e.2.2.2.1 x613.e.e.e.1 x613.e.e.e.2.1 x613.e.e.e.2.2.1 x613.e.e.e.2.2.2.1 x613.f.1 x613.f.2.1 x613.f.2.2.1 x613.f.2.2.2.1 x613.f.e.1 x613.f.e.2.1 x613.f.e.2.2.1 x613.f.e.2.2.2.1 x613.f.e.e.1 x613.f.e.e.2.1 x613.f.e.e.2.2.1 x613.f.e.e.2.2.2.1 x613.f.e.e.e.1 x613.f.e.e.e.2.1 x613.f.e.e.e.2.2.1 x613.f.e.e.e.2.2.2.1 x613.f.f.1 x613.f.f.2.1 x613.f.f.2.2.1 x613.f.f.2.2.2.1 x613.f.f.e.1 x613.f.f.e.2.1 x613.f.f.e.2.2.1 x613.f.f.e.2.2.2.1 x613.f.f.e.e.1 x613.f.f.e.e.2.1 x613.f.f.e.e.2.2.1 x613.f.f.e.e.2.2.2.1 x613.f.f.e.e.e.1 x613.f.f.e.e.e.2.1 x613.f.f.e.e.e.2.2.1 x613.f.f.e.e.e.2.2.2.1 x613.f.f.f.1 x613.f.f.f.2.1 x613.f.f.f.2.2.1 x613.f.f.f.2.2.2.1 x613.f.f.f.e.1 x613.f.f.f.e.2
          ) else (
            bnd (x611 && false) fun x615 =>
            dK x5 v294 v343 (cI x5 x155 n2) x615 x610.2.1 x610.2.2.1 x610.2.2.2.1 x610.e.1 x610.e.2.1 x610.e.2.2.1 x610.e.2.2.2.1 x610.e.e.1 x610.e.e.2.1 x610.e.e.2.2.1 x610.e.e.2.2.2.1 x610.e.e.e.1 x610.e.e.e.2.1 x610.e.e.e.2.2.1 x610.e.e.e.2.2.2.1 x610.f.1 x610.f.2.1 x610.f.2.2.1 x610.f.2.2.2.1 x610.f.e.1 x610.f.e.2.1 x610.f.e.2.2.1 x610.f.e.2.2.2.1 x610.f.e.e.1 x610.f.e.e.2.1 x610.f.e.e.2.2.1 x610.f.e.e.2.2.2.1 x610.f.e.e.e.1 x610.f.e.e.e.2.1 x610.f.e.e.e.2.2.1 x610.f.e.e.e.2.2.2.1 x610.f.f.1 x610.f.f.2.1 x610.f.f.2.2.1 x610.f.f.2.2.2.1 x610.f.f.e.1 x610.f.f.e.2.1 x610.f.f.e.2.2.1 x610.f.f.e.2.2.2.1 x610.f.f.e.e.1 x610.f.f.e.e.2.1 x610.f.f.e.e.2.2.1 x610.f.f.e.e.2.2.2.1 x610.f.f.e.e.e.1 x610.f.f.e.e.e.2.1 x610.f.f.e.e.e.2.2.1 x610.f.f.e.e.e.2.2.2.1 x610.f.f.f.1 x610.f.f.f.2.1 x610.f.f.f.2.2.1 x610.f.f.f.2.2.2.1 x610.f.f.f.e.1 x610.f.f.f.e.2
          )
        ) else (
          bnd (x608 && false) fun x616 =>
          bnd (x616 && false) fun x618 =>
          dK x5 v294 v343 (cI x5 x155 n2) x618 x607.2.1 x607.2.2.1 x607.2.2.2.1 x607.e.1 x607.e.2.1 x607.e.2.2.1 x607.e.2.2.2.1 x607.e.e.1 x607.e.e.2.1 x607.e.e.2.2.1 x607.e.e.2.2.2.1 x607.e.e.e.1 x607.e.e.e.2.1 x607.e.e.e.2.2.1 x607.e.e.e.2.2.2.1 x607.f.1 x607.f.2.1 x607.f.2.2.1 x607.f.2.2.2.1 x607.f.e.1 x607.f.e.2.1 x607.f.e.2.2.1 x607.f.e.2.2.2.1 x607.f.e.e.1 x607.f.e.e.2.1 x607.f.e.e.2.2.1 x607.f.e.e.2.2.2.1 x607.f.e.e.e.1 x607.f.e.e.e.2.1 x607.f.e.e.e.2.2.1 x607.f.e.e.e.2.2.2.1 x607.f.f.1 x607.f.f.2.1 x607.f.f.2.2.1 x607.f.f.2.2.2.1 x607.f.f.e.1 x607.f.f.e.2.1 x607.f.f.e.2.2.1 x607.f.f.e.2.2.2.1 x607.f.f.e.e.1 x607.f.f.e.e.2.1 x607.f.f.e.e.2.2.1 x607.f.f.e.e.2.2.2.1 x607.f.f.e.e.e.1 x607.f.f.e.e.e.2.1 x607.f.f.e.e.e.2.2.1 x607.f.f.e.e.e.2.2.2.1 x607.f.f.f.1 x607.f.f.f.2.1 x607.f.f.f.2.2.1 x607.f.f.f.2.2.2.1 x607.f.f.f.e.1 x607.f.f.f.e.2
        )
      ) else (
        bnd (x605.1 && false) fun x619 =>
        bnd (x619 && false) fun x621 =>
        bnd (x621 && false) fun x623 =>
        dK x5 v294 v343 (cI x5 x155 n2) x623 x605.2.1 x605.2.2.1 x605.2.2.2.1 x605.e.1 x605.e.2.1 x605.e.2.2.1 x605.e.2.2.2.1 x605.e.e.1 x605.e.e.2.1 x605.e.e.2.2.1 x605.e.e.2.2.2.1 x605.e.e.e.1 x605.e.e.e.2.1 x605.e.e.e.2.2.1 x605.e.e.e.2.2.2.1 x605.f.1 x605.f.2.1 x605.f.2.2.1 x605.f.2.2.2.1 x605.f.e.1 x605.f.e.2.1 x605.f.e.2.2.1 x605.f.e.2.2.2.1 x605.f.e.e.1 x605.f.e.e.2.1 x605.f.e.e.2.2.1 x605.f.e.e.2.2.2.1 x605.f.e.e.e.1 x605.f.e.e.e.2.1 x605.f.e.e.e.2.2.1 x605.f.e.e.e.2.2.2.1 x605.f.f.1 x605.f.f.2.1 x605.f.f.2.2.1 x605.f.f.2.2.2.1 x605.f.f.e.1 x605.f.f.e.2.1 x605.f.f.e.2.2.1 x605.f.f.e.2.2.2.1 x605.f.f.e.e.1 x605.f.f.e.e.2.1 x605.f.f.e.e.2.2.1 x605.f.f.e.e.2.2.2.1 x605.f.f.e.e.e.1 x605.f.f.e.e.e.2.1 x605.f.f.e.e.e.2.2.1 x605.f.f.e.e.e.2.2.2.1 x605.f.f.f.1 x605.f.f.f.2.1 x605.f.f.f.2.2.1 x605.f.f.f.2.2.2.1 x605.f.f.f.e.1 x605.f.f.f.e.2
      )
    ) else (
      bno (bQ (⟨6,0,0,[]⟩ : cC) v295 v296 v297 v298 v299 v300 v301 v302 v303 v304 v305 v306 v307 v308 v309 v310 v311 v312 v313 v314 v315 v316 v317 v318 v319 v320 v321 v322 v323 v324 v325 v326 v327 v328 v329 v330 v331 v332 v333 v334 v335 v336 v337 v338 v339 v340 v341 v342 v344 v345 v346 v347 v343) fun x624 =>
      bnd (decide (x624.f.f.f.2.2.2.1 = x624.f.f.f.2.2.1)) fun x625 =>
      bnd (x624.f.f.f.e.2 && x625) fun x626 =>
      bnd (x626 && x624.e.e.2.2.1) fun x627 =>
      bnd (decide (x624.2.2.2.1 = ([] : List UInt8))) fun x628 =>
      bnd (x627 && x628) fun x629 =>
      bno (gd (x629 == true) (fV) default) fun x630 =>
      bnd (x629 && x630) fun x631 =>
      some x631
    )
def dQ (x5 : Int) : Nat → Int → Int → Int → (List UInt8) → Int → (List aJ) → (List aG) → Bool → Bool → Bool → Bool → Int → (List UInt8) → (List aN) → Int → Int → Int → Int → Int → Int → Int → Int → Int → Int → Int → Int → Int → (List UInt8) → Int → (List aJ) → (List aG) → Bool → Bool → Bool → Bool → Int → (List UInt8) → (List aN) → Int → Int → Int → Int → Int → Int → Int → Int → Int → Int → Int → (List bL) → (List UInt8) → (List UInt8) → Int → Bool → Option Bool
  | 0,_,_,_,_,_,_,_,_,_,_,_,_,_,_,_,_,_,_,_,_,_,_,_,_,_,_,_,_,_,_,_,_,_,_,_,_,_,_,_,_,_,_,_,_,_,_,_,_,_,_,_,_,_,_=>none
  | n1 + 1, v90, v91, v92, v93, v94, v95, v96, v97, v98, v99, v100, v101, v102, v103, v104, v105, v106, v107, v108, v109, v110, v111, v112, v113, v114, v115, v116, v117, v118, v119, v120, v121, v122, v123, v124, v125, v126, v127, v128, v129, v130, v131, v132, v133, v134, v135, v136, v137, v138, v139, v140, v141, v142, v143 =>
    bnd (decide (v90 < 4)) fun x149 =>
    bif x149 then (
      bnd (IntKind.wrap .u8 v90) fun x151 =>
      bno (bQ (⟨7,0,x151,[]⟩ : cC) v91 v92 v93 v94 v95 v96 v97 v98 v99 v100 v101 v102 v103 v104 v105 v106 v107 v108 v109 v110 v111 v112 v113 v114 v115 v116 v117 v118 v119 v120 v121 v122 v123 v124 v125 v126 v127 v128 v129 v130 v131 v132 v133 v134 v135 v136 v137 v138 v140 v141 v142 v143 v139) fun x152 =>
      bnd (IntKind.wrap .i64 (v90 + 1)) fun x153 =>
      (dQ x5 n1) x153 x152.2.1 x152.2.2.1 x152.2.2.2.1 x152.e.1 x152.e.2.1 x152.e.2.2.1 x152.e.2.2.2.1 x152.e.e.1 x152.e.e.2.1 x152.e.e.2.2.1 x152.e.e.2.2.2.1 x152.e.e.e.1 x152.e.e.e.2.1 x152.e.e.e.2.2.1 x152.e.e.e.2.2.2.1 x152.f.1 x152.f.2.1 x152.f.2.2.1 x152.f.2.2.2.1 x152.f.e.1 x152.f.e.2.1 x152.f.e.2.2.1 x152.f.e.2.2.2.1 x152.f.e.e.1 x152.f.e.e.2.1 x152.f.e.e.2.2.1 x152.f.e.e.2.2.2.1 x152.f.e.e.e.1 x152.f.e.e.e.2.1 x152.f.e.e.e.2.2.1 x152.f.e.e.e.2.2.2.1 x152.f.f.1 x152.f.f.2.1 x152.f.f.2.2.1 x152.f.f.2.2.2.1 x152.f.f.e.1 x152.f.f.e.2.1 x152.f.f.e.2.2.1 x152.f.f.e.2.2.2.1 x152.f.f.e.e.1 x152.f.f.e.e.2.1 x152.f.f.e.e.2.2.1 x152.f.f.e.e.2.2.2.1 x152.f.f.e.e.e.1 x152.f.f.e.e.e.2.1 x152.f.f.e.e.e.2.2.1 x152.f.f.e.e.e.2.2.2.1 x152.f.f.f.1 x152.f.f.f.2.1 x152.f.f.f.2.2.1 x152.f.f.f.2.2.2.1 x152.f.f.f.e.1 x152.f.f.f.e.2
    ) else (
      bnd (IntKind.wrap .i64 (3 * (v140.length : Int))) fun x154 =>
      bnd (IntKind.wrap .i64 (x154 + 9)) fun x155 =>
      cI x5 x155 fuel 0 v91 v92 v93 v94 v95 v96 v97 v98 v99 v100 v101 v102 v103 v104 v105 v106 v107 v108 v109 v110 v111 v112 v113 v114 v115 v116 v117 v118 v119 v120 v121 v122 v123 v124 v125 v126 v127 v128 v129 v130 v131 v132 v133 v134 v135 v136 v137 v138 v139 v140 v141 v142 v143
    )
def dR (a1 : (List cC)) (x5 : Int) : Nat → Int → Int → Int → (List UInt8) → Int → (List aJ) → (List aG) → Bool → Bool → Bool → Bool → Int → (List UInt8) → (List aN) → Int → Int → Int → Int → Int → Int → Int → Int → Int → Int → Int → Int → Int → (List UInt8) → Int → (List aJ) → (List aG) → Bool → Bool → Bool → Bool → Int → (List UInt8) → (List aN) → Int → Int → Int → Int → Int → Int → Int → Int → Int → Int → Int → (List bL) → (List UInt8) → (List UInt8) → Int → Bool → Option Bool
  | 0,_,_,_,_,_,_,_,_,_,_,_,_,_,_,_,_,_,_,_,_,_,_,_,_,_,_,_,_,_,_,_,_,_,_,_,_,_,_,_,_,_,_,_,_,_,_,_,_,_,_,_,_,_,_=>none
  | n0 + 1, v18, v19, v20, v21, v22, v23, v24, v25, v26, v27, v28, v29, v30, v31, v32, v33, v34, v35, v36, v37, v38, v39, v40, v41, v42, v43, v44, v45, v46, v47, v48, v49, v50, v51, v52, v53, v54, v55, v56, v57, v58, v59, v60, v61, v62, v63, v64, v65, v66, v67, v68, v69, v70, v71 =>
    bnd (decide (v18 < (a1.length : Int))) fun x78 =>
    bif x78 then (
      bno (gix a1 v18) fun x80 =>
      bno (bQ x80 v19 v20 v21 v22 v23 v24 v25 v26 v27 v28 v29 v30 v31 v32 v33 v34 v35 v36 v37 v38 v39 v40 v41 v42 v43 v44 v45 v46 v47 v48 v49 v50 v51 v52 v53 v54 v55 v56 v57 v58 v59 v60 v61 v62 v63 v64 v65 v66 v68 v69 v70 v71 v67) fun x81 =>
      bif (!x81.1) then (
        some false
      ) else (
        bnd (IntKind.wrap .i64 (v18 + 1)) fun x83 =>
        (dR a1 x5 n0) x83 x81.2.1 x81.2.2.1 x81.2.2.2.1 x81.e.1 x81.e.2.1 x81.e.2.2.1 x81.e.2.2.2.1 x81.e.e.1 x81.e.e.2.1 x81.e.e.2.2.1 x81.e.e.2.2.2.1 x81.e.e.e.1 x81.e.e.e.2.1 x81.e.e.e.2.2.1 x81.e.e.e.2.2.2.1 x81.f.1 x81.f.2.1 x81.f.2.2.1 x81.f.2.2.2.1 x81.f.e.1 x81.f.e.2.1 x81.f.e.2.2.1 x81.f.e.2.2.2.1 x81.f.e.e.1 x81.f.e.e.2.1 x81.f.e.e.2.2.1 x81.f.e.e.2.2.2.1 x81.f.e.e.e.1 x81.f.e.e.e.2.1 x81.f.e.e.e.2.2.1 x81.f.e.e.e.2.2.2.1 x81.f.f.1 x81.f.f.2.1 x81.f.f.2.2.1 x81.f.f.2.2.2.1 x81.f.f.e.1 x81.f.f.e.2.1 x81.f.f.e.2.2.1 x81.f.f.e.2.2.2.1 x81.f.f.e.e.1 x81.f.f.e.e.2.1 x81.f.f.e.e.2.2.1 x81.f.f.e.e.2.2.2.1 x81.f.f.e.e.e.1 x81.f.f.e.e.e.2.1 x81.f.f.e.e.e.2.2.1 x81.f.f.e.e.e.2.2.2.1 x81.f.f.f.1 x81.f.f.f.2.1 x81.f.f.f.2.2.1 x81.f.f.f.2.2.2.1 x81.f.f.f.e.1 x81.f.f.f.e.2
      )
    ) else (
      bno (bQ (⟨1,0,0,[]⟩ : cC) v19 v20 v21 v22 v23 v24 v25 v26 v27 v28 v29 v30 v31 v32 v33 v34 v35 v36 v37 v38 v39 v40 v41 v42 v43 v44 v45 v46 v47 v48 v49 v50 v51 v52 v53 v54 v55 v56 v57 v58 v59 v60 v61 v62 v63 v64 v65 v66 v68 v69 v70 v71 v67) fun x84 =>
      dQ x5 fuel 0 x84.2.1 x84.2.2.1 x84.2.2.2.1 x84.e.1 x84.e.2.1 x84.e.2.2.1 x84.e.2.2.2.1 x84.e.e.1 x84.e.e.2.1 x84.e.e.2.2.1 x84.e.e.2.2.2.1 x84.e.e.e.1 x84.e.e.e.2.1 x84.e.e.e.2.2.1 x84.e.e.e.2.2.2.1 x84.f.1 x84.f.2.1 x84.f.2.2.1 x84.f.2.2.2.1 x84.f.e.1 x84.f.e.2.1 x84.f.e.2.2.1 x84.f.e.2.2.2.1 x84.f.e.e.1 x84.f.e.e.2.1 x84.f.e.e.2.2.1 x84.f.e.e.2.2.2.1 x84.f.e.e.e.1 x84.f.e.e.e.2.1 x84.f.e.e.e.2.2.1 x84.f.e.e.e.2.2.2.1 x84.f.f.1 x84.f.f.2.1 x84.f.f.2.2.1 x84.f.f.2.2.2.1 x84.f.f.e.1 x84.f.f.e.2.1 x84.f.f.e.2.2.1 x84.f.f.e.2.2.2.1 x84.f.f.e.e.1 x84.f.f.e.e.2.1 x84.f.f.e.e.2.2.1 x84.f.f.e.e.2.2.2.1 x84.f.f.e.e.e.1 x84.f.f.e.e.e.2.1 x84.f.f.e.e.e.2.2.1 x84.f.f.e.e.e.2.2.2.1 x84.f.f.f.1 x84.f.f.f.2.1 x84.f.f.f.2.2.1 x84.f.f.f.2.2.2.1 x84.f.f.f.e.1 x84.f.f.f.e.2
    )
def fO (a0 : Int) (a1 : (List cC)) : Option Bool :=
  bno (gY a1 60) fun x1 =>
  bif (!x1) then (
    bno (fV) fun x3 =>
    some x3
  ) else (
    bnd (IntKind.wrap .i64 a0) fun x4 =>
    bnd (IntKind.wrap .i64 (1 + x4)) fun x5 =>
    bno (lB 5 x5 x5) fun x6 =>
    bno (lB 5 x5 x5) fun x7 =>
    bnd (decide (x6.2 = 0)) fun x8 =>
    bnd (decide (x7.2 = 0)) fun x9 =>
    bnd (x8 && x9) fun x10 =>
    bif (!x10) then (
      some false
    ) else (
      dR a1 x5 fuel 0 x6.1.ID x6.1.Send.Base x6.1.Send.Data x6.1.Send.Next x6.1.Send.Pieces x6.1.Send.Lost x6.1.Send.Closed x6.1.Send.Sent x6.1.Send.Again x6.1.Send.Done x6.1.Recv.Recv.Base x6.1.Recv.Recv.Ready x6.1.Recv.Recv.Parts x6.1.Recv.End x6.1.Out.Window x6.1.Out.Limit x6.1.Out.Used x6.1.Out.Read x6.1.In.Window x6.1.In.Limit x6.1.In.Used x6.1.In.Read x6.1.Mine x6.1.Hers x7.1.ID x7.1.Send.Base x7.1.Send.Data x7.1.Send.Next x7.1.Send.Pieces x7.1.Send.Lost x7.1.Send.Closed x7.1.Send.Sent x7.1.Send.Again x7.1.Send.Done x7.1.Recv.Recv.Base x7.1.Recv.Recv.Ready x7.1.Recv.Recv.Parts x7.1.Recv.End x7.1.Out.Window x7.1.Out.Limit x7.1.Out.Used x7.1.Out.Read x7.1.In.Window x7.1.In.Limit x7.1.In.Used x7.1.In.Read x7.1.Mine x7.1.Hers ([] : (List bL)) ([] : (List UInt8)) ([] : (List UInt8)) 0 false
    )
  )
end Go.Fn
