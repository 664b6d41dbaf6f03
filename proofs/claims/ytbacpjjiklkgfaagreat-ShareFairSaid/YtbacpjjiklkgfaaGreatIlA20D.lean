/-
  A part of the proof: rules and plain facts. No condition.
-/
import Derived.Test.YtbacpjjiklkgfaaGreatIlAr
import Derived.Lib.AppendZerosOnto
import Derived.Laws.CopyRow
import Derived.Lib.Overlaps
import Derived.Lib.Bytealg
import Derived.Lib.ItoaNum
import Derived.Lib.Join
import Derived.Laws.Pointers
import Derived.LaidEqlPtr
import Derived.Lib.Builder
import Derived.Lib.UnsafeStr
import Derived.Shelf.Sort.Plain
import Derived.Shelf.Slices.In.SortNone
import Derived.Shelf.SlSortCmp.WholeK
import Derived.Shelf.SlSortCmp.NoneTotal
import Derived.MapKept
set_option linter.all false
open Go renaming Operand → Aq,Program → Bc,TypeId → Au,Value → AF
open Go.IL.D renaming one → DZ
open Go.IL.HOk renaming put → Dd
open Go.IL.Rd renaming mono → Cs
open Go.IL.RdL renaming mono → AN
open Go.IL.St renaming ent → By,get → BZ,set → Bl,setE → Bn
open Iff renaming rfl → Dw
open List renaming all_eq_true → AW,append_assoc → AG,append_nil → AR,drop_append_of_le_length → Bk,getElem?_append_left → AK,getElem?_drop → Em,getElem?_eq_some_iff → Ah,getElem?_take → BV,length_append → Be,length_eq_zero_iff → Bf,length_nil → Cd,length_take → Bj,mem_of_mem_take → DW,replicate → AI,size_toArray → Ch,take_append_drop → AX,take_append_of_le_length → AM,take_length → CD,toArray → Co
open Nat renaming add_mul → Bp,add_zero → CG,le_refl → AL,min_eq_left → Ca,min_le_right → FR,mul_le_mul_right → AP,zero_add → Bh,zero_mul → CO
open _root_ renaming Option → Af,absurd → AJ
open Go.RowKit (Below)
namespace Go.IL
section
variable {P:Bc} {O:bG} {N:Nat} {S S':St} {o:Oper} {t:Nat} {Q:Exit→St→Prop}
theorem tC {E:Env} {β:bB} {v:AF} {id sz off len cap:Nat} (h:Rd E β v (.rsl id sz off len cap)) :
 ∃ b p c e f,v = .slice (some ⟨b,p,none⟩) len cap∧β id=some b∧len≤cap∧0<sz∧(0<cap→p=off)∧p≤off∧E.w.heap[b]? = some (Obj.cells c e f)∧off+cap*sz≤c.size∧cap≤maxLen:=by
 cases h with
 | rsl _ _ _ _ _ _ b p h1 h2 h3 h4 c e f h5 h6 h7=>exact ⟨b,p,c,e,f,rfl,h1,h2,h3,h4.1,h4.2,h5,h6,h7⟩
theorem tS {S:St} {id t:Nat} {e:Ent} {d:D}:((S.setE id e).set t d).ent id=e:=by simp [By,entL,Bn,Bl,aN]
theorem sG {S:St} {id t j:Nat} {e:Ent} {d:D} (h:j≠id):((S.setE id e).set t d).ent j=S.ent j:=by simp [By,entL,Bn,Bl,aN,Ne.symm h]
theorem Rel.turn {E:Env} {β:bB} {a:Act} (h:Rel O N S E β a) {id b:Nat} {e:Au} {ds ds':List D} {d:D} (he:S.ent id = .blk e ds) (hb:β id=some b)
 (hk:∀ vs sp,E.w.heap[b]? = some (.cells (Co (vs++sp)) e (0,0))→RdL E β vs ds→∃ vs' sp',vs'++sp'=vs++sp∧RdL E β vs' ds') (hd:Rd E β (a.tmps.getD t undef) d) :
 Rel O N ((S.setE id (.blk e ds')).set t d) E β a:=by
 have hent:=h.h.ent id
 rw [he] at hent
 obtain ⟨vs,sp,h1,h2,h3,h4⟩:=oL hent hb
 obtain ⟨vs',sp',h5,h6⟩:=hk vs sp h2 h4
 have held:∀ j,(((S.setE id (.blk e ds')).set t d).ent j).held=(S.ent j).held:=fun j=>by
  by_cases hj:j=id
  · subst hj; rw [tS,he]; rfl
  · rw [sG hj]
 refine ⟨h.n,h.nd,?_,fun s=>?_⟩
 · refine { h.h with ent:=fun j=>?_,inj:=fun i j k hi hj=>h.h.inj i j k (held i ▸ hi) (held j ▸ hj) }
   by_cases hj:j=id
   · subst hj; rw [tS]; exact .inr ⟨b,vs',sp',hb,h1,by rw [h5]; exact h2,h3,h6⟩
   · rw [sG hj]; exact h.h.ent j
 · by_cases hst:t=s
   · subst hst; simpa [BZ,Bl,aN] using hd
   · have:=h.sl s
     simpa [BZ,Bl,Bn,aN,hst] using this
theorem Rel.opened {E:Env} {β:bB} {a:Act} (h:Rel O N S E β a) {id sz n:Nat} {e:Au} {ds:List D} (hS:S.get t = .osl id sz n) (he:S.ent id = .blk e ds) (hl:ds.length=n*sz) :
 (n=0∧Rel O N (S.set t .nils) E β a)∨∃ cap,n≤cap∧cap≤maxLen∧Rel O N ((S.setE id (.blk e (ds++AI ((cap-n)*sz) .dead))).set t (.rsl id sz 0 n cap)) E β a:=by
 have h1:=h.sl t
 rw [hS] at h1
 generalize hv:a.tmps.getD t undef=v at h1
 cases h1 with
 | nosl =>
   left
   refine ⟨rfl,h.n,h.nd,?_,fun s=>?_⟩
   · exact h.h
   · by_cases hst:t=s
     · subst hst; simp only [BZ,Bl,aN,if_true]; rw [hv]; exact .nils _
     · have:=h.sl s
       simpa [BZ,Bl,aN,hst] using this
 | osl _ _ b _ cap _ hb hc hsz c e' f hcap hcs hcm =>
   right
   refine ⟨cap,hc,hcm,h.turn he hb (fun vs sp hh hvs=>?_) ?_⟩
   · rw [hh] at hcap; cases hcap
     have hvl:=hvs.length
     have hle:(cap-n)*sz≤sp.length:=by
      simp only [Ch,Be,hvl,hl] at hcs
      have:cap*sz=n*sz+(cap-n)*sz:=by rw [←Bp]; congr 1; omega
      omega
     refine ⟨vs++sp.take ((cap-n)*sz),sp.drop ((cap-n)*sz),by rw [AG,AX],hvs.append ?_⟩
     have:=qF E β (sp.take ((cap-n)*sz))
     rwa [Bj,Ca hle] at this
   · rw [hv]; exact .rsl _ _ _ _ _ _ b 0 hb hc hsz ⟨fun _=>rfl,AL _⟩ c e' f hcap (by rw [Bh]; exact hcs) hcm
theorem Rel.closed {E:Env} {β:bB} {a:Act} (h:Rel O N S E β a) {id sz n cap:Nat} {e:Au} {ds j:List D} (hS:S.get t = .rsl id sz 0 n cap) (he:S.ent id = .blk e (ds++j)) (hl:ds.length=n*sz) :
 Rel O N ((S.setE id (.blk e ds)).set t (.osl id sz n)) E β a:=by
 have h1:=h.sl t
 rw [hS] at h1
 obtain ⟨b,p,c,e',f,hv,hb,hc,hsz,hp,hp',hcap,hcs,hcm⟩:=tC h1
 refine h.turn he hb (fun vs sp hh hvs=>?_) ?_
 · refine ⟨vs.take ds.length,vs.drop ds.length++sp,by rw [←AG,AX],?_⟩
   have:=hvs.take ds.length
   rwa [AM (AL _),CD] at this
 · rw [hv]
   have:p=0:=by omega
   subst this
   exact .osl _ _ b n cap sz hb hc hsz c e' f hcap (by omega) hcm
theorem aCW {c:Code} (t:Nat) {id sz n:Nat} {e:Au} {ds:List D} (hS:S.get t = .osl id sz n) (he:S.ent id = .blk e ds) (hl:ds.length=n*sz) (h0:n=0→IWP P O N c (S.set t .nils) Q)
 (h1:∀ cap,n≤cap→cap≤maxLen→IWP P O N c ((S.setE id (.blk e (ds++AI ((cap-n)*sz) .dead))).set t (.rsl id sz 0 n cap)) Q):IWP P O N c S Q:=by
 intro E β a hr
 rcases hr.opened hS he hl with ⟨h2,h3⟩ | ⟨cap,h2,h3,h4⟩
 · exact h0 h2 E β a h3
 · exact h1 cap h2 h3 E β a h4
theorem xH {c:Code} (t:Nat) {id sz n cap:Nat} {e:Au} {ds j:List D} (hS:S.get t = .rsl id sz 0 n cap) (he:S.ent id = .blk e (ds++j)) (hl:ds.length=n*sz) (h:IWP P O N c ((S.setE id (.blk e ds)).set t (.osl id sz n)) Q):IWP P O N c S Q :=
 fun E β a hr=>h E β a (hr.closed hS he hl)
theorem aEd {ops:Array Oper} {c:List Oper} (t:Nat) {id sz n cap:Nat} {e:Au} {ds j:List D} (hS:S.get t = .rsl id sz 0 n cap) (he:S.ent id = .blk e (ds++j)) (hl:ds.length=n*sz) (h:ILS P O N ops c ((S.setE id (.blk e ds)).set t (.osl id sz n)) Q):ILS P O N ops c S Q :=
 fun E β a hr=>h E β a (hr.closed hS he hl)
theorem aBv {T e:Au} {x:Aq} {id sz off len cap:Nat} {n:Int} (ho:o.op = .call { callee:=.builtin .cap,args:=#[x],argTypes:=#[T] }) (hd:o.dst=some t) (ht:t<N) (hu:P.underlying T=some (.slice e))
 (hx:SV S x (.rsl id sz off len cap)) (hn:(cap:Int)=n):IOp P O N o S (S.set t (.int .i64 n)) :=
 gW hd ht fun E β a hr=>⟨.int .i64 n,by
  subst hn
  obtain ⟨b,p,c,e',f,hv,_⟩:=tC (hx.rd hr)
  simp [execOp,ho,resolve,invoke,builtin,Builtin.cap_,run_underlying hu,hv,goInt],.int _ _ _⟩
theorem aBr {T e:Au} {x:Aq} {id sz off len cap:Nat} {n:Int} (ho:o.op = .call { callee:=.builtin .len,args:=#[x],argTypes:=#[T] }) (hd:o.dst=some t) (ht:t<N) (hu:P.underlying T=some (.slice e))
 (hx:SV S x (.rsl id sz off len cap)) (hn:(len:Int)=n):IOp P O N o S (S.set t (.int .i64 n)) :=
 gW hd ht fun E β a hr=>⟨.int .i64 n,by
  subst hn
  obtain ⟨b,p,c,e',f,hv,_⟩:=tC (hx.rd hr)
  simp [execOp,ho,resolve,invoke,builtin,Builtin.len_,run_underlying hu,hv,goInt],.int _ _ _⟩
theorem aBb {E:Env} {β:bB} {a:Act} (hr:Rel O N S E β a) {len cap:Nat} {lo hi mx:Af Aq} {l h m:Int} (hlo:tZ S 0 lo l) (hhi:tZ S len hi h) (hmx:tZ S cap mx m) (hs:mx.isSome=true→hi.isSome=true) (h0:0≤l) (h1:l≤h) (h2:h≤m) (h3:m≤cap) :
 (Instr.sliceBounds true len cap (lo.map a.eval) (hi.map a.eval) (mx.map a.eval)).run P E.w = .ok (l.toNat,h.toNat,m.toNat) E.w:=by
 have e1:0≤h:=by omega
 have e0:0≤m:=by omega
 have e2:l≤(h.toNat:Int):=by omega
 have e3:h≤(m.toNat:Int):=by omega
 have m1:max h 0=h:=Int.max_eq_left e1
 have m2:max m 0=m:=Int.max_eq_left e0
 cases mx with
 | none =>
   have hmx:m=cap:=hmx
   subst hmx
   cases lo with
   | none =>
     have hlo:l=0:=hlo
     subst hlo
     cases hi with
     | none=>have hhi:h=len:=hhi; subst hhi; simp [Instr.sliceBounds]
     | some y=>obtain ⟨k,hy⟩:=hhi; simp [Instr.sliceBounds,Instr.sliceBound,iV (hy.rd hr),asIntOf,e1,h2]
   | some x =>
     obtain ⟨k,hx⟩:=hlo
     cases hi with
     | none=>have hhi:h=len:=hhi; subst hhi; simp [Instr.sliceBounds,Instr.sliceBound,iV (hx.rd hr),asIntOf,h0,h1]
     | some y=>obtain ⟨k',hy⟩:=hhi; simp [Instr.sliceBounds,Instr.sliceBound,iV (hx.rd hr),iV (hy.rd hr),asIntOf,h0,e1,e2,h2,m1,h1]
 | some z =>
   obtain ⟨kz,hz⟩:=hmx
   cases hi with
   | none=>exact AJ (hs rfl) (by simp)
   | some y =>
     obtain ⟨k',hy⟩:=hhi
     cases lo with
     | none =>
       have hlo:l=0:=hlo
       subst hlo
       simp [Instr.sliceBounds,Instr.sliceBound,iV (hy.rd hr),iV (hz.rd hr),asIntOf,e0,e1,e3,h3,m2,h2]
     | some x =>
       obtain ⟨k,hx⟩:=hlo
       simp [Instr.sliceBounds,Instr.sliceBound,iV (hx.rd hr),iV (hy.rd hr),iV (hz.rd hr),asIntOf,h0,e0,e1,e2,e3,h3,m1,m2,h1,h2]
theorem hB {T e:Au} {x:Aq} {lo hi mx:Af Aq} {id sz off len cap:Nat} {l h m:Int} {z:Af AF} {bytes:Nat} {d:D} (ho:o.op = .slice T x lo hi mx) (hd:o.dst=some t) (ht:t<N) (hu:P.underlying T=some (.slice e)) (hi':TI P e z sz bytes)
 (hx:SV S x (.rsl id sz off len cap)) (hlo:tZ S 0 lo l) (hhi:tZ S len hi h) (hmx:tZ S cap mx m) (hs:mx.isSome=true→hi.isSome=true) (h0:0≤l) (h1:l≤h) (h2:h≤m) (h3:m≤cap)
 (hdd:D.rsl id sz (off+l.toNat*sz) (h.toNat-l.toNat) (m.toNat-l.toNat)=d):IOp P O N o S (S.set t d) :=
 gW hd ht fun E β a hr=>by
  subst hdd
  obtain ⟨b,p,c,e',f,hv,hb,hlc,hsz,hp,hp',hcap,hcs,hcm⟩:=tC (hx.rd hr)
  have hbd:=aBb (P:=P) hr hlo hhi hmx hs h0 h1 h2 h3
  have hmc:m.toNat≤cap:=by omega
  have hlm:l.toNat≤m.toNat:=by omega
  have hfit:off+l.toNat*sz+(m.toNat-l.toNat)*sz≤c.size:=by
   have:l.toNat*sz+(m.toNat-l.toNat)*sz≤cap*sz:=by rw [←Bp]; exact AP _ (by omega)
   omega
  refine ⟨.slice (if m.toNat=l.toNat then some ⟨b,p,none⟩ else some ⟨b,p+l.toNat*sz,none⟩) (h.toNat-l.toNat) (m.toNat-l.toNat),?_,?_⟩
  · simp only [execOp,ho,hv,Instr.sliceAt,Instr.slice,Sem.run_bind,run_underlying hu,Result.andThen_ok,hbd,hi'.run_size,Sem.run_pure]
    split <;> simp [kT]
  · split
    · rename_i hml
      exact .rsl _ _ _ _ _ _ b p hb (by omega) hsz ⟨fun h=>by omega,by omega⟩ c e' f hcap hfit (by omega)
    · rename_i hml
      have hpo:=hp (by omega)
      exact .rsl _ _ _ _ _ _ b _ hb (by omega) hsz ⟨fun _=>by rw [hpo],by omega⟩ c e' f hcap hfit (by omega)
theorem aDl {y:Aq} {id sz off len cap:Nat} {e:Au} {ds:List D} (hy:SV S y (.rsl id sz off len cap)) (he:S.ent id = .blk e ds) (hl:off+len*sz≤ds.length):∀ E β a,Rel O N S E β a→Src E β (a.eval y) len ((ds.drop off).take (len*sz)):=by
 intro E β a hr
 obtain ⟨b,p,c,e',f,hv,hb,hlc,hsz,hp,hp',hcap,hcs,hcm⟩:=tC (hy.rd hr)
 have hent:=hr.h.ent id
 rw [he] at hent
 obtain ⟨vs,sp,_,hh,_,hvs⟩:=oL hent hb
 by_cases h0:len=0
 · subst h0; exact .inl ⟨.inr ⟨_,_,hv⟩,rfl,by simp⟩
 · have hpo:=hp (by omega)
   subst hpo
   have hvl:=hvs.length
   refine .inr ⟨b,p,cap,(vs.drop p).take (len*sz),hv,fun j u hj=>?_,(hvs.drop p).take _⟩
   rw [kT,cell_of_row _ _ _ _ _ _ hh]
   rw [BV] at hj
   split at hj
   · rename_i hjl
     rw [Em] at hj
     have hlt:=(Ah.1 hj).1
     simpa [AK hlt] using hj
   · cases hj
theorem aCz {vs us sp:List AF} {off:Nat} (h:off+us.length≤vs.length):((vs++sp).take off++us++(vs++sp).drop (off+us.length))=(vs.take off++us++vs.drop (off+us.length))++sp:=by
 rw [AM (by omega),Bk h]; simp
theorem aCK {E:Env} {β:bB} {a:Act} (hr:Rel O N S E β a) {id b off:Nat} {e:Au} {ds es:List D} {vs us sp:List AF} (he:S.ent id = .blk e ds) (hb:β id=some b) (hown:O.own b) (hh:E.w.heap[b]? = some (.cells (Co (vs++sp)) e (0,0))) (hX:∀ o,E.X b o)
 (hl:RdL E β vs ds) (hc:RdL E β us es) (hn:off+es.length≤ds.length) :
 ∃ E':Env,E'.w=E.w.setRow b ((vs++sp).take off++us++(vs++sp).drop (off+us.length)).toArray∧E'.X=E.X∧E.le E'∧Rel O N (S.setE id (.blk e (gC ds off es))) E' β a:=by
 have hvl:=hl.length
 have hul:=hc.length
 have e1:=aCz (sp:=sp) (show off+us.length≤vs.length by omega)
 let E':Env:=⟨E.w.setRow b ((vs++sp).take off++us++(vs++sp).drop (off+us.length)).toArray,E.X⟩
 have hs:Step O E E' b:=⟨rfl,rfl,rfl,by simp [E'],by simpa [E'] using cV hh,hown,fun k _ hk=>setRow_other _ _ _ _ hk,fun _ _ _=>Dw,fun _ h=>by rw [hh] at h; cases h⟩
 have hle:E.le E':=hs.le (fun o v _ h2=>AJ (hX o) h2) (fun c e' f h3=>by
  rw [hh] at h3; cases h3
  exact ⟨_,_,setRow_heap _ _ _ _ _ _ hh,by rw [e1]; simp; omega⟩)
 refine ⟨E',rfl,rfl,hle,hr.n,hr.nd.step hs,?_,fun s=>Cs hle (bB.le.refl _) (hr.sl s)⟩
 refine Dd hr.h hs hle (bB.le.refl _) ?_ ?_ hb ?_ (fun _ _=>trivial)
 · intro j hj; left; exact ⟨by simp [By,entL,Bn,aN,Ne.symm hj],rfl⟩
 · intro j hj hheld hbj
   have:(S.ent j).held=true:=by simpa [By,entL,Bn,aN,Ne.symm hj] using hheld
   exact hj (hr.h.inj j id b this (by rw [he]; rfl) hbj hb)
 · simp only [By,entL,Bn,aN,if_true]
   refine ⟨_,sp,by rw [←e1]; exact setRow_heap _ _ _ _ _ _ hh,hX,?_⟩
   rw [gC,←hul]
   exact AN hle (bB.le.refl _) (((hl.take off).append hc).append (hl.drop _))
theorem xZ {es:List D} (h:es.all DZ=true) (k:Nat):(es.take k).all DZ=true:=by
 rw [AW] at h ⊢
 exact fun x hx=>h x (DW hx)
theorem aFB {T T2 e:Au} {x y:Aq} {id sz off len cap m:Nat} {e':Au} {ds es ds':List D} {z:Af AF} {bytes:Nat} {k:Int} (ho:o.op = .call { callee:=.builtin .copy,args:=#[x,y],argTypes:=#[T,T2] }) (hd:o.dst=some t) (ht:t<N)
 (hu:P.underlying T=some (.slice e)) (hi:TI P e z sz bytes) (he:S.ent id = .blk e' ds) (hy:∀ E β a,Rel O N S E β a→Src E β (a.eval y) m es) (hes:es.length=m*sz) (hone:(es.take (min m len*sz)).all DZ=true)
 (hfit:off+len*sz≤ds.length) (hk:((min m len:Nat):Int)=k) (hds:gC ds off (es.take (min m len*sz))=ds'):∀ E β a,Rel O N S E β a→Rd E β (a.eval x) (.rsl id sz off len cap)→∀ (next:Act→World→Prop) Q,(∀ E' β' a',Rel O N ((S.setE id (.blk e' ds')).set t (.int .i64 k)) E' β' a'→next a' E'.w)→o.wp P a E.w next Q:=by
 intro E β a hr hxr next Q hn
 subst hk hds
 obtain ⟨b,p,c,e'',f,hv,hb,hlc,hsz,hp,hp',hcap,hcs,hcm⟩:=tC hxr
 have hent:=hr.h.ent id
 rw [he] at hent
 obtain ⟨vs,sp,hown,hh,hX,hvs⟩:=oL hent hb
 obtain ⟨i,hi1,hi2,hi3,hi4⟩:=hi.at
 have hvl:=hvs.length
 have hrun0:∀ r,(Builtin.copy_ #[T,T2] o.type #[a.eval x,a.eval y]).run P E.w=r→(execOp a.eval o).run P E.w=r.andThen fun v w'=>.ok (.value v) w':=fun r hr'=>by
  simp [execOp,ho,resolve,invoke,builtin,hr']
 have key:∀ us:List AF,RdL E β us (es.take (min m len*sz))→(0<min m len→p=off)→(Builtin.copy_ #[T,T2] o.type #[a.eval x,a.eval y]).run P E.w = .ok (goInt ((min m len:Nat):Int)) (E.w.setRow b ((vs++sp).take p++us++(vs++sp).drop (p+us.length)).toArray) →
  o.wp P a E.w next Q:=by
  intro us hus hpo hra
  unfold Oper.wp
  rw [hrun0 _ hra]
  have hul:=hus.length
  rw [Bj,hes] at hul
  have hmin:min (min m len*sz) (m*sz)=min m len*sz:=Ca (AP _ (Nat.min_le_left _ _))
  rw [hmin] at hul
  have hle2:min m len*sz≤len*sz:=AP _ (FR _ _)
  have hlt:(es.take (min m len*sz)).length=min m len*sz:=by rw [Bj,hes,hmin]
  have heq:E.w.setRow b ((vs++sp).take p++us++(vs++sp).drop (p+us.length)).toArray=E.w.setRow b ((vs++sp).take off++us++(vs++sp).drop (off+us.length)).toArray:=by
   by_cases h0:0<min m len
   · rw [hpo h0]
   · have:us=[]:=Bf.1 (by rw [hul,show min m len=0 by omega,CO])
     subst this
     simp
  rw [heq]
  obtain ⟨E',h1,h2,h3,h4⟩:=aCK hr he hb hown hh hX hvs hus (off:=off) (by rw [hlt]; omega)
  simp only [Result.andThen_ok,Oper.upon,hd]
  rw [←h1]
  have:=h4.set ht (v:=goInt ((min m len:Nat):Int)) (d:=.int .i64 ((min m len:Nat):Int)) (by unfold goInt; exact .int _ _ _)
  exact hn E' β _ this
 have none_:m=0∨len=0→∀ yo sc,a.eval y = .slice yo m sc→o.wp P a E.w next Q:=by
  intro h0 yo sc hyv
  have hm0:min m len=0:=by omega
  refine key [] (by rw [hm0,CO]; exact .nil _) (fun h=>by omega) ?_
  have e1:E.w.setRow b ((vs++sp).take p++[]++(vs++sp).drop (p+([]:List AF).length)).toArray=E.w:=by
   simp only [AR,Cd,CG,AX]
   exact setRow_self _ _ _ _ _ hh
  rw [e1,hm0,hv,hyv]
  have hl0:∀ q:Addr,(loadCells q 0).run P E.w = .ok #[] E.w:=fun q=>by simpa using run_loadCells_list (P:=P) E.w q [] (by simp)
  have hmn:Nat.min m len=0:=hm0
  cases yo <;> simp [Builtin.copy_,run_underlying hu,Builtin.lenOf,Builtin.firstCells,hi.run_size,hmn,storeCells,hl0]
 rcases hy E β a hr with ⟨hyv,hm0,he0⟩ | ⟨yb,yoff,ycap,us,hyv,hyr,hus⟩
 · subst hm0
   rcases hyv with hyv | ⟨ad,sc,hyv⟩
   · exact none_ (.inl rfl) _ _ hyv
   · exact none_ (.inl rfl) _ _ hyv
 · by_cases h0:m=0∨len=0
   · exact none_ h0 _ _ hyv
   · have hmin:min m len*sz≤m*sz:=AP _ (Nat.min_le_left _ _)
     have hle2:min m len*sz≤len*sz:=AP _ (FR _ _)
     have hul:us.length=m*sz:=by rw [hus.length,hes]
     have hpo:=hp (by omega)
     have hus':=hus.take (min m len*sz)
     have hlt:(us.take (min m len*sz)).length=min m len*sz:=by rw [Bj,hul]; omega
     refine key _ hus' (fun _=>hpo) ?_
     have hl:=run_loadCells_list (P:=P) E.w ⟨yb,yoff,none⟩ (us.take (min m len*sz)) (fun j u hj=>by
      rw [BV] at hj
      split at hj
      · exact hyr j u hj
      · cases hj)
     have hst:=run_storeCells_at P b p e' (us.take (min m len*sz)) 0 (vs++sp).toArray E.w hh (by simp; omega) (wK hus' hone)
     simp only [CG] at hst
     rw [hv,hyv]
     have hmm:Nat.min m len=min m len:=rfl
     rw [hlt] at hl hst ⊢
     simp [Builtin.copy_,run_underlying hu,Builtin.lenOf,Builtin.firstCells,hi.run_size,hmm,hl,hst]
theorem pP {T T2 e:Au} {x y:Aq} {id sz off len cap m:Nat} {e':Au} {ds es ds':List D} {z:Af AF} {bytes:Nat} {k:Int} (ho:o.op = .call { callee:=.builtin .copy,args:=#[x,y],argTypes:=#[T,T2] }) (hd:o.dst=some t) (ht:t<N)
 (hu:P.underlying T=some (.slice e)) (hi:TI P e z sz bytes) (hx:SV S x (.rsl id sz off len cap)) (he:S.ent id = .blk e' ds) (hy:∀ E β a,Rel O N S E β a→Src E β (a.eval y) m es) (hes:es.length=m*sz) (hone:(es.take (min m len*sz)).all DZ=true)
 (hfit:off+len*sz≤ds.length) (hk:((min m len:Nat):Int)=k) (hds:gC ds off (es.take (min m len*sz))=ds'):IOp P O N o S ((S.setE id (.blk e' ds')).set t (.int .i64 k)) :=
 fun E β a hr next Q hn=>aFB ho hd ht hu hi he hy hes hone hfit hk hds E β a hr (hx.rd hr) next Q hn
end
end Go.IL
open _root_.Array renaming getD_eq_getD_getElem? → BF,getElem?_eq_some_iff → Cq,getElem?_setIfInBounds_ne → Bg,getElem?_setIfInBounds_self → BU,length_toList → Fg,size_append → DK
open Go renaming FuncId → BX
open Go.IL.D renaming flat → Ad
open List renaming getElem?_cons_zero → CY,getElem?_eq_getElem → AY,getElem?_toArray → Cw,length_pos_iff → Fe,length_replicate → Cv,mem_map → Al
open Nat renaming lt_irrefl → BN
open Option renaming getD_some → CL
open _root_ renaming if_pos → Az
open Go.RowKit (Below)
namespace Go.IL
section
variable {P:Bc} {O:bG} {N:Nat} {S S':St} {o:Oper} {t:Nat} {Q:Exit→St→Prop}
theorem aBC {T tn e:Au} {x y:Aq} {z:AF} {id sz l cap k bytes:Nat} {ki kn:IntKind} {n:Int} {ds:List D} (id':Nat)
 (ho:o.op = .call { callee:=.builtin .append,args:=#[x,y],argTypes:=#[T,tn] }) (hd:o.dst=some t) (ht:t<N)
 (hu:P.underlying T=some (.slice e)) (htn:P.underlying tn=some (.int kn)) (hi:TI P e (some z) sz bytes) (hz:z.cells.size=sz)
 (hx:SV S x (.rsl id sz 0 l cap)) (he:S.ent id = .blk e ds) (hfr:S.ent id' = .fresh) (hy:SV S y (.int ki n)) (hn:n=(k:Int)) (hk:0<k) (hl:l*sz≤ds.length)
 (hg:cap<l+k) (hm:l+k≤maxLen) (hb:(l+k)*bytes≤140737488355328) :
 IOp P O N o S ((S.setE id' (.blk e (ds.take (l*sz)++AI (k*sz) .dead))).set t (.osl id' sz (l+k))):=by
 intro E β a hr next Q hnx
 subst hn
 obtain ⟨b,p,c,e'',f,hv,hb',hlc,hsz,hp,hp',hcap,hcs,hcm⟩:=tC (hx.rd hr)
 have hp0:p=0:=by omega
 subst hp0
 have hent:=hr.h.ent id
 rw [he] at hent
 obtain ⟨vs,sp,hown,hh,hX,hvs⟩:=oL hent hb'
 obtain ⟨i,hi1,hi2,hi3,hi4⟩:=hi.at
 have hvl:=hvs.length
 have hfre:β id'=none:=by have:=hr.h.ent id'; rw [hfr] at this; exact this
 have hold:(Builtin.firstCells i.size l (.slice (some ⟨b,0,none⟩) l cap)).run P E.w.drew = .ok (vs.take (l*sz)).toArray E.w.drew:=by
  refine run_firstCells_some (P:=P) E.w.drew i.size l ⟨b,0,none⟩ l cap (vs.take (l*sz)) (by rw [Bj,hi3]; omega) fun j u hj=>?_
  rw [kT,Bh]
  have h1:E.w.drew.cell? ⟨b,j,none⟩=E.w.cell? ⟨b,j,none⟩:=rfl
  rw [h1,cell_of_row _ _ _ _ _ _ hh]
  rw [BV] at hj
  split at hj
  · have hlt:=(Ah.1 hj).1
    simpa [AK hlt] using hj
  · cases hj
 have hkb:k*i.bytes≤281474976710656:=by
  have:k*i.bytes≤(l+k)*i.bytes:=AP _ (by omega)
  rw [hi4] at this ⊢; omega
 have hra:=Go.Lib.run_append_grow_zeros (P:=P) E.w T tn o.type e i z ki kn hu htn hi1 hi2 (some ⟨b,0,none⟩) l cap (vs.take (l*sz)) hold k hk (by rw [hi3]; exact hsz) hg (by simp [maxLen] at hm; omega) hkb (growslice_fits (by omega) (by rw [hi4]; exact hb))
 have hyv:=iV (hy.rd hr)
 have hrun:(execOp a.eval o).run P E.w=((Builtin.append_ #[T,tn] o.type #[a.eval x,a.eval y]).run P E.w).andThen fun v w'=>.ok (.value v) w':=by
  simp [execOp,ho,resolve,invoke,builtin]
 unfold Oper.wp
 rw [hrun,hv,hyv,hra]
 simp only [Result.andThen_ok,Oper.upon,hd]
 let C:Array AF:=(vs.take (l*sz)).toArray++Builtin.zeroCells z.cells k++Builtin.zeroCells z.cells (grownCap E.w (l+k) cap e-(l+k))
 let E':Env:=⟨E.w.drew.alloc (.cells C e),fun b o=>b=E.w.heap.size∨E.X b o⟩
 let β':bB:=fun j=>if j=id' then some E.w.heap.size else β j
 have hβ:β.le β':=fun j b hj=>by
  by_cases hji:j=id'
  · subst hji; rw [hfre] at hj; cases hj
  · simp [β',hji,hj]
 have hs:Step O E E' E.w.heap.size :=
  ⟨rfl,rfl,rfl,by simp [E'],by simp [E'],.inl hr.h.size,fun k hk _=>heap_alloc_old E.w.drew _ hk,fun k o hk=>by simp [E',hk],fun _ h=>BN _ (cV h)⟩
 have hle:E.le E':=hs.le (fun o v h1 _=>by have:=World.block_lt_of_cell? _ _ h1; simp at this) (fun c e f h1=>by have:=cV h1; simp at this)
 have hnew:E'.w.heap[E.w.heap.size]? = some (.cells C e (0,0)):=heap_alloc_new E.w.drew _
 have hts:t<a.tmps.size:=hr.n ▸ ht
 refine hnx E' β' _ ⟨by simp [Act.put,hr.n],hr.nd.step hs,?_,fun s=>?_⟩
 · refine Dd hr.h hs hle hβ ?_ ?_ (id:=id') (by simp [β']) ?_ (fun _ _=>trivial)
   · intro j hj; left; constructor
     · simp [By,entL,Bn,Bl,aN,Ne.symm hj]
     · simp [β',hj]
   · intro j hj hheld hbj
     have:(S.ent j).held=true:=by simpa [By,entL,Bn,Bl,aN,Ne.symm hj] using hheld
     have:=hr.h.held_lt this hbj
     omega
   · simp only [By,entL,Bn,Bl,aN,if_true]
     refine ⟨vs.take (l*sz)++(Builtin.zeroCells z.cells k).toList,(Builtin.zeroCells z.cells (grownCap E.w (l+k) cap e-(l+k))).toList,by rw [hnew]; simp [C],fun o=>.inl rfl,(AN hle hβ (hvs.take _)).append ?_⟩
     have:=qF E' β' (Builtin.zeroCells z.cells k).toList
     rwa [show (Builtin.zeroCells z.cells k).toList.length=k*sz by rw [Fg,size_zeroCells,hz]] at this
 · by_cases hst:t=s
   · subst hst
     simp only [Act.put,BZ,Bl,aN,if_true,BF,BU,hts,CL]
     refine .osl _ _ E.w.heap.size _ (grownCap E.w (l+k) cap e) sz (by simp [β']) (grownCap_ge _ _ _ _) hsz _ _ _ hnew ?_ (grownCap_le_maxLen _ _ _ _ hm)
     have h1:=grownCap_ge E.w (l+k) cap e
     simp only [C,DK,Ch,size_zeroCells,hz,Bj]
     rw [Ca (by omega),←Bp,←Bp]
     exact AP _ (by omega)
   · have:=Cs hle hβ (hr.sl s)
     simpa [Act.put,BZ,Bl,Bn,aN,hst,Bg] using this
theorem aAU {T e:Au} {x:Aq} {z:AF} {id sz off len cap bytes:Nat} {e':Au} {ds ds':List D} (ho:o.op = .call { callee:=.builtin .clear,args:=#[x],argTypes:=#[T] }) (hd:o.dst=none)
 (hu:P.underlying T=some (.slice e)) (hi:TI P e (some z) sz bytes) (hz:z.cells.size=sz) (hz1:z.cells.toList.all Value.oneCell'=true) (hx:SV S x (.rsl id sz off len cap)) (he:S.ent id = .blk e' ds) (hfit:off+len*sz≤ds.length)
 (hds:gC ds off (AI (len*sz) .dead)=ds'):IOp P O N o S (S.setE id (.blk e' ds')):=by
 intro E β a hr next Q hn
 subst hds
 obtain ⟨b,p,c,e'',f,hv,hb,hlc,hsz,hp,hp',hcap,hcs,hcm⟩:=tC (hx.rd hr)
 have hent:=hr.h.ent id
 rw [he] at hent
 obtain ⟨vs,sp,hown,hh,hX,hvs⟩:=oL hent hb
 obtain ⟨i,hi1,hi2,hi3,hi4⟩:=hi.at
 have hvl:=hvs.length
 have hrun0:∀ r,(Builtin.clear_ #[T] o.type #[a.eval x]).run P E.w=r→(execOp a.eval o).run P E.w=r.andThen fun v w'=>.ok (.value v) w':=fun r hr'=>by
  simp [execOp,ho,resolve,invoke,builtin,hr']
 have key:∀ us:List AF,us.length=len*sz→(Builtin.clear_ #[T] o.type #[a.eval x]).run P E.w = .ok (.tuple #[]) (E.w.setRow b ((vs++sp).take off++us++(vs++sp).drop (off+us.length)).toArray)→o.wp P a E.w next Q:=by
  intro us hul hra
  unfold Oper.wp
  rw [hrun0 _ hra]
  have hus:=qF E β us
  rw [hul] at hus
  obtain ⟨E',h1,h2,h3,h4⟩:=aCK hr he hb hown hh hX hvs hus (off:=off) (by rw [Cv]; exact hfit)
  simp only [Result.andThen_ok,Oper.upon,hd,Act.put]
  rw [←h1]
  exact hn E' β _ h4
 by_cases h0:len=0
 · subst h0
   refine key [] (by simp) ?_
   have e1:E.w.setRow b ((vs++sp).take off++[]++(vs++sp).drop (off+([]:List AF).length)).toArray=E.w:=by
    simp only [AR,Cd,CG,AX]
    exact setRow_self _ _ _ _ _ hh
   rw [e1,hv]
   simp [Builtin.clear_,run_underlying hu]
 · have hpo:=hp (by omega)
   have hl:(Builtin.zeroCells z.cells len).toList.length=len*sz:=by rw [Fg,size_zeroCells,hz]
   refine key (Builtin.zeroCells z.cells len).toList hl ?_
   have hone:∀ v∈(Builtin.zeroCells z.cells len).toList,v.oneCell'=true:=by
    intro v hv
    rw [AW] at hz1
    simp only [Builtin.zeroCells,Array.toList_map,Al] at hv
    obtain ⟨j,_,rfl⟩:=hv
    have hlt:j % z.cells.size<z.cells.size:=Nat.mod_lt _ (by rw [hz]; exact hsz)
    rw [getElem!_pos z.cells (j % z.cells.size) hlt]
    exact hz1 _ (by simp)
   have hst:=run_storeCells_at P b p e' (Builtin.zeroCells z.cells len).toList 0 (vs++sp).toArray E.w hh (by rw [hl]; simp; omega) hone
   simp only [CG] at hst
   rw [hv]
   subst hpo
   cases len with
   | zero=>exact AJ rfl h0
   | succ len=>simp [Builtin.clear_,run_underlying hu,zeroValue,typeInfo,hi1,hi2,hst]
theorem aBu {f:BX} {g:Array AF→Sem AF} {xs:List Aq} {ts:Array Au} {d:D} (ho:o.op = .call { callee:=.value (.func f),args:=xs.toArray,argTypes:=ts }) (hd:o.dst=some t) (ht:t<N)
 (hc:aAi P f g) (hg:∀ (E:Env) β a,Rel O N S E β a→∃ v,(g (xs.map a.eval).toArray).run P E.w = .ok v E.w∧Rd E β v d):IOp P O N o S (S.set t d) :=
 gW hd ht fun E β a hr=>by
  obtain ⟨fn,h1,h2,h3,h4,h5⟩:=hc
  obtain ⟨v,hv,hrd⟩:=hg E β a hr
  exact ⟨v,by simp [execOp,ho,resolve,Deferred.ofValue,Act.eval,invoke,run_callFunc_extern h1 h2 h3 h4 h5,hv,Result.andThen],hrd⟩
theorem aA9 {f:BX} {T tr e:Au} {x y:Aq} {ts:Array Au} {l:List D} {full:Bool} {id sz off len cap:Nat} {e':Au} {ds:List D} {z:Af AF} {bytes:Nat} (ho:o.op = .call { callee:=.value (.func f),args:=#[x,y],argTypes:=ts }) (hd:o.dst=some t) (ht:t<N)
 (hc:aAi P f (Extern.SlicesOverlaps.overlaps #[T,T] #[tr])) (hu:P.underlying T=some (.slice e)) (hi:TI P e z sz bytes) (hx:SV S x (.slice full l)) (hne:l≠[]) (hy:SV S y (.rsl id sz off len cap)) (he:S.ent id = .blk e' ds) (hlen:ds≠[]):IOp P O N o S (S.set t (.bool false)):=by
 refine aBu (xs:=[x,y]) ho hd ht hc fun E β a hr=>?_
 obtain ⟨b,p,c,e'',f',hv,hb,hlc,hsz,hp,hp',hcap,hcs,hcm⟩:=tC (hy.rd hr)
 have hent:=hr.h.ent id
 rw [he] at hent
 obtain ⟨vs,sp,hown,hh,hX,hvs⟩:=oL hent hb
 refine ⟨.bool false,?_,.bool _ _⟩
 show (Extern.SlicesOverlaps.overlaps #[T,T] #[tr] #[a.eval x,a.eval y]).run P E.w = .ok (.bool false) E.w
 · skip
   rcases pK (hx.rd hr) with ⟨hev,rfl⟩ | ⟨yb,yoff,ycap,ysz,us,hev,hyc,_,hyz,hysp,hyrow,hus⟩ | ⟨ad,ycap,hev,rfl⟩
   · exact AJ rfl hne
   rotate_left
   · exact AJ rfl hne
   · -- a cell of the list
     have hpos:0<us.length:=by
      rw [hus.length]
      obtain ⟨d,r,rfl⟩:=List.exists_cons_of_ne_nil hne
      have:=hyz d (by simp)
      simp [Ad,this]; omega
     have hcell:=hyrow 0 us[0] (AY hpos)
     rw [CG] at hcell
     have hbne:yb≠b:=by rintro rfl; exact hcell.2 (hX _)
     have hybk:∃ cs te fe,E.w.heap[yb]? = some (.cells cs te fe)∧0<cs.size:=by
      have h6:=hcell.1
      unfold World.cell? at h6
      simp only at h6
      split at h6
      · rename_i cs te fe hhb
        refine ⟨cs,te,fe,hhb,?_⟩
        have h7:cs[yoff]? = some us[0]:=by simpa using h6
        have:=(Cq.1 h7).1
        omega
      · cases h6
     obtain ⟨cs,te,fe,hyh,hys⟩:=hybk
     rw [hev,hv]
     have g1:(yb != b)=true:=by simpa using hbne
     have g2:(yb == b)=false:=by simpa using hbne
     have f1:E.w.frozen? ⟨b,p,none⟩=false:=by simp [World.frozen?,hh]
     have f2:E.w.frozen? ⟨b,(vs++sp).length,none⟩=false:=by simp [World.frozen?,hh]
     have s1:E.w.shape? b=some (e',(vs++sp).length):=by simp [World.shape?,hh]
     have s2:E.w.shape? yb=some (te,cs.size):=by simp [World.shape?,hyh]
     change Sem.run P (α:=AF) (do
      let some t := (#[T, T] : Array Au)[0]? | stuck "slices.overlaps: no parameter types"
      let .slice elem ← underlying t | stuck "slices.overlaps: slice type expected"
      let size ←sizeOf elem
      match (some (⟨yb,yoff,none⟩:Addr):Af Addr),(some (⟨b,p,none⟩:Addr):Af Addr) with
      | some a,some b =>
        if l.length=0∨len=0∨size=0 then pure (Value.bool false)
        else if a.block != b.block&&(←frozen a)&&(←frozen b) then unsupported .addressObserved
        else do
         if a.block != b.block then do
          noView a; noView b
          if ← mayBeOne a b then return Value.bool ((← choose (.extern "sameAddr.stringBytes" 2)) == 1)
         pure (Value.bool (a.block == b.block&&a.off<b.off+len*size&&b.off<a.off+l.length*size))
      | _,_=>pure (Value.bool false)) E.w=_
     by_cases h0:l.length=0∨len=0∨sz=0
     · simp only [Sem.run_bind,Cw,run_underlying hu,Result.andThen_ok,hi.run_size,CY]
       rw [Az h0]; rfl
     · obtain ⟨q,hq⟩:∃ q,cs.size=q+1:=⟨cs.size-1,by omega⟩
       rw [hq] at s2
       obtain ⟨u,hu1⟩:∃ u,(vs++sp).length=u+1:=⟨(vs++sp).length-1,by
        have:=hvs.length
        have h8:0<ds.length:=Fe.2 hlen
        simp; omega⟩
       rw [hu1] at s1 f2
       cases hfz:E.w.frozen? ⟨yb,yoff,none⟩ <;> cases hfe:E.w.frozen? ⟨yb,q+1,none⟩ <;>
       simp [run_underlying hu,hi.run_size,h0,g1,g2,frozen,noView,viewAt,mayBeOne,stringish,shape,Sem.run,s1,s2,f1,f2,hfz,hfe]
end
end Go.IL
open Go.IntKind renaming wrap → Ag
open List renaming drop_length → FS,drop_of_length_le → Cj,nil_append → BL,take_of_length_le → Ci
open Go.RowKit (Below)
namespace Go.IL
def insS {α:Type} (b:Nat) (l:List α) (i:Int) (vs:List α):Af (List α) :=
 if 0≤i∧i≤(l.length:Int)∧l.length+vs.length≤9223372036854775807∧(l.length+vs.length)*b≤140737488355328 then some (l.take i.toNat++vs++l.drop i.toNat) else none
theorem insS_e {α:Type} {b:Nat} {l vs r:List α} {i:Int} (h:insS b l i vs=some r):∃ k:Nat,i=(k:Int)∧k≤l.length∧l.length+vs.length≤maxLen∧(l.length+vs.length)*b≤140737488355328∧l.take k++vs++l.drop k=r:=by
 unfold insS at h
 split at h
 · rename_i hh
   obtain ⟨h1,h2,h3,h4⟩:=hh
   exact ⟨i.toNat,by omega,by omega,by unfold maxLen; omega,h4,Option.some.inj h⟩
 · cases h
theorem insS_ok {α:Type} {b:Nat} {l vs:List α} {i:Int} (h0:0≤i) (h1:i≤(l.length:Int)) (h2:l.length+vs.length≤9223372036854775807) (h3:(l.length+vs.length)*b≤140737488355328):insS b l i vs=some (l.take i.toNat++vs++l.drop i.toNat):=Az ⟨h0,h1,h2,h3⟩
section
variable {α:Type} (f:Enc0 α)
theorem Enc0.flat_take (l:List α) (k:Nat):(Ad (l.map f.d)).take (k*f.sz)=Ad ((l.take k).map f.d):=by
 by_cases hk:k≤l.length
 · have h1:=f.flat_append (l.take k) (l.drop k)
   rw [AX] at h1
   have h2:(Ad ((l.take k).map f.d)).length=k*f.sz:=by rw [f.flat_len,Bj,Ca hk]
   rw [←h1,AM (by rw [h2]; exact AL _),←h2,CD]
 · rw [Ci (l:=l) (by omega),Ci (by rw [f.flat_len]; exact AP _ (by omega))]
theorem Enc0.flat_drop (l:List α) (k:Nat):(Ad (l.map f.d)).drop (k*f.sz)=Ad ((l.drop k).map f.d):=by
 by_cases hk:k≤l.length
 · have h1:=f.flat_append (l.take k) (l.drop k)
   rw [AX] at h1
   have h2:(Ad ((l.take k).map f.d)).length=k*f.sz:=by rw [f.flat_len,Bj,Ca hk]
   rw [←h1,←h2,Bk (AL _),FS,BL]
 · rw [Cj (l:=l) (by omega),Cj (by rw [f.flat_len]; exact AP _ (by omega))]; rfl
end
theorem qZ {A B C D':List D} {off:Nat} (h:A.length=off) (hl:B.length=C.length):gC (A++B++D') off C=A++C++D':=by
 subst h
 unfold gC
 have e1:(A++B++D').take A.length=A:=by rw [AG,AM (AL _),CD]
 have e2:(A++B++D').drop (A.length+C.length)=D':=by
  rw [←hl,←Be,Bk (AL _),FS,BL]
 rw [e1,e2]
theorem aEb {X Y V J:List D} {a m:Nat} (ha:X.length=a) (hv:V.length=m) (hj:m≤J.length) :
 gC (gC (X++Y++J) (a+m) Y) a V=X++V++Y++J.drop m:=by
 -- first the tail goes up
 have e1:∃ U W,X++Y++J=(X++U)++W++J.drop m∧U.length=m∧W.length=Y.length:=by
  have hUW:=AX m (Y++J.take m)
  have h1:X++Y++J=X++(Y++J.take m)++J.drop m:=by rw [AG X (Y++_),AG Y,AX,AG]
  refine ⟨(Y++J.take m).take m,(Y++J.take m).drop m,?_,by simp; omega,by simp; omega⟩
  rw [h1,AG X (List.take m (Y++List.take m J)),hUW]
 obtain ⟨U,W,e1,e2,e3⟩:=e1
 rw [e1,qZ (by simp [ha,e2]) e3]
 have e4:X++U++Y++J.drop m=X++U++(Y++J.drop m):=by rw [AG (X++U)]
 rw [e4,qZ ha (by rw [e2,hv]),AG (X++V)]
theorem ins_new {X V Y Z J:List D} {a m:Nat} (ha:X.length=a) (hv:V.length=m) (hz:Z.length=m+Y.length) :
 gC (gC (X++Z++J) a V) (a+m) Y=X++V++Y++J:=by
 have e1:X++Z++J=X++Z.take m++(Z.drop m++J):=by
  rw [AG X,AG X (Z.take m),←AG (Z.take m),AX]
 rw [e1,qZ ha (by simp; omega)]
 have e2:X++V++(Z.drop m++J)=X++V++Z.drop m++J:=by rw [AG (X++V)]
 rw [e2,qZ (by simp [ha,hv]) (by simp; omega)]
theorem yH {l c:List D} {o:Nat} (h:o+c.length≤l.length):(gC l o c).length=l.length:=by unfold gC; simp; omega
theorem wN {a b:Nat} (h:a+b≤maxLen):Ag .i64 ((a:Int)+(b:Int))=((a+b:Nat):Int):=by
 unfold maxLen at h; rw [aGU (by omega) (by omega)]; omega
theorem wS {a b:Nat} (h:b≤a) (h1:a≤maxLen):Ag .i64 ((a:Int)-(b:Int))=((a-b:Nat):Int):=by
 unfold maxLen at h1; rw [aGU (by omega) (by omega)]; omega
end Go.IL
open Int renaming le_refl → Dj
open List renaming length_drop → BP
open Nat renaming le_add_right → Db
open Option renaming map_none → Ef,map_some → DD
open Go.RowKit (Below)
namespace Go.IL
section
variable {P:Bc} {O:bG} {N:Nat} {S S':St} {o:Oper} {t:Nat} {Q:Exit→St→Prop}
theorem Rel.same {E:Env} {β:bB} {a:Act} (h:Rel O N S E β a) (h1:∀ s,S'.get s=S.get s) (h2:∀ j,S'.ent j=S.ent j):Rel O N S' E β a:=by
 have h3:S'.ent=S.ent:=funext h2
 exact ⟨h.n,h.nd,h3 ▸ h.h,fun s=>(h1 s).symm ▸ h.sl s⟩
theorem Rel.kill {E:Env} {β:bB} {a:Act} (h:Rel O N S E β a) (t:Nat):Rel O N (S.set t .dead) E β a:=by
 refine ⟨h.n,h.nd,h.h,fun s=>?_⟩
 by_cases hst:t=s
 · subst hst; simp only [BZ,Bl,aN,if_true]; exact .dead _ _
 · have:=h.sl s
   simpa [BZ,Bl,aN,hst] using this
theorem aAc {S:St} {id:Nat} {e:Ent}:(S.setE id e).ent id=e:=by simp [By,entL,Bn,aN]
theorem xV {S:St} {id j:Nat} {e:Ent} (h:j≠id):(S.setE id e).ent j=S.ent j:=by simp [By,entL,Bn,aN,Ne.symm h]
theorem Rel.shrunk {E:Env} {β:bB} {a:Act} (h:Rel O N S E β a) {id:Nat} {e:Au} {ds ds' j:List D} (he:S.ent id = .blk e ds) (hd:ds=ds'++j):Rel O N (S.setE id (.blk e ds')) E β a:=by
 subst hd
 have hent:=h.h.ent id
 rw [he] at hent
 have held:∀ j,((S.setE id (.blk e ds')).ent j).held=(S.ent j).held:=fun j=>by
  by_cases hj:j=id
  · subst hj; rw [aAc,he]; rfl
  · rw [xV hj]
 refine ⟨h.n,h.nd,{ h.h with ent:=fun k=>?_,inj:=fun i j k hi hj=>h.h.inj i j k (held i ▸ hi) (held j ▸ hj) },h.sl⟩
 by_cases hk:k=id
 · subst hk
   rw [aAc]
   rcases hent with ⟨h1,h2⟩ | ⟨b,vs,sp,h1,h2,h3,h4,h5⟩
   · exact .inl ⟨h1,(List.append_eq_nil_iff.1 h2).1⟩
   · refine .inr ⟨b,vs.take ds'.length,vs.drop ds'.length++sp,h1,h2,by rw [←AG,AX]; exact h3,h4,?_⟩
     have:=h5.take ds'.length
     rwa [AM (AL _),CD] at this
 · rw [xV hk]; exact h.h.ent k
theorem aDP {α:Type} (f:Enc0 α) (l:List α) (k:Nat):Ad (l.map f.d)=Ad ((l.take k).map f.d)++Ad ((l.drop k).map f.d):=by
 rw [f.flat_append,AX]
theorem zA {α:Type} (f:Enc0 α) {T e e':Au} {x y:Aq} {z:Af AF} {bytes id n:Nat} {l r:List α} {k:IntKind} {h:Int} (ho:o.op = .slice T x none (some y) none) (hd:o.dst=some t) (ht:t<N)
 (hu:P.underlying T=some (.slice e)) (hi:TI P e z f.sz bytes) (hx:SV S x (.osl id f.sz n)) (he:S.ent id = .blk e' (Ad (l.map f.d))) (hn:l.length≤n) (hy:SV S y (.int k h)) (hc:cut l 0 h=some r) :
 IOp P O N o S ((S.setE id (.blk e' (Ad (r.map f.d)))).set t (.osl id f.sz r.length)):=by
 obtain ⟨⟨_,h0,h1⟩,hr'⟩:=aGH hc
 have hr2:l.take h.toNat=r:=by simpa using hr'
 have hrl:r.length=h.toNat:=by rw [←hr2,Bj]; omega
 have key:IOp P O N o S (S.set t (.osl id f.sz r.length)):=gW hd ht fun E β a hr=>by
  have hhi:tZ S (n:Int) (some y) h:=⟨_,hy⟩
  have hlo:tZ S 0 none 0:=rfl
  have h1:=hx.rd hr
  generalize hv:a.eval x=v at h1
  cases h1 with
  | nosl =>
    have hb:=pU (P:=P) hr (isS:=true) hlo hhi (Dj 0) h0 (by omega) (AL _)
    have e1:h.toNat=0:=by omega
    refine ⟨.slice none 0 0,?_,by rw [hrl,e1]; exact .nosl _ _ _⟩
    simp only [Ef,DD] at hb
    simp [execOp,ho,hv,Instr.sliceAt,Instr.slice,run_underlying hu,hb,hi.run_size,e1]
  | osl _ _ b _ cap _ hb' hc' hsz c e2 f2 hcap hcs hcm =>
    have hb:=pU (P:=P) hr (isS:=true) hlo hhi (Dj 0) h0 (by omega) hc'
    simp only [Ef,DD] at hb
    refine ⟨.slice (some ⟨b,0,none⟩) h.toNat cap,?_,by rw [hrl]; exact .osl _ _ b _ cap _ hb' (by omega) hsz c e2 f2 hcap hcs hcm⟩
    simp [execOp,ho,hv,Instr.sliceAt,Instr.slice,run_underlying hu,hb,hi.run_size,Addr.add]
 intro E β a hr next Q hn'
 refine key E β a hr next Q fun E' β' a' hr'=>hn' E' β' a' ?_
 exact hr'.shrunk (ds':=Ad (r.map f.d)) (j:=Ad ((l.drop h.toNat).map f.d)) he (by rw [←hr2]; exact aDP f l _)
theorem yJ {T e:Au} {x y:Aq} {z:Af AF} {size bytes:Nat} {k:IntKind} (ho:o.op = .slice T x (some y) none none) (hd:o.dst=some t) (ht:t<N)
 (hu:P.underlying T=some (.slice e)) (hi:TI P e z size bytes) (hx:SV S x .nils) (hy:SV S y (.int k 0)):IOp P O N o S (S.set t .nils) :=
 gW hd ht fun E β a hr=>by
  have h1:=hx.rd hr
  generalize hv:a.eval x=v at h1
  cases h1
  refine ⟨.slice none 0 0,?_,.nils _⟩
  simp [execOp,ho,hv,Instr.sliceAt,Instr.slice,run_underlying hu,hi.run_size,Instr.sliceBounds,Instr.sliceBound,iV (hy.rd hr),asIntOf]
theorem yK {T e:Au} {x:Aq} (ho:o.op = .call { callee:=.builtin .clear,args:=#[x],argTypes:=#[T] }) (hd:o.dst=none)
 (hu:P.underlying T=some (.slice e)) (hx:SV S x .nils):IOp P O N o S S:=by
 intro E β a hr next Q hn
 have h1:=hx.rd hr
 generalize hv:a.eval x=v at h1
 cases h1
 have:(execOp a.eval o).run P E.w = .ok (.value (.tuple #[])) E.w:=by
  simp [execOp,ho,resolve,invoke,builtin,hv,Builtin.clear_,run_underlying hu]
 unfold Oper.wp
 rw [this]
 simp only [Oper.upon,hd,Act.put]
 exact hn E β _ hr
theorem xS {α:Type} (f:Enc0 α) {ops:Array Oper} {o1 o2:Oper} {c:List Oper} {T e e':Au} {y:Aq} {z:AF} {bytes id n t1 tx:Nat} {l r:List α} {k:IntKind} {i:Int} (g1:nA o1=true) (g2:nA o2=true)
 (ho1:o1.op = .slice T (.tmp tx) (some y) none none) (hd1:o1.dst=some t1) (ht:t1<N) (ho2:o2.op = .call { callee:=.builtin .clear,args:=#[.tmp t1],argTypes:=#[T] }) (hd2:o2.dst=none)
 (hu:P.underlying T=some (.slice e)) (hi:TI P e (some z) f.sz bytes) (hz:z.cells.size=f.sz) (hz1:z.cells.toList.all Value.oneCell'=true) (hx:S.get tx = .osl id f.sz n) (he:S.ent id = .blk e' (Ad (l.map f.d))) (hn:l.length=n)
 (hy:∀ S1:St,(∀ s,tx≠s→S1.get s=S.get s)→SV S1 y (.int k i)) (hc:cut l 0 i=some r) (K:ILS P O N ops c (((S.setE id (.blk e' (Ad (r.map f.d)))).set tx .dead).set t1 .dead) Q):ILS P O N ops (o1::o2::c) S Q:=by
 obtain ⟨⟨_,h0,h1⟩,hr'⟩:=aGH hc
 have hr2:l.take i.toNat=r:=by simpa using hr'
 have hfl:=f.flat_len l
 intro E β a hr
 rcases hr.opened hx he (by rw [hfl,hn]) with ⟨hn0,h3⟩ | ⟨cap,hc1,hc2,h3⟩
 · have hl0:l=[]:=Bf.1 (by omega)
   subst hl0
   obtain rfl:i=0:=by simp at h1; omega
   obtain rfl:r=[]:=by simpa using hr2.symm
   refine aB g1 (yJ ho1 hd1 ht hu hi (sv (d:=.nils) (by simp [St.op,BZ,Bl,aN])) (hy _ fun s hs=>by simp [BZ,Bl,aN,hs])) (aB g2 (yK ho2 hd2 hu (sv (d:=.nils) (by simp [St.op,BZ,Bl,aN]))) ?_) E β a h3
   intro E' β' a' h4
   refine K E' β' a' (((h4.kill tx).kill t1).same (fun s=>?_) (fun j=>?_))
   · by_cases h6:t1=s <;> by_cases h7:tx=s <;> simp [BZ,Bl,Bn,aN,h6,h7]
   · simp only [By,entL,Bl,Bn,aN]
     split
     · rename_i h5; subst h5; exact he.symm
     · rfl
 · have hyS:=hy ((S.setE id (.blk e' (Ad (l.map f.d)++AI ((cap-n)*f.sz) .dead))).set tx (.rsl id f.sz 0 n cap)) fun s hs=>by simp [BZ,Bl,Bn,aN,hs]
   have hin:i.toNat≤n:=by omega
   have hmul:i.toNat*f.sz+(n-i.toNat)*f.sz=n*f.sz:=by rw [←Bp]; congr 1; omega
   refine aB g1 (hB (id:=id) (off:=0) (len:=n) (cap:=cap) (sz:=f.sz) (l:=i) (h:=n) (m:=cap) (d:=.rsl id f.sz (i.toNat*f.sz) (n-i.toNat) (cap-i.toNat)) ho1 hd1 ht hu hi (sv (d:=.rsl _ _ _ _ _) (by simp [St.op,BZ,Bl,aN])) ⟨_,hyS⟩ rfl rfl (by simp) h0 (by omega) (by omega) (by omega) (by simp))
    (aB g2 (aAU (e':=e') (ds:=Ad (l.map f.d)++AI ((cap-n)*f.sz) D.dead) ho2 hd2 hu hi hz hz1 (sv (d:=.rsl id f.sz (i.toNat*f.sz) (n-i.toNat) (cap-i.toNat)) (by simp [St.op,BZ,Bl,aN])) (by simp [By,entL,Bl,Bn,aN]) (by rw [Be,hfl,hn,hmul]; exact Db _ _) rfl) ?_) E β a h3
   intro E' β' a' h4
   have h5:=h4.shrunk (id:=id) (e:=e') (ds':=Ad (r.map f.d)) (j:=AI ((n-i.toNat)*f.sz) .dead++(Ad (l.map f.d)++AI ((cap-n)*f.sz) D.dead).drop (n*f.sz)) aAc (by
    unfold gC
    rw [Cv,hmul,AM (by rw [hfl,hn]; exact AP _ hin),f.flat_take,hr2,AG])
   refine K E' β' a' (((h5.kill tx).kill t1).same (fun s=>?_) (fun j=>?_))
   · by_cases h6:t1=s <;> by_cases h7:tx=s <;> simp [BZ,Bl,Bn,aN,h6,h7]
   · simp only [By,entL,Bl,Bn,aN]; repeat' split <;> rfl
theorem aBV {b:Frame} {a:Act} {k:List Item} {cs:List Frame} {w:World} {c:Code}:step P (lone (b.atR a (.code (.scope c)::k)) cs w) = .next (lone (b.atR a (.code c :: .inScope c::k)) cs w) :=
 step_lone_go (by simp [stepG,stepG.exec,Frame.atR])
theorem zQ {b:Frame} {a:Act} {k:List Item} {cs:List Frame} {w:World} {c:Code}:step P (lone (b.atR a (.inScope c::k)) cs w) = .next (lone (b.atR a k) cs w) :=
 step_lone_go (by simp [stepG,stepG.exec,Frame.atR])
theorem aGi {α:Type} {l r:List α} {a b:Int} (h:cut l a b=some r):r.length≤l.length:=by
 obtain ⟨_,hr⟩:=aGH h
 rw [←hr,BP,Bj]; omega
end
end Go.IL
open Bool renaming and_eq_true → AA,or_false → Cl
open Go.IL.D renaming refsInL → AD,renL → BA
open Go.IL.Ent renaming held → DA,held_ren → BM
open Go.IL.Env.le renaming refl → BY
open Go.IL.RdL renaming ren → Ck,renp → DC
open List renaming map_cons → Am,map_map → BG,mem_cons → Av,mem_cons_of_mem → Bi,mem_cons_self → BW,mem_range → DO,range → Bw
open Nat renaming ble → AZ,ble_eq → BT,blt → DM,blt_eq → BK,le_of_ble_eq_true → Di,le_trans → BE,lt_of_lt_of_le → BB
open Prod renaming fst → Cz
open _root_ renaming if_neg → An
open Go.RowKit (Below)
namespace Go.IL
section
variable {P:Bc} {O:bG} {N:Nat} {S S':St} {o:Oper} {t:Nat} {Q:Exit→St→Prop}
structure HandM (S:St) (k:Nat) (A:List Nat) (H0:List (Nat×Ent)):Prop where
 nd:A.Nodup
 cov:A.all (fun i=>(H0.map fun x=>sig k A x.1).contains i)=true
 ents:∀ x∈H0,eS A x.1=true∧x.2.held=true∧S.ent (sig k A x.1)=x.2.ren (sig k A)∧x.2.refsIn (eS A)=true
def pG (m:Nat) (A:List Nat) (i:Nat):Bool:=DM i m||eS A i
theorem aDF {f:BX} {ds ds':List D} {r r':D} {H0 H1 H2:List (Nat×Ent)} (k m:Nat) (A:List Nat) (hd:o.dst=some t) (ht:t<N)
 (h:∀ E β a,Rel O N S E β a→∃ vs:List AF,(execOp a.eval o).run P E.w = .ok (.enter f vs.toArray) E.w∧RdL E β vs ds') (hds:BA (sig k A) ds=ds') (hp:AD (eS A) ds=true)
 (hkm:k+m≤1000) (hfr:∀ j,j<m→S.ent (k+j) = .fresh) (hh:HandM S k A H0) (hf:FnH P f ds H0 r H1) (hrr:r.ren (sig k A)=r') (hrp:r.refsIn (pG m A)=true) (hH1:∀ x∈H1,pG m A x.1=true∧x.2.refsIn (pG m A)=true)
 (hH2:tY k A H0 H1 S.H=H2):IOp P O N o S (Bl ⟨S.sl,H2⟩ t r'):=by
 intro E β a hr next Q hn
 obtain ⟨vs,hrun,hv⟩:=h E β a hr
 unfold Oper.wp
 rw [hrun]
 simp only [Oper.upon,hd]
 subst hds hrr hH2
 let βc:bB:=fun i=>if eS A i=true then β (sig k A i) else none
 have hβc:∀ id,eS A id=true→βc id=β (sig k A id):=fun id hid=>by simp [βc,hid]
 have hvc:RdL E βc vs ds:=Ck hβc ds hv hp
 have h0:∀ i,(entL H0 i).held=true→eS A i=true∧S.ent (sig k A i)=(entL H0 i).ren (sig k A)∧(entL H0 i).refsIn (eS A)=true:=fun i hi=>by
  have h1:=hh.ents _ (pZ hi)
  exact ⟨h1.1,h1.2.2.1,h1.2.2.2⟩
 have hcall:HOk ⟨E.w,E.X,kG βc H0,βc,none,fun _=>[],fun _=>0,fun _=>[],fun _=>(#[],.skip,.skip),E.w.heap.size⟩ E βc (entL H0):={
  tab:=hr.h.good.tab,os:=rfl,tape:=rfl,output:=rfl,size:=AL _,mbs:=AL _,block:=fun _ _ _=>rfl,xlt:=hr.h.xlt,xold:=fun _ _ _ _=>Dw,le:=BY _
  gid:=fun i b hi=>by
   by_cases hg:eS A i=true
   · simp only [eS,AA,BT] at hg; exact hg.1
   · simp [βc,hg] at hi
  given:=fun _ _ hi=>hi
  ent := fun i=>by
   cases hhe:(entL H0 i).held with
   | true =>
     obtain ⟨h1,h2,h3⟩:=h0 i hhe
     have he:=hr.h.ent (sig k A i)
     rw [h2] at he
     have hown:∀ b,βc i=some b→(⟨E.w,E.X,kG βc H0,βc,none,fun _=>[],fun _=>0,fun _=>[],fun _=>(#[],.skip,.skip),E.w.heap.size⟩:bG).own b:=fun b hb=>.inr ⟨i,hhe,hb⟩
     cases hE:entL H0 i with
     | none=>trivial
     | fresh=>rw [hE] at hhe; cases hhe
     | blk e es =>
       rw [hE] at he h3
       rcases he with ⟨g1,g2⟩ | ⟨b,ws,sp,g1,g2,g3,g4,g5⟩
       · exact .inl ⟨(hβc i h1).trans g1,oN g2⟩
       · exact .inr ⟨b,ws,sp,(hβc i h1).trans g1,hown b ((hβc i h1).trans g1),g3,g4,Ck hβc es g5 h3⟩
     | tail e sz n =>
       rw [hE] at he
       rcases he with ⟨g1,g2⟩ | ⟨b,c,g1,g2,g3,g4⟩
       · exact .inl ⟨(hβc i h1).trans g1,g2⟩
       · exact .inr ⟨b,c,(hβc i h1).trans g1,hown b ((hβc i h1).trans g1),g3,g4⟩
     | loop lk es st pe =>
       rw [hE] at h3; cases h3
     | mp ks es =>
       rw [hE] at he h3
       obtain ⟨b,xs,cl,g1,g2,g3,g4,g5,g6⟩:=he
       exact ⟨b,xs,cl,(hβc i h1).trans g1,hown b ((hβc i h1).trans g1),g3,g4,g5,Ck hβc es g6 h3⟩
     | kept n es=>rw [hE] at hhe; cases hhe
   | false =>
     cases hE:entL H0 i with
     | none=>trivial
     | fresh =>
       show βc i=none
       by_cases hm:i∈H0.map (·.1)
       · obtain ⟨e,h1,h2⟩:=gZ (z:=defE i) hm
         have h3:=hh.ents _ h1
         have:entL H0 i=e:=h2
         rw [hE] at this; rw [←this] at h3; exact AJ h3.2.1 (by simp [DA])
       · have:entL H0 i=defE i:=gS hm
         rw [hE] at this
         unfold defE at this
         split at this
         · cases this
         · rename_i hlt
           have:¬ eS A i=true:=by simp only [eS,AA,BT]; omega
           simp [βc,this]
     | blk=>rw [hE] at hhe; cases hhe
     | tail=>rw [hE] at hhe; cases hhe
     | loop=>rw [hE] at hhe; cases hhe
     | mp=>rw [hE] at hhe; cases hhe
     | kept n es =>
       exfalso
       by_cases hm:i∈H0.map (·.1)
       · obtain ⟨e,h1,h2⟩:=gZ (z:=defE i) hm
         have h3:=hh.ents _ h1
         have:entL H0 i=e:=h2
         rw [hE] at this; rw [←this] at h3; exact AJ h3.2.1 (by simp [DA])
       · have:entL H0 i=defE i:=gS hm
         rw [hE] at this
         unfold defE at this
         split at this <;> cases this
  inj:=fun i j b hi hj h1 h2=>by
   obtain ⟨a1,a2,_⟩:=h0 i hi
   obtain ⟨b1,b2,_⟩:=h0 j hj
   have h1:β (sig k A i)=some b:=(hβc i a1).symm.trans h1
   have h2:β (sig k A j)=some b:=(hβc j b1).symm.trans h2
   exact wC hh.nd a1 b1 (hr.h.inj _ _ b (by rw [a2,BM]; exact hi) (by rw [b2,BM]; exact hj) h1 h2) }
 refine (hf E βc vs hr.h.good hcall.gid hcall hvc).mono ?_
 rintro e w' ⟨v,rfl,E',β',rfl,hok,hrd⟩
 -- old blocks that were not handed over
 have hfoot:∀ b,kG βc H0 b→∃ i,eS A i=true∧(S.ent (sig k A i)).held=true∧β (sig k A i)=some b:=fun b ⟨i,hi,hb⟩=>by
  obtain ⟨h1,h2,_⟩:=h0 i hi
  exact ⟨i,h1,by rw [h2,BM]; exact hi,by rw [←hβc i h1]; exact hb⟩
 have hfown:∀ b,kG βc H0 b→O.own b:=fun b hb=>by
  obtain ⟨i,_,h2,h3⟩:=hfoot b hb
  have he:=hr.h.ent (sig k A i)
  exact hr.h.own h2 h3
 have hcown:∀ b,(⟨E.w,E.X,kG βc H0,βc,none,fun _=>[],fun _=>0,fun _=>[],fun _=>(#[],.skip,.skip),E.w.heap.size⟩:bG).own b→O.own b:=fun b hb=>by
  rcases hb with hb | hb
  · exact .inl (BE hr.h.size hb)
  · exact hfown b hb
 have hfrE:∀ i,k≤i∧i<k+m→S.ent i = .fresh:=fun i h1=>by
  have:=hfr (i-k) (by omega)
  rwa [show k+(i-k)=i by omega] at this
 have hfresh:∀ i,k≤i→i<k+m→β i=none:=fun i h1 h2=>by
  have he:=hr.h.ent i
  rw [hfrE i ⟨h1,h2⟩] at he; exact he
 let βn:bB:=fun i=>if k≤i∧i<k+m then β' (i-k) else if i∈A then β' (1000+A.idxOf i) else β i
 have hAk:∀ i,i∈A→¬ (k≤i∧i<k+m):=fun i hi hki=>by
  have h1:=AW.1 hh.cov i hi
  obtain ⟨x,hx,hxe⟩:=Al.1 (by simpa using h1:i∈H0.map (fun x=>sig k A x.1))
  have h2:=hh.ents x hx
  rw [hxe,hfrE i hki] at h2
  have h3:(x.2.ren (sig k A)).held=true:=by rw [BM]; exact h2.2.1
  rw [←h2.2.2.1] at h3; cases h3
 have hnA:∀ i,i∈A→βn i=β' (1000+A.idxOf i):=fun i hi=>by simp [βn,hAk i hi,hi]
 have hnO:∀ i,i ∉ A→¬ (k≤i∧i<k+m)→βn i=β i:=fun i h1 h2=>by simp [βn,h1,h2]
 have hβ1:β.le βn:=fun i b hi=>by
  by_cases hki:k≤i∧i<k+m
  · rw [hfresh i hki.1 hki.2] at hi; cases hi
  · by_cases hA:i∈A
    · rw [hnA i hA]
      obtain ⟨h1,h2⟩:=rI (k:=k) hA
      exact hok.given _ _ (((hβc _ h1).trans (by rw [h2])).trans hi)
    · rw [hnO i hA hki]; exact hi
 have hβ2:∀ i,pG m A i=true→βn (sig k A i)=β' i:=fun i hi=>by
  by_cases hg:eS A i=true
  · rw [hnA _ (mF hg),wD hh.nd hg]
  · simp only [pG,hg,Cl,BK] at hi
    have h2:¬ 1000≤i:=by omega
    have h1:sig k A i=k+i:=by simp [sig,h2]
    rw [h1]
    simp [βn,hi]
 have hle:E.le E':=hok.le
 -- the entries behind the call
 have hkey1:∀ i,pG m A i=true→∀ j,pG m A j=true→sig k A i=sig k A j→i=j:=fun i hi j hj hij=>by
  by_cases hgi:eS A i=true
  · by_cases hgj:eS A j=true
    · exact wC hh.nd hgi hgj hij
    · exfalso
      simp only [pG,hgj,Cl,BK] at hj
      have h2:sig k A j=k+j:=by simp [sig,show ¬1000≤j by omega]
      exact hAk _ (mF (k:=k) hgi) (by rw [hij,h2]; omega)
  · by_cases hgj:eS A j=true
    · exfalso
      simp only [pG,hgi,Cl,BK] at hi
      have h2:sig k A i=k+i:=by simp [sig,show ¬1000≤i by omega]
      exact hAk _ (mF (k:=k) hgj) (by rw [←hij,h2]; omega)
    · simp only [pG,hgi,hgj,Cl,BK] at hi hj
      simp only [sig,show ¬1000≤i by omega,show ¬1000≤j by omega,if_false] at hij
      omega
 have hent:∀ i,(Bl ⟨S.sl,tY k A H0 H1 S.H⟩ t (r.ren (sig k A))).ent i =
  if i∈H1.map (fun x=>sig k A x.1) then (look (defE i) i (H1.map fun x=>(sig k A x.1,x.2.ren (sig k A)))) else if i∈H0.map (fun x=>sig k A x.1) then .none else S.ent i:=fun i=>by
  simp only [By,entL,Bl,tY,nO,BG]
  have e1:(Cz ∘ fun x:Nat×Ent=>(sig k A x.1,x.2.ren (sig k A)))=fun x=>sig k A x.1:=rfl
  have e2:(Cz ∘ fun x:Nat×Ent=>(sig k A x.1,Ent.none))=fun x=>sig k A x.1:=rfl
  rw [e1,e2]
  split
  · rfl
  · split
    · rename_i h1 h2
      obtain ⟨e,h3,h4⟩:=gZ (z:=defE i) (l:=H0.map fun x=>(sig k A x.1,Ent.none)) (by rw [BG,e2]; exact h2)
      rw [h4]
      obtain ⟨x,_,hx⟩:=Al.1 h3
      cases hx; rfl
    · rfl
 have hlook1:∀ j,pG m A j=true→j∈H1.map (·.1)→look (defE (sig k A j)) (sig k A j) (H1.map fun x=>(sig k A x.1,x.2.ren (sig k A)))=(entL H1 j).ren (sig k A):=by
  intro j hj
  unfold entL
  have aux:∀ (z z':Ent) (l:List (Nat×Ent)),(∀ x∈l,pG m A x.1=true)→j∈l.map (·.1)→look z (sig k A j) (l.map fun x=>(sig k A x.1,x.2.ren (sig k A)))=(look z' j l).ren (sig k A):=by
   intro z z' l
   induction l with
   | nil=>intro _ h; simp at h
   | cons x l ih =>
     obtain ⟨i,e⟩:=x
     intro hl hm
     simp only [Am,aN]
     by_cases hij:i=j
     · subst hij; rw [Az rfl,Az rfl]
     · rw [An (fun h=>hij (hkey1 i (hl (i,e) BW) j hj h)),An hij]
       refine ih (fun x hx=>hl x (Bi _ hx)) ?_
       simp only [Am,Av] at hm
       rcases hm with h | h
       · exact AJ h.symm hij
       · exact h
  exact aux _ _ H1 (fun x hx=>(hH1 x hx).1)
 have hH1r:∀ j,j∈H1.map (·.1)→pG m A j=true∧(entL H1 j).refsIn (pG m A)=true:=fun j hj=>by
  obtain ⟨e,h1,h2⟩:=gZ (z:=defE j) hj
  have h3:=hH1 _ h1
  exact ⟨h3.1,by rw [show entL H1 j=e from h2]; exact h3.2⟩
 have cases1:∀ i,i∈H1.map (fun x=>sig k A x.1)→∃ j,j∈H1.map (·.1)∧pG m A j=true∧i=sig k A j:=fun i hi=>by
  obtain ⟨x,hx,rfl⟩:=Al.1 hi
  exact ⟨x.1,Al.2 ⟨x,hx,rfl⟩,(hH1 x hx).1,rfl⟩
 -- an entry that was not handed over
 have hold:∀ i,i ∉ H1.map (fun x=>sig k A x.1)→i ∉ H0.map (fun x=>sig k A x.1)→(S.ent i).held=true→∀ b,β i=some b→βn i=some b∧b<E.w.heap.size∧¬ kG βc H0 b:=fun i h1 h2 h3 b hb=>by
  refine ⟨hβ1 i b hb,?_,?_⟩
  · exact hr.h.lt h3 hb
  · rintro ⟨j,hj,hbj⟩
    obtain ⟨g1,g2,_⟩:=h0 j hj
    have:i=sig k A j:=hr.h.inj i (sig k A j) b h3 (by rw [g2,BM]; exact hj) hb (by rw [←hβc j g1]; exact hbj)
    exact h2 (Al.2 ⟨_,pZ hj,this.symm⟩)
 have hcov:∀ i,i∈A→i∈H0.map (fun x=>sig k A x.1):=fun i hi=>by
  have:=AW.1 hh.cov i hi
  simpa using this
 have hold':∀ i,i ∉ H0.map (fun x=>sig k A x.1)→S.ent i ≠ .fresh→βn i=β i:=fun i h0 hf=>by
  refine hnO i (fun hA=>h0 (hcov i hA)) (fun hki=>hf ?_)
  exact hfrE i hki
 refine hn E' βn _ ⟨by simp [Act.put,hr.n],hr.nd.mono (fun b hx=>(hok.block b (cV hx) (fun hf=>by obtain ⟨i,_,h2,h3⟩:=hfoot b hf; exact hr.h.nodef h2 h3 _ hx)).trans hx),?_,?_⟩
 · exact {
    tab:=hr.h.tab,os:=hok.os.trans hr.h.os,tape:=hok.tape.trans hr.h.tape,output:=hok.output.trans hr.h.output,size:=BE hr.h.size hok.size,mbs:=hr.h.mbs
    block:=fun j hj hf=>by
     have hnf:¬ kG βc H0 j:=fun h=>by
      rcases hfown j h with h1 | h1
      · omega
      · exact hf h1
     exact (hok.block j (BB hj hr.h.size) hnf).trans (hr.h.block j hj hf)
    xlt:=hok.xlt
    xold:=fun b o hb hf=>by
     have hnf:¬ kG βc H0 b:=fun h=>by
      rcases hfown b h with h1 | h1
      · omega
      · exact hf h1
     exact (hok.xold b o (BB hb hr.h.size) hnf).trans (hr.h.xold b o hb hf)
    le:=hr.h.le.trans hle
    gid:=hr.h.gid
    given:=fun i b hi=>hβ1 i b (hr.h.given i b hi)
    ent := fun i=>by
     rw [hent i]
     by_cases hi1:i∈H1.map (fun x=>sig k A x.1)
     · rw [Az hi1]
       obtain ⟨j,hj,hbj,rfl⟩:=cases1 i hi1
       rw [hlook1 j hbj hj]
       have he:=hok.ent j
       have hrf:=(hH1r j hj).2
       have hb2:=hβ2 j hbj
       cases hE:entL H1 j with
       | none=>trivial
       | fresh=>rw [hE] at he; exact hb2.trans he
       | blk e es =>
         rw [hE] at he hrf
         rcases he with ⟨g1,g2⟩ | ⟨b,ws,sp,g1,g2,g3,g4,g5⟩
         · exact .inl ⟨hb2.trans g1,by rw [g2]; rfl⟩
         · exact .inr ⟨b,ws,sp,hb2.trans g1,hcown b g2,g3,g4,DC (fun id b hid hb=>(hβ2 id hid).trans hb) g5 hrf⟩
       | tail e sz n =>
         rw [hE] at he
         rcases he with ⟨g1,g2⟩ | ⟨b,c,g1,g2,g3,g4⟩
         · exact .inl ⟨hb2.trans g1,g2⟩
         · exact .inr ⟨b,c,hb2.trans g1,hcown b g2,g3,g4⟩
       | loop lk es st pe =>
         rw [hE] at hrf; cases hrf
       | mp ks es =>
         rw [hE] at he hrf
         obtain ⟨b,xs,cl,g1,g2,g3,g4,g5,g6⟩:=he
         exact ⟨b,xs,cl,hb2.trans g1,hcown b g2,g3,g4,g5,DC (fun id b hid hb=>(hβ2 id hid).trans hb) g6 hrf⟩
       | kept n es=>rw [hE] at hrf; cases hrf
     · rw [An hi1]
       by_cases hi0:i∈H0.map (fun x=>sig k A x.1)
       · rw [Az hi0]; trivial
       · rw [An hi0]
         have he:=hr.h.ent i
         have hnb:∀ b,(S.ent i).held=true→β i=some b→βn i=some b∧E'.w.heap[b]? = E.w.heap[b]? ∧ ∀ o,(E'.X b o↔E.X b o):=fun b hhe hb=>by
          obtain ⟨g1,g2,g3⟩:=hold i hi1 hi0 hhe b hb
          exact ⟨g1,hok.block b g2 g3,fun o=>hok.xold b o g2 g3⟩
         cases hE:S.ent i with
         | none=>trivial
         | fresh =>
           rw [hE] at he
           show βn i=none
           by_cases hki:k≤i∧i<k+m
           · -- a fresh name of the callee's that is told by nothing
             have hbi:i-k ∉ H1.map (·.1):=fun hm=>by
              have hbb:=(hH1r _ hm).1
              refine hi1 ?_
              obtain ⟨x,hx,hxe⟩:=Al.1 hm
              refine Al.2 ⟨x,hx,?_⟩
              have hx':x.1=i-k:=hxe
              rw [hx']
              simp only [sig,show ¬1000≤i-k by omega,if_false]
              omega
             have h3:=hok.ent (i-k)
             have h4:entL H1 (i-k)=defE (i-k):=gS hbi
             rw [h4,defE,An (by omega)] at h3
             simp only [βn,hki,and_self,if_true]
             exact h3
           · rw [hnO i (fun hA=>hi0 (hcov i hA)) hki]; exact he
         | blk e es =>
           rw [hE] at he
           rcases he with ⟨g1,g2⟩ | ⟨b,ws,sp,g1,g2,g3,g4,g5⟩
           · exact .inl ⟨(hold' i hi0 (by rw [hE]; exact fun h=>by cases h)).trans g1,g2⟩
           · obtain ⟨f1,f2,f3⟩:=hnb b (by rw [hE]; rfl) g1
             exact .inr ⟨b,ws,sp,f1,g2,f2.trans g3,fun o=>(f3 o).2 (g4 o),AN hle hβ1 g5⟩
         | tail e sz n =>
           rw [hE] at he
           rcases he with ⟨g1,g2⟩ | ⟨b,c,g1,g2,g3,g4⟩
           · exact .inl ⟨(hold' i hi0 (by rw [hE]; exact fun h=>by cases h)).trans g1,g2⟩
           · obtain ⟨f1,f2,f3⟩:=hnb b (by rw [hE]; rfl) g1
             exact .inr ⟨b,c,f1,g2,f2.trans g3,fun o ho=>(f3 o).2 (g4 o ho)⟩
         | loop lk es st pe =>
           rw [hE] at he
           obtain ⟨b,q,g1,g2,g3,g4,g5,g6,g7,g8,g9,g10⟩:=he
           obtain ⟨f1,f2,f3⟩:=hnb b (by rw [hE]; rfl) g1
           exact ⟨b,q,f1,g2,f2.trans g3,fun o=>(f3 o).2 (g4 o),g5,g6,g7,g8,g9,g10.1,AN hle hβ1 g10.2⟩
         | mp ks es =>
           rw [hE] at he
           obtain ⟨b,xs,cl,g1,g2,g3,g4,g5,g6⟩:=he
           obtain ⟨f1,f2,f3⟩:=hnb b (by rw [hE]; rfl) g1
           exact ⟨b,xs,cl,f1,g2,f2.trans g3,fun o=>(f3 o).2 (g4 o),g5,AN hle hβ1 g6⟩
         | kept n es =>
           rw [hE] at he
           exact ⟨AN hle hβ1 he.1,fun c hc=>(hok.block c (cV (he.2 c hc)) (fun hf=>by obtain ⟨i,_,h2,h3⟩:=hfoot c hf; exact hr.h.nodef h2 h3 _ (he.2 c hc))).trans (he.2 c hc)⟩
    inj := fun i j b hi hj hbi hbj=>by
     rw [hent i] at hi
     rw [hent j] at hj
     have hone:∀ i,i∈H1.map (fun x=>sig k A x.1)→(look (defE i) i (H1.map fun x=>(sig k A x.1,x.2.ren (sig k A)))).held=true→βn i=some b→∃ a,(entL H1 a).held=true∧β' a=some b∧i=sig k A a∧pG m A a=true:=fun i hm hh hb=>by
      obtain ⟨a,ha,hba,rfl⟩:=cases1 i hm
      rw [hlook1 a hba ha,BM] at hh
      exact ⟨a,hh,(hβ2 a hba).symm.trans hb,rfl,hba⟩
     have hown1:∀ a,(entL H1 a).held=true→β' a=some b→E.w.heap.size≤b∨kG βc H0 b:=fun a hh hb=>by
      exact hok.own hh hb
     have hto:∀ i,i ∉ H0.map (fun x=>sig k A x.1)→(S.ent i).held=true→βn i=some b→β i=some b:=fun i h0 hh hb=>by
      rw [←hold' i h0 (fun h=>by rw [h] at hh; cases hh)]; exact hb
     have hmix:∀ i j,i∈H1.map (fun x=>sig k A x.1)→(look (defE i) i (H1.map fun x=>(sig k A x.1,x.2.ren (sig k A)))).held=true→βn i=some b→j ∉ H1.map (fun x=>sig k A x.1)→j ∉ H0.map (fun x=>sig k A x.1)→(S.ent j).held=true→βn j=some b→False:=fun i j h1 h2 h3 h4 h5 h6 h7=>by
      obtain ⟨a,ha,hb,_⟩:=hone i h1 h2 h3
      obtain ⟨_,f2,f3⟩:=hold j h4 h5 h6 b (hto j h5 h6 h7)
      rcases hown1 a ha hb with h | h
      · omega
      · exact f3 h
     by_cases hi1:i∈H1.map (fun x=>sig k A x.1)
     · rw [Az hi1] at hi
       by_cases hj1:j∈H1.map (fun x=>sig k A x.1)
       · rw [Az hj1] at hj
         obtain ⟨a,ha,hab,rfl,_⟩:=hone i hi1 hi hbi
         obtain ⟨c,hc,hcb,rfl,_⟩:=hone j hj1 hj hbj
         rw [hok.inj a c b ha hc hab hcb]
       · rw [An hj1] at hj
         by_cases hj0:j∈H0.map (fun x=>sig k A x.1)
         · rw [Az hj0] at hj; cases hj
         · rw [An hj0] at hj
           exact (hmix i j hi1 hi hbi hj1 hj0 hj hbj).elim
     · rw [An hi1] at hi
       by_cases hi0:i∈H0.map (fun x=>sig k A x.1)
       · rw [Az hi0] at hi; cases hi
       · rw [An hi0] at hi
         by_cases hj1:j∈H1.map (fun x=>sig k A x.1)
         · rw [Az hj1] at hj
           exact (hmix j i hj1 hj hbj hi1 hi0 hi hbi).elim
         · rw [An hj1] at hj
           by_cases hj0:j∈H0.map (fun x=>sig k A x.1)
           · rw [Az hj0] at hj; cases hj
           · rw [An hj0] at hj
             exact hr.h.inj i j b hi hj (hto i hi0 hi hbi) (hto j hj0 hj hbj) }
 · intro s
   have hts:t<a.tmps.size:=hr.n ▸ ht
   by_cases hst:t=s
   · subst hst
     have h1:=Rd.renp (p:=pG m A) (fun id b hid hb=>(hβ2 id hid).trans hb) hrd hrp
     simpa [Act.put,BZ,Bl,aN,hts] using h1
   · have:=Cs hle hβ1 (hr.sl s)
     simpa [Act.put,BZ,Bl,aN,hst,Bg] using this

theorem pD {f:BX} {xs:List Aq} {ts:Array Au} {ds ds':List D} {r r':D} {H0 H1 U:List (Nat×Ent)} (k m:Nat) (A:List Nat) (ho:o.op = .call { callee:=.value (.func f),args:=xs.toArray,argTypes:=ts }) (hd:o.dst=some t) (ht:t<N)
 (hc:aY P f) (hx:SVs S xs ds') (hds:BA (sig k A) ds=ds') (hp:AD (eS A) ds=true) (hkm:AZ (k+m) 1000=true) (hfr:∀ e∈(Bw m).map (fun j=>S.ent (k+j)),e = .fresh)
 (hh:HandM S k A H0) (hf:FnH P f ds H0 r H1) (hrr:r.ren (sig k A)=r') (hrp:r.refsIn (pG m A)=true) (hH1:∀ x∈H1,pG m A x.1=true∧x.2.refsIn (pG m A)=true)
 (hU:(H1.map fun x=>(sig k A x.1,x.2.ren (sig k A)))++(H0.map fun x=>(sig k A x.1,Ent.none))=U):IOp P O N o S ⟨(t,r')::S.sl,U++S.H⟩:=by
 have h:=aDF (P:=P) (O:=O) (N:=N) (S:=S) (o:=o) (t:=t) (f:=f) (ds:=ds) (ds':=ds') (r:=r) (r':=r') (H0:=H0) (H1:=H1) (H2:=U++S.H) k m A hd ht (fun E β a hr=>⟨xs.map a.eval,by
  simp [execOp,ho,resolve,Deferred.ofValue,Act.eval,invoke,gP hc],hx.rd hr⟩) hds hp (Di hkm) (fun j hj=>hfr _ (Al.2 ⟨j,DO.2 hj,rfl⟩)) hh hf hrr hrp hH1 (by rw [←hU,tY,AG])
 exact h
end
end Go.IL
namespace Go.IL
section
variable {P:Bc} {O:bG} {N:Nat} {S S':St} {o:Oper} {t:Nat} {Q:Exit→St→Prop}

end
end Go.IL
open Go.RowKit (Below)
namespace Go.IL
section
variable {P:Bc} {O:bG} {N:Nat} {S S':St} {o:Oper} {t:Nat} {Q:Exit→St→Prop}
end
end Go.IL
open Bool renaming or_true → EL
namespace Go.IL
theorem M.{u} {α : Sort u} {a : α} : a = a := rfl
def dd_ : Nat → List D → List D
  | 0, l => l
  | n + 1, l => .dead :: dd_ n l
theorem sj_ {α : Type} {a b : α} (h : some a = some b) : a = b := Option.some.inj h
section
variable {P:Bc} {O:bG} {N:Nat} {S S':St} {o:Oper} {t:Nat} {Q:Exit→St→Prop}
theorem lb {a b:Nat} (h:AZ (a+1) b=true):a<b:=Di h
theorem svI {x:Aq} {k:IntKind} {n:Int} (h:S.op x = .int k n):SV S x (.int k n):=sv h
theorem svB {x:Aq} {n:Bool} (h:S.op x = .bool n):SV S x (.bool n):=sv h
theorem svR {x:Aq} {i j:Nat} (h:S.op x = .ref i j):SV S x (.ref i j):=sv h
theorem svL {x:Aq} {f:Bool} {l:List D} (h:S.op x = .slice f l):SV S x (.slice f l):=sv h
theorem svA {x:Aq} (l:List D) (h:S.op x = .agg l):SV S x (.agg l):=sv h
theorem svcI {x:Aq} {b:Bool} {k:IntKind} {n:Int} (h:S.op x = .cnd b (.int k n)) (hb:b=true):SV S x (.int k n):=svc h hb
theorem svcB {x:Aq} {b n:Bool} (h:S.op x = .cnd b (.bool n)) (hb:b=true):SV S x (.bool n):=svc h hb
theorem svcR {x:Aq} {b:Bool} {i j:Nat} (h:S.op x = .cnd b (.ref i j)) (hb:b=true):SV S x (.ref i j):=svc h hb
theorem svcL {x:Aq} {b:Bool} {f:Bool} {l:List D} (h:S.op x = .cnd b (.slice f l)) (hb:b=true):SV S x (.slice f l):=svc h hb
theorem svcA {x:Aq} {b:Bool} (l:List D) (h:S.op x = .cnd b (.agg l)) (hb:b=true):SV S x (.agg l):=svc h hb
theorem mvI {x:Aq} {k:IntKind} {n:Int} (ho:o.op = .move x) (hd:o.dst=some t) (ht:AZ (t+1) N=true) (hx:S.op x = .int k n):IOp P O N o S (S.set t (.int k n)):=bL ho hd (lb ht) (sv hx)
theorem mvB {x:Aq} {n:Bool} (ho:o.op = .move x) (hd:o.dst=some t) (ht:AZ (t+1) N=true) (hx:S.op x = .bool n):IOp P O N o S (S.set t (.bool n)):=bL ho hd (lb ht) (sv hx)
theorem mvR {x:Aq} {i j:Nat} (ho:o.op = .move x) (hd:o.dst=some t) (ht:AZ (t+1) N=true) (hx:S.op x = .ref i j):IOp P O N o S (S.set t (.ref i j)):=bL ho hd (lb ht) (sv hx)
theorem mvL {x:Aq} {f:Bool} {l:List D} (ho:o.op = .move x) (hd:o.dst=some t) (ht:AZ (t+1) N=true) (hx:S.op x = .slice f l):IOp P O N o S (S.set t (.slice f l)):=bL ho hd (lb ht) (sv hx)
theorem asI {x:Aq} {k:IntKind} {n:Int} (ho:o.op = .assign x) (hd:o.dst=some t) (ht:AZ (t+1) N=true) (hx:S.op x = .int k n):IOp P O N o S (S.set t (.int k n)):=bM ho hd (lb ht) (sv hx)
theorem asB {x:Aq} {n:Bool} (ho:o.op = .assign x) (hd:o.dst=some t) (ht:AZ (t+1) N=true) (hx:S.op x = .bool n):IOp P O N o S (S.set t (.bool n)):=bM ho hd (lb ht) (sv hx)
def LA (P:Bc) (T:Au) (u:TypeDesc) (z:Af AF) (size bytes:Nat) (g:Bool):Prop:=P.underlying T=some u∧iT P T=g∧TI P T z size bytes∧0<size
theorem LA.mk {T:Au} {u:TypeDesc} {z:Af AF} {size bytes:Nat} {g:Bool} (h1:P.underlying T=some u) (h2:iT P T=g) (h3:TI P T z size bytes) (h4:0<size):LA P T u z size bytes g:=⟨h1,h2,h3,h4⟩
theorem lra {T:Au} {x:Aq} {u:TypeDesc} {z:Af AF} {size bytes:Nat} {id off:Nat} {e:Au} {ds:List D} (cs:List D) (l:LA P T u z size bytes true) (ho:o.op = .load T x) (hd:o.dst=some t) (ht:AZ (t+1) N=true)
 (hx:S.op x = .ref id off) (he:S.ent id = .blk e ds) (hn:off+size≤ds.length) (hdd:(ds.drop off).take size=cs):IOp P O N o S (S.set t (.agg cs)):=kW ho hd (lb ht) l.1 l.2.1 l.2.2.1 l.2.2.2 (sv hx) he hn hdd
theorem lrL {T:Au} {x:Aq} {u:TypeDesc} {z:Af AF} {size bytes:Nat} {id off:Nat} {e:Au} {ds r:List D} {f:Bool} {m:List D} (l:LA P T u z size bytes false) (ho:o.op = .load T x) (hd:o.dst=some t) (ht:AZ (t+1) N=true)
 (hx:S.op x = .ref id off) (he:S.ent id = .blk e ds) (hn:off+size≤ds.length) (hdd:ds.drop off = .slice f m::r):IOp P O N o S (S.set t (.slice f m)):=hD ho hd (lb ht) l.1 l.2.1 l.2.2.1 l.2.2.2 (sv hx) he hn hdd
theorem rva {x:Nat} {T:Au} {id off:Nat} {e:Au} {ds cs:List D} {u:TypeDesc} {z:Af AF} {size bytes:Nat} (l:LA P T u z size bytes true) (hx:S.get x = .ref id off) (he:S.ent id = .blk e ds)
 (hn:off+size≤ds.length) (hd:(ds.drop off).take size=cs):ResV P S (.cell x T) (.agg cs):=resv_a hx he l.1 l.2.1 l.2.2.1 l.2.2.2 hn hd
theorem stA {T:Au} {x y:Aq} {z:Af AF} {size bytes:Nat} {id off:Nat} {e:Au} {ds:List D} (c ds':List D) (hi:TI P T z size bytes) (ho:o.op = .store T x y) (hd:o.dst=none)
 (hx:S.op x = .ref id off) (he:S.ent id = .blk e ds) (hy:S.op y = .agg c) (hb:(D.agg c).boxable=true) (hsz:(D.agg c).cells.length=size) (h1:(D.agg c).cells.all DZ=true)
 (hn:off+size≤ds.length) (hds:gC ds off (D.agg c).cells=ds'):IOp P O N o S (S.setE id (.blk e ds')):=eK ho hd hi (sv hx) he (sv hy) hb hsz h1 hn hds
theorem faR {T:Au} {x:Aq} {i:Nat} {fs:Array Field} {F:Field} {z:Af AF} {size bytes:Nat} {id off:Nat} (off':Nat) (ho:o.op = .fieldAddr T x i) (hd:o.dst=some t) (ht:AZ (t+1) N=true)
 (hu:P.underlying T=some (.struct fs)) (hf:fs[i]? = some F) (hi:TI P F.type z size bytes) (hs:0<size) (hx:S.op x = .ref id off) (ho':off+F.offset=off'):IOp P O N o S (S.set t (.ref id off')) :=
 gH ho hd (lb ht) hu hf hi hs (sv hx) ho'
theorem svaI {n:Node} {S0:St} {s:Nat} {k:IntKind} {m:Int} (hA:rL n S S0) (hm:n.rs.elem s=true) (h:S0.get s = .int k m):SV S (.tmp s) (.int k m):=sv (agr hA hm h)
theorem svaB {n:Node} {S0:St} {s:Nat} {m:Bool} (hA:rL n S S0) (hm:n.rs.elem s=true) (h:S0.get s = .bool m):SV S (.tmp s) (.bool m):=sv (agr hA hm h)
theorem svaR {n:Node} {S0:St} {s i j:Nat} (hA:rL n S S0) (hm:n.rs.elem s=true) (h:S0.get s = .ref i j):SV S (.tmp s) (.ref i j):=sv (agr hA hm h)
theorem svaL {n:Node} {S0:St} {s:Nat} {f:Bool} {l:List D} (hA:rL n S S0) (hm:n.rs.elem s=true) (h:S0.get s = .slice f l):SV S (.tmp s) (.slice f l):=sv (agr hA hm h)
theorem svaA {n:Node} {S0:St} {s:Nat} (l:List D) (hA:rL n S S0) (hm:n.rs.elem s=true) (h:S0.get s = .agg l):SV S (.tmp s) (.agg l):=sv (agr hA hm h)
theorem AllW.s {ρ:Nat→Nat} {t:Nat} {d:D} {l:List (Nat×D)} (h:S.get t=d.ren ρ) (hr:d.refsIn S'.okn=true) (k:AllW (SlW S S' ρ) l):AllW (SlW S S' ρ) ((t,d)::l):=.cons (.same h hr) k
theorem AllW.sames {ρ:Nat→Nat}:∀ {l:List (Nat×D)},l.map (fun p=>S.get p.1)=l.map (fun p=>p.2.ren ρ)→(l.all fun p=>p.2.refsIn S'.okn)=true→AllW (SlW S S' ρ) l
 | [],_,_=>.nil
 | (t,d)::l,h,hr=>by
   simp only [Am,List.cons.injEq] at h
   simp only [List.all_cons,AA] at hr
   exact .cons (.same h.1 hr.1) (AllW.sames h.2 hr.2)
end
theorem SubL.k {d:D} {ds ds':List D} (t:SubL ds ds'):SubL (d::ds) (d::ds'):=.cons (.refl d) t
theorem SubL.k4 {a b c d:D} {ds ds':List D} (t:SubL ds ds'):SubL (a::b::c::d::ds) (a::b::c::d::ds'):=.k (.k (.k (.k t)))
theorem FDL.k {S:St} {d:D} {ds ds':List D} (t:FDL S ds ds'):FDL S (d::ds) (d::ds'):=.cons (.refl d) t
theorem FDL.k4 {S:St} {a b c d:D} {ds ds':List D} (t:FDL S ds ds'):FDL S (a::b::c::d::ds) (a::b::c::d::ds'):=.k (.k (.k (.k t)))
theorem SubL.all:∀ (l:List D),SubL l l
 | []=>.nil
 | d::l=>.cons (.refl d) (SubL.all l)
theorem FDL.all {S:St} (l:List D):FDL S l l:=pQ l
theorem or_tt {a b:Bool} (h:(a||true)=b):b=true:=by rw [←h,EL]
end Go.IL
open Prod renaming snd → Dg
open _root_ renaming congrArg → AH
namespace Go.IL
section
variable {P:Bc} {O:bG} {N:Nat} {S S':St} {o:Oper} {t:Nat} {Q:Exit→St→Prop}
theorem gG {ops:Array Oper} {l:List Oper} {j tj:Nat} {want b:Bool} {d:D} (h:(o.guard,(ops[j]?).bind (·.dst),S.get tj,o.dst,qL o.op,AZ (t+1) N)=(some (j,want),some tj,.bool b,some t,true,true))
 (x:(b == want)=true→IOp P O N o S (S.set t d)) (k:ILS P O N ops l (S.set t (.cnd (b == want) d)) Q):ILS P O N ops (o::l) S Q:=by
 simp only [Prod.mk.injEq] at h
 obtain ⟨h1,h2,h3,h4,h5,h6⟩:=h
 exact tP h1 h2 (.one h3) (by rw [h4,h5]) (lb h6) x k
theorem tFa {T:Au} {x:Aq} {i:Nat} {fs:Array Field} {F:Field} {z:Af AF} {size bytes:Nat} {id off:Nat} (off':Nat) (hu:P.underlying T=some (.struct fs)) (h:(o.op,o.dst,AZ (t+1) N,fs[i]?)=(.fieldAddr T x i,some t,true,some F)) (hi:TI P F.type z size bytes)
 (h2:(AZ (0+1) size,S.op x,off+F.offset)=(true,.ref id off,off')):IOp P O N o S (S.set t (.ref id off')):=by
 simp only [Prod.mk.injEq] at h h2
 exact faR off' h.1 h.2.1 h.2.2.1 hu h.2.2.2 hi (lb h2.1) h2.2.1 h2.2.2
theorem tLd {T:Au} {x:Aq} {u:TypeDesc} {z:Af AF} {size bytes:Nat} {id off:Nat} {e:Au} {ds r:List D} {d:D} (hu:P.underlying T=some u) (hg:iT P T=false) (hi:TI P T z size bytes)
 (h:(o.op,o.dst,AZ (t+1) N,AZ (0+1) size,S.op x,S.ent id,AZ (off+size) ds.length,ds.drop off)=(.load T x,some t,true,true,.ref id off,.blk e ds,true,d::r)):IOp P O N o S (S.set t d):=by
 simp only [Prod.mk.injEq] at h
 exact hD h.1 h.2.1 (lb h.2.2.1) hu hg hi (lb h.2.2.2.1) (svR h.2.2.2.2.1) h.2.2.2.2.2.1 (nle h.2.2.2.2.2.2.1) h.2.2.2.2.2.2.2
theorem tLc {T:Au} {x:Aq} {u:TypeDesc} {z:Af AF} {size bytes:Nat} {id off:Nat} {e:Au} {ds r:List D} {d:D} {b:Bool} (hu:P.underlying T=some u) (hg:iT P T=false) (hi:TI P T z size bytes)
 (h:(o.op,o.dst,AZ (t+1) N,AZ (0+1) size,S.op x,S.ent id,AZ (off+size) ds.length,ds.drop off)=(.load T x,some t,true,true,.cnd b (.ref id off),.blk e ds,true,d::r)) (hb:b=true):IOp P O N o S (S.set t d):=by
 simp only [Prod.mk.injEq] at h
 exact hD h.1 h.2.1 (lb h.2.2.1) hu hg hi (lb h.2.2.2.1) (svcR h.2.2.2.2.1 hb) h.2.2.2.2.2.1 (nle h.2.2.2.2.2.2.1) h.2.2.2.2.2.2.2
theorem tSt {T:Au} {x y:Aq} {z:Af AF} {size bytes:Nat} {id off:Nat} {e:Au} {ds:List D} (c ds':List D) (hi:TI P T z size bytes)
 (h:(o.op,o.dst,S.op x,S.ent id,S.op y,(D.agg c).boxable,(D.agg c).cells.length,(D.agg c).cells.all DZ,AZ (off+size) ds.length,gC ds off (D.agg c).cells)=(.store T x y,none,.ref id off,.blk e ds,.agg c,true,size,true,true,ds')):IOp P O N o S (S.setE id (.blk e ds')):=by
 simp only [Prod.mk.injEq] at h
 exact stA c ds' hi h.1 h.2.1 h.2.2.1 h.2.2.2.1 h.2.2.2.2.1 h.2.2.2.2.2.1 h.2.2.2.2.2.2.1 h.2.2.2.2.2.2.2.1 (nle h.2.2.2.2.2.2.2.2.1) h.2.2.2.2.2.2.2.2.2
theorem tLr {T:Au} {x:Aq} {u:TypeDesc} {z:Af AF} {size bytes:Nat} {id off:Nat} {e:Au} {ds:List D} (cs:List D) (l:LA P T u z size bytes true)
 (h:(o.op,o.dst,AZ (t+1) N,S.op x,S.ent id,AZ (off+size) ds.length,(ds.drop off).take size)=(.load T x,some t,true,.ref id off,.blk e ds,true,cs)):IOp P O N o S (S.set t (.agg cs)):=by
 simp only [Prod.mk.injEq] at h
 exact lra cs l h.1 h.2.1 h.2.2.1 h.2.2.2.1 h.2.2.2.2.1 (nle h.2.2.2.2.2.1) h.2.2.2.2.2.2
theorem tAs {x:Aq} (d:D) (h:(o.op,o.dst,AZ (t+1) N,S.op x)=(.assign x,some t,true,d)):IOp P O N o S (S.set t d):=by
 simp only [Prod.mk.injEq] at h
 exact bM h.1 h.2.1 (lb h.2.2.1) (sv h.2.2.2)
theorem tBx {e:Au} {x:Aq} {cs:List D} (c:List D) (id:Nat) (h:(o.op,o.dst,AZ (t+1) N,S.ent id,S.op x,(D.agg c).boxable,(D.agg c).cells)=(.box e x,some t,true,.fresh,.agg c,true,cs)):IOp P O N o S ((S.setE id (.blk e cs)).set t (.ref id 0)):=by
 simp only [Prod.mk.injEq] at h
 exact iZ id h.1 h.2.1 (lb h.2.2.1) h.2.2.2.1 (svA c h.2.2.2.2.1) h.2.2.2.2.2.1 h.2.2.2.2.2.2
theorem tI {x:Aq} {k:IntKind} {n:Int} (h:(o.op,o.dst,AZ (t+1) N,S.op x)=(.move x,some t,true,.int k n)):IOp P O N o S (S.set t (.int k n)):=by
 simp only [Prod.mk.injEq] at h
 exact mvI h.1 h.2.1 h.2.2.1 h.2.2.2
theorem tB {x:Aq} {n:Bool} (h:(o.op,o.dst,AZ (t+1) N,S.op x)=(.move x,some t,true,.bool n)):IOp P O N o S (S.set t (.bool n)):=by
 simp only [Prod.mk.injEq] at h
 exact mvB h.1 h.2.1 h.2.2.1 h.2.2.2
theorem tAI {x:Aq} {k:IntKind} {n:Int} (h:(o.op,o.dst,AZ (t+1) N,S.op x)=(.assign x,some t,true,.int k n)):IOp P O N o S (S.set t (.int k n)):=by
 simp only [Prod.mk.injEq] at h
 exact asI h.1 h.2.1 h.2.2.1 h.2.2.2
theorem tAB {x:Aq} {n:Bool} (h:(o.op,o.dst,AZ (t+1) N,S.op x)=(.assign x,some t,true,.bool n)):IOp P O N o S (S.set t (.bool n)):=by
 simp only [Prod.mk.injEq] at h
 exact asB h.1 h.2.1 h.2.2.1 h.2.2.2
theorem tMv {x:Aq} (d:D) (h:(o.op,o.dst,AZ (t+1) N,S.op x)=(.move x,some t,true,d)):IOp P O N o S (S.set t d):=by
 simp only [Prod.mk.injEq] at h
 exact bL h.1 h.2.1 (lb h.2.2.1) (sv h.2.2.2)
theorem tEx {x:Aq} {i:Nat} {cs:List D} {d:D} (h:(o.op,o.dst,AZ (t+1) N,S.op x,cs[i]?)=(.extract x i,some t,true,.tuple cs,some d)):IOp P O N o S (S.set t d):=by
 simp only [Prod.mk.injEq] at h
 exact gO h.1 h.2.1 (lb h.2.2.1) (sv h.2.2.2.1) h.2.2.2.2
theorem tCm {op:BinOp} {xt yt:Au} {x y:Aq} {k:IntKind} {a b:Int} {c c':Bool} (h:(o.op,o.dst,AZ (t+1) N,S.op x,S.op y,int2 op k a b)=(.binOp op xt x y yt,some t,true,.int k a,.int k b,some (.bool c))) (hc:c=c'):IOp P O N o S (S.set t (.bool c')):=by
 simp only [Prod.mk.injEq] at h
 exact gT h.1 h.2.1 (lb h.2.2.1) (svI h.2.2.2.1) (svI h.2.2.2.2.1) h.2.2.2.2.2 hc
theorem tCg {op:BinOp} {xt yt:Au} {x y:Aq} {k:IntKind} {a b:Int} {c c' g:Bool} (h:(o.op,o.dst,AZ (t+1) N,S.op x,S.op y,int2 op k a b)=(.binOp op xt x y yt,some t,true,.cnd g (.int k a),.int k b,some (.bool c))) (hb:g=true) (hc:c=c'):IOp P O N o S (S.set t (.bool c')):=by
 simp only [Prod.mk.injEq] at h
 exact gT h.1 h.2.1 (lb h.2.2.1) (svcI h.2.2.2.1 hb) (svI h.2.2.2.2.1) h.2.2.2.2.2 hc
theorem tCh {op:BinOp} {xt yt:Au} {x y:Aq} {k:IntKind} {a b:Int} {c c' g:Bool} (h:(o.op,o.dst,AZ (t+1) N,S.op x,S.op y,int2 op k a b)=(.binOp op xt x y yt,some t,true,.cnd g (.int k a),.cnd g (.int k b),some (.bool c))) (hb:g=true) (hc:c=c'):IOp P O N o S (S.set t (.bool c')):=by
 simp only [Prod.mk.injEq] at h
 exact gT h.1 h.2.1 (lb h.2.2.1) (svcI h.2.2.2.1 hb) (svcI h.2.2.2.2.1 hb) h.2.2.2.2.2 hc
theorem tOr {c x y:Aq} {b z r:Bool} (h:(o.op,o.dst,AZ (t+1) N,S.op c,S.op x,S.op y)=(.pick c x y,some t,true,.bool b,.bool true,.cnd (b == false) (.bool z))) (hr:(b||z)=r):IOp P O N o S (S.set t (.bool r)):=by
 simp only [Prod.mk.injEq] at h
 exact aAR h.1 h.2.1 (lb h.2.2.1) (svB h.2.2.2.1) h.2.2.2.2.1 h.2.2.2.2.2 hr
theorem tAn {c x y:Aq} {b z r:Bool} (h:(o.op,o.dst,AZ (t+1) N,S.op c,S.op x,S.op y)=(.pick c x y,some t,true,.bool b,.cnd (b == true) (.bool z),.bool false)) (hr:(b&&z)=r):IOp P O N o S (S.set t (.bool r)):=by
 simp only [Prod.mk.injEq] at h
 exact kX h.1 h.2.1 (lb h.2.2.1) (svB h.2.2.2.1) h.2.2.2.2.1 h.2.2.2.2.2 hr
theorem dMv {ops:Array Oper} {i:Nat} {S0:St} {rs ri:List Nat} {s:Nat} {d:D} (h:(ops[i]?,nA o,o.op,o.dst,AZ (t+1) N,rs.elem s,S0.get s)=(some o,true,.move (.tmp s),some t,true,true,d)):LOp P O N ops i S0 ⟨rs,ri,[(t,d)],[]⟩:=by
 simp only [Prod.mk.injEq] at h
 exact lop h.1 h.2.1 fun S hA=>bL h.2.2.1 h.2.2.2.1 (lb h.2.2.2.2.1) (sv (agr hA h.2.2.2.2.2.1 h.2.2.2.2.2.2))
theorem dFa {ops:Array Oper} {i:Nat} {S0:St} {rs ri:List Nat} {T:Au} {s:Nat} {k:Nat} {fs:Array Field} {F:Field} {z:Af AF} {size bytes:Nat} {id off:Nat} (off':Nat) (hu:P.underlying T=some (.struct fs)) (h:(ops[i]?,nA o,o.op,o.dst,AZ (t+1) N,fs[k]?)=(some o,true,.fieldAddr T (.tmp s) k,some t,true,some F)) (hi:TI P F.type z size bytes)
 (h2:(AZ (0+1) size,rs.elem s,S0.get s,off+F.offset)=(true,true,.ref id off,off')):LOp P O N ops i S0 ⟨rs,ri,[(t,.ref id off')],[]⟩:=by
 simp only [Prod.mk.injEq] at h h2
 exact lop h.1 h.2.1 fun S hA=>gH h.2.2.1 h.2.2.2.1 (lb h.2.2.2.2.1) hu h.2.2.2.2.2 hi (lb h2.1) (sv (agr hA h2.2.1 h2.2.2.1)) h2.2.2.2
theorem dLd {ops:Array Oper} {i:Nat} {S0:St} {rs ri:List Nat} {T:Au} {s:Nat} {u:TypeDesc} {z:Af AF} {size bytes:Nat} {id off:Nat} {e:Au} {ds r:List D} {d:D} (hu:P.underlying T=some u) (hg:iT P T=false) (hi:TI P T z size bytes)
 (h:(ops[i]?,nA o,o.op,o.dst,AZ (t+1) N,AZ (0+1) size,rs.elem s,S0.get s,ri.elem id,S0.ent id,AZ (off+size) ds.length,ds.drop off)=(some o,true,.load T (.tmp s),some t,true,true,true,.ref id off,true,.blk e ds,true,d::r)):LOp P O N ops i S0 ⟨rs,ri,[(t,d)],[]⟩:=by
 simp only [Prod.mk.injEq] at h
 obtain ⟨h1,h2,h3,h4,h5,h6,h7,h8,h9,h10,h11,h12⟩:=h
 exact lop h1 h2 fun S hA=>hD h3 h4 (lb h5) hu hg hi (lb h6) (sv (agr hA h7 h8)) (agi hA h9 h10) (nle h11) h12
theorem dLa {ops:Array Oper} {i:Nat} {S0:St} {rs ri:List Nat} {T:Au} {s:Nat} {u:TypeDesc} {z:Af AF} {size bytes:Nat} {id off:Nat} {e:Au} {ds cs:List D} (hu:P.underlying T=some u) (hg:iT P T=true) (hi:TI P T z size bytes)
 (h:(ops[i]?,nA o,o.op,o.dst,AZ (t+1) N,AZ (0+1) size,rs.elem s,S0.get s,ri.elem id,S0.ent id,AZ (off+size) ds.length,(ds.drop off).take size)=(some o,true,.load T (.tmp s),some t,true,true,true,.ref id off,true,.blk e ds,true,cs)):LOp P O N ops i S0 ⟨rs,ri,[(t,.agg cs)],[]⟩:=by
 simp only [Prod.mk.injEq] at h
 obtain ⟨h1,h2,h3,h4,h5,h6,h7,h8,h9,h10,h11,h12⟩:=h
 exact lop h1 h2 fun S hA=>kW h3 h4 (lb h5) hu hg hi (lb h6) (sv (agr hA h7 h8)) (agi hA h9 h10) (nle h11) h12
theorem dSt {ops:Array Oper} {i:Nat} {S0:St} {rs ri:List Nat} {T:Au} {s v:Nat} {z:Af AF} {size bytes:Nat} {id off:Nat} {e:Au} {ds ds':List D} (c:List D) (hi:TI P T z size bytes)
 (h:(ops[i]?,nA o,o.op,o.dst,rs.elem s,S0.get s,ri.elem id,S0.ent id,rs.elem v,S0.get v,(D.agg c).boxable,(D.agg c).cells.length,(D.agg c).cells.all DZ,AZ (off+size) ds.length,gC ds off (D.agg c).cells)=(some o,true,.store T (.tmp s) (.tmp v),none,true,.ref id off,true,.blk e ds,true,.agg c,true,size,true,true,ds')):LOp P O N ops i S0 ⟨rs,ri,[],[(id,.blk e ds')]⟩:=by
 simp only [Prod.mk.injEq] at h
 obtain ⟨h1,h2,h3,h4,h5,h6,h7,h8,h9,h10,h11,h12,h13,h14,h15⟩:=h
 exact lop h1 h2 fun S hA=>eK h3 h4 hi (sv (agr hA h5 h6)) (agi hA h7 h8) (sv (agr hA h9 h10)) h11 h12 h13 (nle h14) h15
theorem gD {ops:Array Oper} {i:Nat} {S0:St} {rs ri:List Nat} {d:D} {j tj:Nat} {want b:Bool} (h:(ops[i]?,o.guard,(ops[j]?).bind (·.dst),o.dst,qL o.op,AZ (t+1) N,rs.elem tj,S0.get tj)=(some o,some (j,want),some tj,some t,true,true,true,.bool b))
 (x:∀ S,rL ⟨rs,ri,[(t,.cnd (b == want) d)],[]⟩ S S0→(b == want)=true→IOp P O N o S (S.set t d)):LOp P O N ops i S0 ⟨rs,ri,[(t,.cnd (b == want) d)],[]⟩:=by
 simp only [Prod.mk.injEq] at h
 obtain ⟨h1,h2,h3,h4,h5,h6,h7,h8⟩:=h
 exact lopg h1 h2 h3 (by rw [h4,h5]) (lb h6) (fun S hA=>grd1 hA h7 h8) x
theorem aR {α:Type} {c:Aq} {x y:Code} {b:Bool} {A B r:α} (h:(bif b then A else B)=r) (hc:S.op c = .bool b) (h1:A=r→IWP P O N x S Q) (h2:B=r→IWP P O N y S Q):IWP P O N (.cond c x y) S Q :=
 jZ hc (fun k=>h1 (yN h k)) (fun k=>h2 (xY h k))
theorem eoo {α β ρ:Type} {e:Af α} {f:α→Af β} {q:α→β→Af ρ} {r:ρ} (h:bno (e) (fun x=>bno (f x) (q x))=some r):∃ x,e=some x∧∃ y,f x=some y∧q x y=some r:=by
 obtain ⟨x,h0,h⟩:=cA h
 obtain ⟨y,h1,h⟩:=cA h
 exact ⟨x,h0,y,h1,h⟩
theorem eod {α β ρ:Type} {e:Af α} {f:α→β} {q:α→β→Af ρ} {r:ρ} (h:bno (e) (fun x=>bnd (f x) (q x))=some r):∃ x,e=some x∧∃ y,f x=y∧q x y=some r:=by
 obtain ⟨x,h0,h⟩:=cA h
 obtain ⟨y,h1,h⟩:=bU h
 exact ⟨x,h0,y,h1,h⟩
theorem edo {α β ρ:Type} {e:α} {f:α→Af β} {q:α→β→Af ρ} {r:ρ} (h:bnd (e) (fun x=>bno (f x) (q x))=some r):∃ x,e=x∧∃ y,f x=some y∧q x y=some r:=by
 obtain ⟨x,h0,h⟩:=bU h
 obtain ⟨y,h1,h⟩:=cA h
 exact ⟨x,h0,y,h1,h⟩
theorem edd {α β ρ:Type} {e:α} {f:α→β} {q:α→β→Af ρ} {r:ρ} (h:bnd (e) (fun x=>bnd (f x) (q x))=some r):∃ x,e=x∧∃ y,f x=y∧q x y=some r:=by
 obtain ⟨x,h0,h⟩:=bU h
 obtain ⟨y,h1,h⟩:=bU h
 exact ⟨x,h0,y,h1,h⟩
theorem eooo {α β γ ρ:Type} {e:Af α} {f:α→Af β} {g:α→β→Af γ} {q:α→β→γ→Af ρ} {r:ρ} (h:bno (e) (fun x=>bno (f x) (fun y=>bno (g x y) (q x y)))=some r):∃ x,e=some x∧∃ y,f x=some y∧∃ z,g x y=some z∧q x y z=some r:=by
 obtain ⟨x,h0,h⟩:=cA h
 obtain ⟨y,h1,h⟩:=cA h
 obtain ⟨z,h2,h⟩:=cA h
 exact ⟨x,h0,y,h1,z,h2,h⟩
theorem eood {α β γ ρ:Type} {e:Af α} {f:α→Af β} {g:α→β→γ} {q:α→β→γ→Af ρ} {r:ρ} (h:bno (e) (fun x=>bno (f x) (fun y=>bnd (g x y) (q x y)))=some r):∃ x,e=some x∧∃ y,f x=some y∧∃ z,g x y=z∧q x y z=some r:=by
 obtain ⟨x,h0,h⟩:=cA h
 obtain ⟨y,h1,h⟩:=cA h
 obtain ⟨z,h2,h⟩:=bU h
 exact ⟨x,h0,y,h1,z,h2,h⟩
theorem eodo {α β γ ρ:Type} {e:Af α} {f:α→β} {g:α→β→Af γ} {q:α→β→γ→Af ρ} {r:ρ} (h:bno (e) (fun x=>bnd (f x) (fun y=>bno (g x y) (q x y)))=some r):∃ x,e=some x∧∃ y,f x=y∧∃ z,g x y=some z∧q x y z=some r:=by
 obtain ⟨x,h0,h⟩:=cA h
 obtain ⟨y,h1,h⟩:=bU h
 obtain ⟨z,h2,h⟩:=cA h
 exact ⟨x,h0,y,h1,z,h2,h⟩
theorem eodd {α β γ ρ:Type} {e:Af α} {f:α→β} {g:α→β→γ} {q:α→β→γ→Af ρ} {r:ρ} (h:bno (e) (fun x=>bnd (f x) (fun y=>bnd (g x y) (q x y)))=some r):∃ x,e=some x∧∃ y,f x=y∧∃ z,g x y=z∧q x y z=some r:=by
 obtain ⟨x,h0,h⟩:=cA h
 obtain ⟨y,h1,h⟩:=bU h
 obtain ⟨z,h2,h⟩:=bU h
 exact ⟨x,h0,y,h1,z,h2,h⟩
theorem edoo {α β γ ρ:Type} {e:α} {f:α→Af β} {g:α→β→Af γ} {q:α→β→γ→Af ρ} {r:ρ} (h:bnd (e) (fun x=>bno (f x) (fun y=>bno (g x y) (q x y)))=some r):∃ x,e=x∧∃ y,f x=some y∧∃ z,g x y=some z∧q x y z=some r:=by
 obtain ⟨x,h0,h⟩:=bU h
 obtain ⟨y,h1,h⟩:=cA h
 obtain ⟨z,h2,h⟩:=cA h
 exact ⟨x,h0,y,h1,z,h2,h⟩
theorem edod {α β γ ρ:Type} {e:α} {f:α→Af β} {g:α→β→γ} {q:α→β→γ→Af ρ} {r:ρ} (h:bnd (e) (fun x=>bno (f x) (fun y=>bnd (g x y) (q x y)))=some r):∃ x,e=x∧∃ y,f x=some y∧∃ z,g x y=z∧q x y z=some r:=by
 obtain ⟨x,h0,h⟩:=bU h
 obtain ⟨y,h1,h⟩:=cA h
 obtain ⟨z,h2,h⟩:=bU h
 exact ⟨x,h0,y,h1,z,h2,h⟩
theorem eddo {α β γ ρ:Type} {e:α} {f:α→β} {g:α→β→Af γ} {q:α→β→γ→Af ρ} {r:ρ} (h:bnd (e) (fun x=>bnd (f x) (fun y=>bno (g x y) (q x y)))=some r):∃ x,e=x∧∃ y,f x=y∧∃ z,g x y=some z∧q x y z=some r:=by
 obtain ⟨x,h0,h⟩:=bU h
 obtain ⟨y,h1,h⟩:=bU h
 obtain ⟨z,h2,h⟩:=cA h
 exact ⟨x,h0,y,h1,z,h2,h⟩
theorem eddd {α β γ ρ:Type} {e:α} {f:α→β} {g:α→β→γ} {q:α→β→γ→Af ρ} {r:ρ} (h:bnd (e) (fun x=>bnd (f x) (fun y=>bnd (g x y) (q x y)))=some r):∃ x,e=x∧∃ y,f x=y∧∃ z,g x y=z∧q x y z=some r:=by
 obtain ⟨x,h0,h⟩:=bU h
 obtain ⟨y,h1,h⟩:=bU h
 obtain ⟨z,h2,h⟩:=bU h
 exact ⟨x,h0,y,h1,z,h2,h⟩
abbrev nd1 (rs:List Nat) (t:Nat) (d:D):Node:=⟨rs,[],[(t,d)],[]⟩
abbrev nd2 (rs ri:List Nat) (t:Nat) (d:D):Node:=⟨rs,ri,[(t,d)],[]⟩
theorem cFa {ops:Array Oper} {ll:List Oper} {T:Au} {x:Aq} {i:Nat} {fs:Array Field} {F:Field} {z:Af AF} {size bytes:Nat} {id off:Nat} (off':Nat) (hu:P.underlying T=some (.struct fs)) (h:(nA o,o.op,o.dst,AZ (t+1) N,fs[i]?)=(true,.fieldAddr T x i,some t,true,some F)) (hi:TI P F.type z size bytes) (h2:(AZ (0+1) size,S.op x,off+F.offset)=(true,.ref id off,off')) (q:ILS P O N ops ll (S.set t (.ref id off')) Q):ILS P O N ops (o::ll) S Q :=
 aB (AH Cz h) (tFa off' hu (AH Dg h) hi h2) q
theorem cLd {ops:Array Oper} {ll:List Oper} {T:Au} {x:Aq} {u:TypeDesc} {z:Af AF} {size bytes:Nat} {id off:Nat} {e:Au} {ds r:List D} {d:D} (hu:P.underlying T=some u) (hg:iT P T=false) (hi:TI P T z size bytes) (h:(nA o,o.op,o.dst,AZ (t+1) N,AZ (0+1) size,S.op x,S.ent id,AZ (off+size) ds.length,ds.drop off)=(true,.load T x,some t,true,true,.ref id off,.blk e ds,true,d::r)) (q:ILS P O N ops ll (S.set t d) Q):ILS P O N ops (o::ll) S Q :=
 aB (AH Cz h) (tLd hu hg hi (AH Dg h)) q
theorem cSt {ops:Array Oper} {ll:List Oper} {T:Au} {x y:Aq} {z:Af AF} {size bytes:Nat} {id off:Nat} {e:Au} {ds:List D} (c ds':List D) (hi:TI P T z size bytes) (h:(nA o,o.op,o.dst,S.op x,S.ent id,S.op y,(D.agg c).boxable,(D.agg c).cells.length,(D.agg c).cells.all DZ,AZ (off+size) ds.length,gC ds off (D.agg c).cells)=(true,.store T x y,none,.ref id off,.blk e ds,.agg c,true,size,true,true,ds')) (q:ILS P O N ops ll (S.setE id (.blk e ds')) Q):ILS P O N ops (o::ll) S Q :=
 aB (AH Cz h) (tSt c ds' hi (AH Dg h)) q
theorem cLr {ops:Array Oper} {ll:List Oper} {T:Au} {x:Aq} {u:TypeDesc} {z:Af AF} {size bytes:Nat} {id off:Nat} {e:Au} {ds:List D} (cs:List D) (l:LA P T u z size bytes true) (h:(nA o,o.op,o.dst,AZ (t+1) N,S.op x,S.ent id,AZ (off+size) ds.length,(ds.drop off).take size)=(true,.load T x,some t,true,.ref id off,.blk e ds,true,cs)) (q:ILS P O N ops ll (S.set t (.agg cs)) Q):ILS P O N ops (o::ll) S Q :=
 aB (AH Cz h) (tLr cs l (AH Dg h)) q
theorem cAs {ops:Array Oper} {ll:List Oper} {x:Aq} (d:D) (h:(nA o,o.op,o.dst,AZ (t+1) N,S.op x)=(true,.assign x,some t,true,d)) (q:ILS P O N ops ll (S.set t d) Q):ILS P O N ops (o::ll) S Q :=
 aB (AH Cz h) (tAs d (AH Dg h)) q
theorem cBx {ops:Array Oper} {ll:List Oper} {e:Au} {x:Aq} {cs:List D} (c:List D) (id:Nat) (h:(nA o,o.op,o.dst,AZ (t+1) N,S.ent id,S.op x,(D.agg c).boxable,(D.agg c).cells)=(true,.box e x,some t,true,.fresh,.agg c,true,cs)) (q:ILS P O N ops ll ((S.setE id (.blk e cs)).set t (.ref id 0)) Q):ILS P O N ops (o::ll) S Q :=
 aB (AH Cz h) (tBx c id (AH Dg h)) q
theorem cI {ops:Array Oper} {ll:List Oper} {x:Aq} {k:IntKind} {n:Int} (h:(nA o,o.op,o.dst,AZ (t+1) N,S.op x)=(true,.move x,some t,true,.int k n)) (q:ILS P O N ops ll (S.set t (.int k n)) Q):ILS P O N ops (o::ll) S Q :=
 aB (AH Cz h) (tI (AH Dg h)) q
theorem cB {ops:Array Oper} {ll:List Oper} {x:Aq} {n:Bool} (h:(nA o,o.op,o.dst,AZ (t+1) N,S.op x)=(true,.move x,some t,true,.bool n)) (q:ILS P O N ops ll (S.set t (.bool n)) Q):ILS P O N ops (o::ll) S Q :=
 aB (AH Cz h) (tB (AH Dg h)) q
theorem cAI {ops:Array Oper} {ll:List Oper} {x:Aq} {k:IntKind} {n:Int} (h:(nA o,o.op,o.dst,AZ (t+1) N,S.op x)=(true,.assign x,some t,true,.int k n)) (q:ILS P O N ops ll (S.set t (.int k n)) Q):ILS P O N ops (o::ll) S Q :=
 aB (AH Cz h) (tAI (AH Dg h)) q
theorem cAB {ops:Array Oper} {ll:List Oper} {x:Aq} {n:Bool} (h:(nA o,o.op,o.dst,AZ (t+1) N,S.op x)=(true,.assign x,some t,true,.bool n)) (q:ILS P O N ops ll (S.set t (.bool n)) Q):ILS P O N ops (o::ll) S Q :=
 aB (AH Cz h) (tAB (AH Dg h)) q
theorem cMv {ops:Array Oper} {ll:List Oper} {x:Aq} (d:D) (h:(nA o,o.op,o.dst,AZ (t+1) N,S.op x)=(true,.move x,some t,true,d)) (q:ILS P O N ops ll (S.set t d) Q):ILS P O N ops (o::ll) S Q :=
 aB (AH Cz h) (tMv d (AH Dg h)) q
theorem cEx {ops:Array Oper} {ll:List Oper} {x:Aq} {i:Nat} {cs:List D} {d:D} (h:(nA o,o.op,o.dst,AZ (t+1) N,S.op x,cs[i]?)=(true,.extract x i,some t,true,.tuple cs,some d)) (q:ILS P O N ops ll (S.set t d) Q):ILS P O N ops (o::ll) S Q :=
 aB (AH Cz h) (tEx (AH Dg h)) q
theorem cCm {ops:Array Oper} {ll:List Oper} {op:BinOp} {xt yt:Au} {x y:Aq} {k:IntKind} {a b:Int} {c c':Bool} (h:(nA o,o.op,o.dst,AZ (t+1) N,S.op x,S.op y,int2 op k a b)=(true,.binOp op xt x y yt,some t,true,.int k a,.int k b,some (.bool c))) (hc:c=c') (q:ILS P O N ops ll (S.set t (.bool c')) Q):ILS P O N ops (o::ll) S Q :=
 aB (AH Cz h) (tCm (AH Dg h) hc) q
theorem cOr {ops:Array Oper} {ll:List Oper} {c x y:Aq} {b z r:Bool} (h:(nA o,o.op,o.dst,AZ (t+1) N,S.op c,S.op x,S.op y)=(true,.pick c x y,some t,true,.bool b,.bool true,.cnd (b == false) (.bool z))) (hr:(b||z)=r) (q:ILS P O N ops ll (S.set t (.bool r)) Q):ILS P O N ops (o::ll) S Q :=
 aB (AH Cz h) (tOr (AH Dg h) hr) q
theorem cAn {ops:Array Oper} {ll:List Oper} {c x y:Aq} {b z r:Bool} (h:(nA o,o.op,o.dst,AZ (t+1) N,S.op c,S.op x,S.op y)=(true,.pick c x y,some t,true,.bool b,.cnd (b == true) (.bool z),.bool false)) (hr:(b&&z)=r) (q:ILS P O N ops ll (S.set t (.bool r)) Q):ILS P O N ops (o::ll) S Q :=
 aB (AH Cz h) (tAn (AH Dg h) hr) q
end
end Go.IL
namespace Go.IL
section
variable {P:Bc} {O:bG} {N:Nat} {S S':St} {o:Oper} {t:Nat}
end
end Go.IL
namespace Go.IL
section
variable {P:Bc} {O:bG} {N:Nat} {S S':St} {o:Oper} {t:Nat}
theorem yS {T e:Au} (h:P.underlying T=some (.pointer e)):P.underlying T=some (.pointer (P.pointee T)):=by
 unfold Program.pointee; rw [h]
theorem aD9 {E:Env} {β:bB} {a:Act} {y:Aq} (hr:Rel O N S E β a) (hy:SV S y .nilp):a.eval y = .pointer none:=by
 have:=hy.rd hr
 generalize a.eval y=v at this
 cases this; rfl
theorem aDr {T e:Au} {p:Af Addr} (hu:P.underlying T=some (.pointer e)) (w:World) (neq:Bool):(binOp (if neq then .neq else .eql) T (.pointer p) (.pointer none)).run P w = .ok (.bool (if neq then !p.isNone else p.isNone)) w:=by
 cases neq
 · exact run_eql_pointer_nil w T p (yS hu)
 · exact run_neq_pointer_nil w T p (yS hu)
theorem tN {T T2 e:Au} {x y:Aq} {neq r:Bool} (ho:o.op = .binOp (if neq then .neq else .eql) T x y T2) (hd:o.dst=some t) (ht:t<N) (hu:P.underlying T=some (.pointer e))
 (hx:∀ E β a,Rel O N S E β a→∃ p,a.eval x = .pointer p∧(if neq then !p.isNone else p.isNone)=r) (hy:SV S y .nilp):IOp P O N o S (S.set t (.bool r)) :=
 gW hd ht fun E β a hr=>by
  obtain ⟨p,hp,hq⟩:=hx E β a hr
  have hyv:=aD9 hr hy
  have h1:=aDr (p:=p) hu E.w neq
  rw [hq] at h1
  exact ⟨_,by simp [execOp,ho,hp,hyv,eqGuard,h1],.bool _ _⟩
theorem rG {T T2 e:Au} {x y:Aq} {id off:Nat} (ho:o.op = .binOp .eql T x y T2) (hd:o.dst=some t) (ht:t<N) (hu:P.underlying T=some (.pointer e)) (hx:SV S x (.ref id off)) (hy:SV S y .nilp):IOp P O N o S (S.set t (.bool false)) :=
 tN (neq:=false) ho hd ht hu (fun E β a hr=>by obtain ⟨b,_,h⟩:=aAr (hx.rd hr); exact ⟨_,h,rfl⟩) hy
theorem aCZ {T T2 e:Au} {x y:Aq} (ho:o.op = .binOp .eql T x y T2) (hd:o.dst=some t) (ht:t<N) (hu:P.underlying T=some (.pointer e)) (hx:SV S x .nilp) (hy:SV S y .nilp):IOp P O N o S (S.set t (.bool true)) :=
 tN (neq:=false) ho hd ht hu (fun E β a hr=>⟨_,aD9 hr hx,rfl⟩) hy
end
end Go.IL
open _root_.Array renaming replicate → BI
open Go.IL.HOk renaming swap → FX
open List renaming nodup_cons → Bm
open Nat renaming strongRecOn → Eg
open Go.Lib
open Go.RowKit (Below)
namespace Go.IL
section
variable {P:Bc} {O:bG} {N:Nat} {S S':St} {o:Oper} {t:Nat} {Q:Exit→St→Prop}
theorem HOk.drop {E E':Env} {β:bB} {H H':Nat→Ent} {b id:Nat} (h:HOk O E β H) (hs:Step O E E' b) (hle:E.le E')
 (hother:∀ j,j≠id→H' j=H j) (hid:H' id = .none) (hap:∀ j,j≠id→(H j).held=true→β j≠some b):HOk O E' β H' where
 os:=hs.os.trans h.os
 tab:=h.tab
 tape:=hs.tape.trans h.tape
 output:=hs.output.trans h.output
 mbs:=h.mbs
 size:=BE h.size hs.size
 block k hk hf:=by
  have hne:k≠b:=by
   rintro rfl
   rcases hs.own with h1 | h1
   · omega
   · exact hf h1
  exact (hs.block k (by have:=h.size; omega) hne).trans (h.block k hk hf)
 xlt k o hX:=by
  by_cases hk:k=b
  · subst hk; exact hs.lt
  · exact BB (h.xlt k o ((hs.X k o hk).1 hX)) hs.size
 xold k o hk hf:=by
  have hne:k≠b:=by
   rintro rfl
   rcases hs.own with h1 | h1
   · omega
   · exact hf h1
  exact (hs.X k o hne).trans (h.xold k o hk hf)
 ent j:=by
  by_cases hj:j=id
  · subst hj; rw [hid]; trivial
  · rw [hother j hj]
    have hapj:=hap j hj
    have he:=h.ent j
    cases hH:H j with
    | none=>trivial
    | fresh=>rw [hH] at he; exact he
    | blk e ds =>
      rw [hH] at he hapj
      rcases he with ⟨h3,h4⟩ | ⟨k,vs,sp,h3,h4,h5,h6,h7⟩
      · exact .inl ⟨h3,h4⟩
      · have hne:k≠b:=fun e=>hapj rfl (e ▸ h3)
        exact .inr ⟨k,vs,sp,h3,h4,(hs.block k (cV h5) hne).trans h5,fun o=>(hs.X k o hne).2 (h6 o),AN hle (bB.le.refl _) h7⟩
    | tail e sz n =>
      rw [hH] at he hapj
      rcases he with ⟨h3,h4⟩ | ⟨k,c,h3,h4,h5,h6⟩
      · exact .inl ⟨h3,h4⟩
      · have hne:k≠b:=fun e=>hapj rfl (e ▸ h3)
        exact .inr ⟨k,c,h3,h4,(hs.block k (cV h5) hne).trans h5,fun o ho=>(hs.X k o hne).2 (h6 o ho)⟩
    | loop lk ds st pend =>
      rw [hH] at he hapj
      obtain ⟨k,r,h3,h4,h5,h6,h7,h8,h9,h10,h11,h12⟩:=he
      have hne:k≠b:=fun e=>hapj rfl (e ▸ h3)
      exact ⟨k,r,h3,h4,(hs.block k (cV h5) hne).trans h5,fun o=>(hs.X k o hne).2 (h6 o),h7,h8,h9,h10,h11,h12.1,AN hle (bB.le.refl _) h12.2⟩
    | mp ks ds =>
      rw [hH] at he hapj
      obtain ⟨k,es,cl,h3,h4,h5,h6,h7,h8⟩:=he
      have hne:k≠b:=fun e=>hapj rfl (e ▸ h3)
      exact ⟨k,es,cl,h3,h4,(hs.block k (cV h5) hne).trans h5,fun o=>(hs.X k o hne).2 (h6 o),h7,AN hle (bB.le.refl _) h8⟩
    | kept n ds =>
      rw [hH] at he
      refine ⟨AN hle (bB.le.refl _) he.1,fun c hc=>?_⟩
      have h5:=he.2 c hc
      by_cases hcb:c=b
      · subst hcb; exact AJ h5 (hs.dfr _)
      · exact (hs.block c (cV h5) hcb).trans h5
 le:=h.le.trans hle
 gid:=h.gid
 given i b hi:=h.given i b hi
 inj i j k hi hj h1 h2:=by
  have hii:i≠id:=fun e=>by rw [e,hid] at hi; cases hi
  have hjj:j≠id:=fun e=>by rw [e,hid] at hj; cases hj
  exact h.inj i j k (hother i hii ▸ hi) (hother j hjj ▸ hj) h1 h2
structure bG.Semi (O:bG):Prop where
 round:O.round=none
 foot:O.FootOk
structure bG.SemiL (L:List Nat) (O:bG):Prop where
 round:O.round=none
 foot:O.FootOk
 dv:∀ j,j ∉ L→O.dv j=[]
theorem bG.Plain.semiL {O:bG} (h:O.Plain):O.SemiL []:=⟨h.round,h.foot,fun j _=>h.dv j⟩
theorem rS {g : Aq} {ps:Array Tmp} {acx bd:Code} {f:BX} {fn:Func} {c:Code} {caps:List D} {L:List Nat} (k idL idK:Nat)
 (hg:SV S g (.fn f caps)) (hc:aY P f) (hf:P.funcs[f]? = some fn) (hb:fn.body=some c) (hres:fn.results = #[]) {N':Nat} (hn:fn.ntmps=N') (hN':caps.length+1≤N')
 (hfr:aBI k [] S.H=true) (hL:S.ent idL = .fresh) (hO:O.SemiL L) (hkL:∀ j∈L,∃ i ds,S.ent i = .kept j ds)
 (h:∀ O',O'.SemiL (k::L)→O'.lc k=(ps,acx,bd)→IWP P O' N' c ⟨(Bw (.yld idL::caps).length).zip (.yld idL::caps),(idK,.kept k (allD N S))::(idL,.loop k (allD N S) .ready none)::S.H⟩ (aGa P O N k Q)):IWP P O N (.rangeFunc g ps acx bd) S Q:=by
 subst hn
 obtain ⟨Ow,OX,Of,Og,Or,Okv,Olv,Odv,Olc,Omb⟩:=O
 obtain ⟨hro,hfoot,hdv⟩:=hO
 simp only at hro hfoot hdv
 subst hro
 intro E β a hr
 obtain ⟨bs,hbs,hnd,hall⟩:=hr.nd
 have hdvn:∀ j,E.w.heap.size ∉ Odv j:=fun j hm=>by
  by_cases hj:j∈L
  · obtain ⟨i,ds,hi⟩:=hkL j hj
    have he:=hr.h.ent i
    rw [hi] at he
    exact BN _ (cV (he.2 _ hm))
  · rw [hdv j hj] at hm; cases hm
 obtain ⟨vs,hev,hcaps⟩:=aC3 (hg.rd hr)
 refine wpIn_rangeFunc ?_
 intro fn0 _
 let r0:Loop:={ state:=.ready,pending:=none,fn:=fn0,tmps:=a.tmps,params:=ps,assign:=acx,body:=bd,defers:=E.w.heap.size }
 let W0:=E.w.alloc (.deferred (some []))
 have hsz0:W0.heap.size=E.w.heap.size+1:=by simp [W0]
 let W1:=W0.alloc (.loop r0)
 have hb0:Below E.w.heap.size E.w W0:=(Below.refl _ _).alloc (AL _) _
 refine ⟨E.w.heap.size+1,[{ target:=.collected E.w.heap.size,args:=#[] }],W1,{ target:=.fn (.func f) vs.toArray,args:=#[.func (.yield (E.w.heap.size+1)) #[] #[]] },W1,f,
  #[.func (.yield (E.w.heap.size+1)) #[] #[]]++vs.toArray,W1,run_enterLoop_outer _ _ _ _ _,?_,fun _ _=>trivial,?_,fun h=>by simp [fen,Fence.wide] at h,?_⟩
 · simp only [resolve,hev]
   simp [go_sem]
 · simp [invoke,gP hc]
 let O':bG:=⟨Ow,OX,Of,Og,none,fun j=>if j=k then a.tmps.toList else Okv j,fun j=>if j=k then E.w.heap.size+1 else Olv j,fun j=>if j=k then E.w.heap.size::bs else Odv j,fun j=>if j=k then (ps,acx,bd) else Olc j,Omb⟩
 have hsame:(⟨Ow,OX,Of,Og,none,Okv,Olv,Odv,Olc,Omb⟩:bG).same O':=⟨rfl,rfl,rfl,rfl,rfl⟩
 have hcomp : ∀ e,noK k e=true→oE ⟨Ow,OX,Of,Og,none,Okv,Olv,Odv,Olc,Omb⟩ O' e∧oE O' ⟨Ow,OX,Of,Og,none,Okv,Olv,Odv,Olc,Omb⟩ e:=fun e he=>by
  cases e with
  | kept j ds => have:j≠k:=by simpa [noK] using he
                 simp [oE,O',this]
  | loop j => have:j≠k:=by simpa [noK] using he
              simp [oE,O',this]
  | _=>exact ⟨trivial,trivial⟩
 have h0:HOk O' ⟨W0,E.X⟩ β (entL S.H):=(hr.h.below hb0).swap hsame fun id=>.inl ⟨rfl,(hcomp _ (nG hfr (by simp))).1⟩
 let E1:Env:=⟨W1,fun b o=>b=E.w.heap.size+1∨E.X b o⟩
 let β1:bB:=fun j=>if j=idL then some (E.w.heap.size+1) else β j
 have hfrL:β idL=none:=by have:=hr.h.ent idL; rw [hL] at this; exact this
 have hβ:β.le β1:=fun j b hj=>by
  by_cases hji:j=idL
  · subst hji; rw [hfrL] at hj; cases hj
  · simp [β1,hji,hj]
 have hs:Step O' ⟨W0,E.X⟩ E1 (E.w.heap.size+1) :=
  ⟨rfl,rfl,rfl,by simp [E1,W1],by simp [E1,W1,hsz0],.inl (by have:=h0.size; simp only [hsz0] at this; exact this),fun j hj _=>heap_alloc_old _ _ hj,fun j o hj=>by simp [E1,hj],fun _ hx=>by have h9:E.w.heap.size+1<W0.heap.size:=cV hx; omega⟩
 have hle:(⟨W0,E.X⟩:Env).le E1:=hs.le (fun o v hx _=>by have:=World.block_lt_of_cell? _ _ hx; simp [hsz0] at this) (fun c e f hx=>by have:=cV hx; simp [hsz0] at this)
 have hle0:E.le E1:=(mM hb0).trans hle
 have hnew:W1.heap[E.w.heap.size+1]? = some (.loop r0):=by have:=World.alloc_heap_new W0 (.loop r0); rwa [hsz0] at this
 have hdef:W1.heap[E.w.heap.size]? = some (.deferred (some [])):=(heap_alloc_old _ _ (by omega)).trans (World.alloc_heap_new E.w _)
 have hrd:RdL E1 β1 a.tmps.toList (allD N S):=AN hle0 hβ (vN hr)
 have h1:HOk O' E1 β1 (entL ((idL,.loop k (allD N S) .ready none)::S.H)):=by
  refine Dd h0 hs hle hβ (id:=idL) (fun j hj=>?_) (fun j hj hh hb=>?_) (by simp [β1]) ?_ (fun _ _=>trivial)
  · left; exact ⟨by show look _ _ _=_; rw [aN,An (Ne.symm hj)]; rfl,by simp [β1,hj]⟩
  · have hh':(look (defE j) j ((idL,.loop k (allD N S) .ready none)::S.H)).held=true:=hh
    rw [aN,An (Ne.symm hj)] at hh'
    have:=h0.lt (j:=j) hh' hb
    simp [hsz0] at this
  · show aDd O' E1 β1 _ (look _ _ _)
    rw [aN,Az rfl]
    exact ⟨r0,hnew,fun o=>.inl rfl,by simp [O',r0],by simp [O',r0],by simp [O',r0],rfl,rfl,by simp [O'],hrd⟩
 have h2:HOk O' E1 β1 (entL ((idK,.kept k (allD N S))::(idL,.loop k (allD N S) .ready none)::S.H)):=by
  refine h1.addK (by simpa [O'] using hrd) fun b hb=>?_
  have hb':b∈E.w.heap.size::bs:=by simpa [O'] using hb
  rcases Av.1 hb' with rfl | hb'
  · exact hdef
  · have hx:=(hall b hb').2
    have hlt:=cV hx
    exact ((heap_alloc_old W0 _ (by omega)).trans (heap_alloc_old E.w _ hlt)).trans hx
 have hargs:RdL E1 β1 (Value.func (.yield (E.w.heap.size+1)) #[] #[]::vs) (.yld idL::caps):=.cons (.yld _ _ _ (by simp [β1])) (AN hle0 hβ hcaps)
 have hlen:=hargs.length
 have hrel:Rel O' fn.ntmps ⟨(Bw (D.yld idL::caps).length).zip (.yld idL::caps),(idK,.kept k (allD N S))::(idL,.loop k (allD N S) .ready none)::S.H⟩ E1 β1
  { tmps:=(#[Value.func (.yield (E.w.heap.size+1)) #[] #[]]++vs.toArray)++BI (fn.ntmps-(#[Value.func (.yield (E.w.heap.size+1)) #[] #[]]++vs.toArray).size) undef,defers:=[] }:=by
  refine ⟨by simp at hlen ⊢; omega,pT.nil,h2,fun s=>?_⟩
  have:=tA hargs (fn.ntmps-(#[Value.func (.yield (E.w.heap.size+1)) #[] #[]]++vs.toArray).size) s
  show Rd E1 β1 _ (look _ _ _)
  simpa using this
 refine callsIn_wide (n:=0) |>.2 (mT (E:=E1) (O:=O') hf hb rfl hfoot hrel (h O' ⟨rfl,hfoot,fun j hj=>by
  have h1:j≠k:=fun e=>hj (by simp [e])
  have h2:j ∉ L:=fun e=>hj (by simp [e])
  show (if j=k then _ else Odv j)=[]
  rw [An h1]; exact hdv j h2⟩ (by simp [O'])) ?_)
 rintro e S2 E2 β2 a2 hr2 ⟨he,iL,iK,dl,ds',st,pend,hentL,hst,hentK,hfree,S3,ρ3,hw3,hQ⟩
 refine ⟨he,.tuple #[],by simp [results,hres],?_⟩
 obtain ⟨r,g1,g2,g3,g4,g5,g6,g7,g8⟩:=hr2.h.turn (H:=S2.H) hentL
 obtain ⟨g9,g10⟩:=g8 .exhausted pend
 have hlk:O'.lv k=E.w.heap.size+1:=by simp [O']
 rw [hlk] at g1 g9 g10
 have hkept:=hr2.h.ent iK
 rw [hentK] at hkept
 obtain ⟨k1,k2⟩:=hkept
 have hkv:O'.kv k=a.tmps.toList:=by simp [O']
 have hdk:O'.dv k=E.w.heap.size::bs:=by simp [O']
 rw [hkv] at k1; rw [hdk] at k2
 have hds':ds'.length=N:=by rw [←k1.length]; simpa using hr.n
 let E3:Env:=⟨E2.w.putObj (E.w.heap.size+1) (.loop { r with state:=.exhausted,pending:=pend }),E2.X⟩
 have hrel3:Rel ⟨Ow,OX,Of,Og,none,Okv,Olv,Odv,Olc,Omb⟩ N ⟨(Bw N).zip ds',(iK,.none)::(iL,.none)::S2.H⟩ E3 β2 { a with defers:={ target:=.collected E.w.heap.size,args:=#[] }::a.defers }:=by
  refine ⟨hr.n,⟨E.w.heap.size::bs,by rw [Am,←hbs],?_,?_⟩,?_,fun s=>?_⟩
  · rw [Bm]
    exact ⟨fun hm=>BN _ (cV (hall _ hm).2),hnd⟩
  · intro b hb
    refine ⟨⟨?_,?_⟩,(World.putObj_heap_other ?_).trans (k2 b hb)⟩
    rotate_left
    · rcases Av.1 hb with rfl | hb
      · exact hdvn
      · exact (hall b hb).1.2
    rotate_left
    · rcases Av.1 hb with rfl | hb
      · exact BE hr.h.mbs hr.h.size
      · exact (hall b hb).1.1
    · rintro rfl; have:=k2 _ hb; rw [g1] at this; cases this
  · refine FX (O:=O') (H:=entL ((iL,.loop k dl .exhausted pend)::S2.H)) g10 ⟨rfl,rfl,rfl,rfl,rfl⟩ fun id=>?_
    show (look _ _ _=look _ _ _∧_)∨_
    simp only [aN]
    by_cases h5:iK=id
    · right; show look _ _ _=_; rw [aN,Az h5]
    · by_cases h6:iL=id
      · right; show look _ _ _=_; rw [aN,An h5,aN,Az h6]
      · left
        rw [An h5,An h6]
        refine ⟨by first | rfl | rw [An h6],(hcomp _ ?_).2⟩
        show noK k (look _ _ _)=true
        rw [aN,An h6]
        exact nG hfree (by simp; exact ⟨Ne.symm h6,Ne.symm h5⟩)
  · have:=pV (AN g9 (bB.le.refl _) k1) s
    rw [hds'] at this
    exact this
 refine ⟨pend,E3.w,?_,?_⟩
 · have:=run_endLoop (P:=P) (l:=E.w.heap.size+1) g1 (by rw [g6]; exact hst)
   rw [g7] at this
   exact this
 · cases pend with
   | none=>obtain ⟨β4,hr4⟩:=hrel3.weak hw3; exact ⟨_,E3,β4,rfl,hr4,hQ⟩
   | some c=>obtain ⟨β4,hr4⟩:=hrel3.weak hw3; exact hQ E3 β4 _ hr4

theorem kC {ops:Array Oper} {o:Oper} {l:List Oper} {xs:List Aq} {ts:Array Au} {f:BX} {fn:Func} {c:Code} {t:Nat} {ds:List D} {L:List Nat} (k2 idK:Nat) (hg:nA o=true)
 (ho:o.op = .call { callee:=.value (.func f),args:=xs.toArray,argTypes:=ts }) (hd:o.dst=some t) (ht:t<N) (hc:aY P f) (hf:P.funcs[f]? = some fn) (hb:fn.body=some c) (hxs:SVs S xs ds) {N':Nat} (hn:fn.ntmps=N') (hN:ds.length≤N')
 (hfr:aBI k2 [] S.H=true) (hO:O.SemiL L)
 (h:∀ O',O'.SemiL (k2::L)→IWP P O' N' c ⟨(Bw ds.length).zip ds,(idK,.kept k2 (allD N S))::S.H⟩ (inlQ P O N t k2 fn ops l Q)):ILS P O N ops (o::l) S Q:=by
 subst hn
 obtain ⟨Ow,OX,Of,Og,Or,Okv,Olv,Odv,Olc,Omb⟩:=O
 obtain ⟨hro,hfoot,hdv⟩:=hO
 simp only at hro hfoot hdv
 subst hro
 intro E β a hr
 obtain ⟨bs,hbs,hnd,hall⟩:=hr.nd
 refine wpListIn_plain (oA hg).1 fun K hK'=>aCu _ (oA hg).2 ?_
 have hrun:(execOp a.eval o).run P E.w = .ok (.enter f (xs.map a.eval).toArray) E.w:=by
  simp [execOp,ho,resolve,Deferred.ofValue,Act.eval,invoke,gP hc]
 unfold Oper.wp
 rw [hrun]
 simp only [Oper.upon,hd]
 let O':bG:=⟨Ow,OX,Of,Og,none,fun j=>if j=k2 then a.tmps.toList else Okv j,Olv,fun j=>if j=k2 then bs else Odv j,Olc,Omb⟩
 have hcomp:∀ e,noK k2 e=true→oE ⟨Ow,OX,Of,Og,none,Okv,Olv,Odv,Olc,Omb⟩ O' e∧oE O' ⟨Ow,OX,Of,Og,none,Okv,Olv,Odv,Olc,Omb⟩ e:=fun e he=>by
  cases e with
  | kept j ds => have:j≠k2:=by simpa [noK] using he
                 simp [oE,O',this]
  | loop j=>simp [oE,O']
  | _=>exact ⟨trivial,trivial⟩
 have h0:HOk O' E β (entL S.H):=hr.h.swap ⟨rfl,rfl,rfl,rfl,rfl⟩ fun id=>.inl ⟨rfl,(hcomp _ (nG hfr (by simp))).1⟩
 have h1:HOk O' E β (entL ((idK,.kept k2 (allD N S))::S.H)):=h0.addK (by simpa [O'] using vN hr) fun c hc=>(hall c (by simpa [O'] using hc)).2
 have hargs:=hxs.rd hr
 have hlen:=hargs.length
 have hrel:Rel O' fn.ntmps ⟨(Bw ds.length).zip ds,(idK,.kept k2 (allD N S))::S.H⟩ E β { tmps:=(xs.map a.eval).toArray++BI (fn.ntmps-(xs.map a.eval).toArray.size) undef,defers:=[] }:=by
  refine ⟨by simp at hlen ⊢; omega,pT.nil,h1,fun s=>?_⟩
  have:=tA hargs (fn.ntmps-(xs.map a.eval).toArray.size) s
  show Rd E β _ (look _ _ _)
  simpa using this
 refine mT (E:=E) (O:=O') hf hb rfl hfoot hrel (h O' ⟨rfl,hfoot,fun j hj=>by
  have h1:j≠k2:=fun e=>hj (by simp [e])
  have h2:j ∉ L:=fun e=>hj (by simp [e])
  show (if j=k2 then _ else Odv j)=[]
  rw [An h1]; exact hdv j h2⟩) ?_
 rintro e S2 E2 β2 a2 hr2 ⟨he,iK,dk,rs,hres,hentK,hfree,S5,ρ5,hw5,hils⟩
 refine ⟨he,?_⟩
 obtain ⟨v,hv,hrd⟩:=aFa hr2 hres
 have hkept:=hr2.h.ent iK
 rw [hentK] at hkept
 obtain ⟨k1,k2'⟩:=hkept
 have hkv:O'.kv k2=a.tmps.toList:=by simp [O']
 have hdk:O'.dv k2=bs:=by simp [O']
 rw [hkv] at k1; rw [hdk] at k2'
 have hdk3:dk.length=N:=by rw [←k1.length]; simpa using hr.n
 suffices hrel5:Rel ⟨Ow,OX,Of,Og,none,Okv,Olv,Odv,Olc,Omb⟩ N ⟨(t,retD rs)::(Bw N).zip dk,(iK,.none)::S2.H⟩ E2 β2 (a.put (some t) v) by
  obtain ⟨β5,hr5⟩:=hrel5.weak hw5
  exact ⟨v,hv,hK' _ _ (hils E2 β5 _ hr5)⟩
 refine Rel.set (S:=⟨(Bw N).zip dk,(iK,.none)::S2.H⟩) ⟨hr.n,⟨bs,hbs,hnd,fun c hc=>⟨(hall c hc).1,k2' c hc⟩⟩,?_,fun s=>?_⟩ ht hrd
 · refine FX (O:=O') (H:=entL S2.H) hr2.h ⟨rfl,rfl,rfl,rfl,rfl⟩ fun id=>?_
   by_cases h5:iK=id
   · right; show look _ _ _=_; rw [aN,Az h5]
   · left
     refine ⟨by show look _ _ _=look _ _ _; rw [aN,An h5],(hcomp _ ?_).2⟩
     exact nG hfree (by simp; exact Ne.symm h5)
 · have:=pV k1 s
   rw [hdk3] at this
   exact this
def LG (P:Bc) (O:bG) (N:Nat) (c:Code) (Q:Exit→St→Prop) (S:St):Prop :=
 ∀ E β a,Rel O N S E β a→∀ (b:Frame) (k:List Item) (cs:List Frame),b.roundOf=(fen O.round).round→(fen O.round).fn b.fn→(fen O.round).room (cs.length+1+0) →
   ∃ e a' w',(∃ S' E' β',E'.w=w'∧Rel O N S' E' β' a'∧Q e S')∧ArrivesIn (Machine.fenced P (fen O.round)) P (lone (b.atR a (.code c :: .inLoop c::k)) cs E.w) b k cs e a' w'
theorem aCU {c:Code} (h:IWP P O N c S (zP (LG P O N c Q) Q)):LG P O N c Q S:=by
 intro E β a hr b k cs hro hb hroom
 obtain ⟨e,a₁,w₁,⟨S₁,E₁,β₁,rfl,hr₁,hq⟩,harr⟩:=h E β a hr b (.inLoop c::k) cs hro hb hroom
 cases e with
 | normal =>
   obtain ⟨e₂,a₂,w₂,hq₂,harr₂⟩:=hq E₁ β₁ a₁ hr₁ b k cs hro hb hroom
   exact ⟨e₂,a₂,w₂,hq₂,.of_steps (StepsIn.trans harr (.one (fenced_calm hb hroom rfl) stepR_inLoop)) harr₂⟩
 | exit id=>exact ⟨_,a₁,_,⟨S₁,E₁,β₁,rfl,hr₁,hq⟩,.pass (x:=.inLoop c) rfl (fun _ _=>.inl (by simp)) harr⟩
 | goto l=>exact ⟨_,a₁,_,⟨S₁,E₁,β₁,rfl,hr₁,hq⟩,.pass (x:=.inLoop c) rfl (fun _ _=>.inl (by simp)) harr⟩
 | ret=>exact ⟨_,a₁,_,⟨S₁,E₁,β₁,rfl,hr₁,hq⟩,.pass (x:=.inLoop c) rfl (fun _ _=>.inl (by simp)) harr⟩
 | panic ch=>exact ⟨_,a₁,_,⟨S₁,E₁,β₁,rfl,hr₁,hq⟩,.pass (x:=.inLoop c) rfl (fun _ _=>.inl (by simp)) harr⟩
 | outgrown=>exact ⟨_,a₁,_,⟨S₁,E₁,β₁,rfl,hr₁,hq⟩,.pass (x:=.inLoop c) rfl (fun _ _=>.inl (by simp)) harr⟩
theorem xG {c:Code} (h:LG P O N c Q S):IWP P O N (.loop c) S Q:=by
 intro E β a hr b k cs hro hb hroom
 obtain ⟨e,a',w',hq,harr⟩:=h E β a hr b k cs hro hb hroom
 exact ⟨e,a',w',hq,.of_steps (.one (fenced_calm hb hroom rfl) stepR_loop) harr⟩
theorem aCV {α:Type} {c:Code} (st:α→St) (inv:α→Prop) (m:α→Nat) (a0:α) (ρ0:Nat→Nat) (h0:Weak S (st a0) ρ0) (i0:inv a0)
 (round:∀ x,inv x→IWP P O N c (st x) (zP (fun S'=>∃ y ρ,Weak S' (st y) ρ∧inv y∧m y<m x) Q)):LG P O N c Q S:=by
 intro E β a hr b k cs hro hb hroom
 have key:∀ n x E β a,m x=n→inv x→Rel O N (st x) E β a →
  ∃ e a' w',(∃ S' E' β',E'.w=w'∧Rel O N S' E' β' a'∧Q e S')∧ArrivesIn (Machine.fenced P (fen O.round)) P (lone (b.atR a (.code c :: .inLoop c::k)) cs E.w) b k cs e a' w':=by
  intro n
  induction n using Eg with
  | _ n ih =>
    intro x E β a hn hI hr
    obtain ⟨e,a₁,w₁,⟨S₁,E₁,β₁,rfl,hr₁,hq⟩,harr⟩:=round x hI E β a hr b (.inLoop c::k) cs hro hb hroom
    cases e with
    | normal =>
      obtain ⟨y,ρ,hw,hI₁,hlt⟩:=hq
      obtain ⟨β₂,hr₂⟩:=hr₁.weak hw
      obtain ⟨e₂,a₂,w₂,hq₂,harr₂⟩:=ih (m y) (hn ▸ hlt) y E₁ β₂ a₁ rfl hI₁ hr₂
      exact ⟨e₂,a₂,w₂,hq₂,.of_steps (StepsIn.trans harr (.one (fenced_calm hb hroom rfl) stepR_inLoop)) harr₂⟩
    | exit id=>exact ⟨_,a₁,_,⟨S₁,E₁,β₁,rfl,hr₁,hq⟩,.pass (x:=.inLoop c) rfl (fun _ _=>.inl (by simp)) harr⟩
    | goto l=>exact ⟨_,a₁,_,⟨S₁,E₁,β₁,rfl,hr₁,hq⟩,.pass (x:=.inLoop c) rfl (fun _ _=>.inl (by simp)) harr⟩
    | ret=>exact ⟨_,a₁,_,⟨S₁,E₁,β₁,rfl,hr₁,hq⟩,.pass (x:=.inLoop c) rfl (fun _ _=>.inl (by simp)) harr⟩
    | panic ch=>exact ⟨_,a₁,_,⟨S₁,E₁,β₁,rfl,hr₁,hq⟩,.pass (x:=.inLoop c) rfl (fun _ _=>.inl (by simp)) harr⟩
    | outgrown=>exact ⟨_,a₁,_,⟨S₁,E₁,β₁,rfl,hr₁,hq⟩,.pass (x:=.inLoop c) rfl (fun _ _=>.inl (by simp)) harr⟩
 obtain ⟨β₀,hr₀⟩:=hr.weak h0
 exact key _ a0 E β₀ a rfl i0 hr₀
def aDN (l:Nat) (J:St→Prop) (Q:Exit→St→Prop):Exit→St→Prop
 | .goto l',S=>l'=l∧J S
 | e,S=>Q e S
theorem aEl {l:Nat} {J:St→Prop} (h:Q .ret S):aDN l J Q .ret S:=h
theorem iN {b:Frame} {k:List Item} {cs:List Frame} {m:Machine} {c:Code} {e:Exit} {a:Act} {w:World} (hro:b.roundOf=(fen O.round).round) (hb:(fen O.round).fn b.fn) (hr:(fen O.round).room (cs.length+1+0)) (he:∀ l,e ≠ .goto l)
 (h:ArrivesIn (Machine.fenced P (fen O.round)) P m b (.inScope c::k) cs e a w):ArrivesIn (Machine.fenced P (fen O.round)) P m b k cs e a w:=by
 cases e with
 | normal=>exact StepsIn.trans h (.one (fenced_calm hb hr rfl) zQ)
 | exit id =>
   have hx:exitTo id (.inScope c::k)=exitTo id k:=by simp [exitTo]
   exact ⟨fun k' hk=>h.1 k' (by rw [hx]; exact hk),fun hr' hk=>h.2 hr' (by rw [hx]; exact hk)⟩
 | goto l=>exact AJ rfl (he l)
 | ret=>exact h
 | panic ch=>exact h
 | outgrown=>exact h
theorem yI {α:Type} {c A:Code} (l:Nat) (st:α→St) (inv:α→Prop) (m:α→Nat) (hg:findLabel c l=some (.seq .skip A))
 (round:∀ x,inv x→IWP P O N A (st x) (aDN l (fun S'=>∃ y ρ,Weak S' (st y) ρ∧inv y∧m y<m x) Q))
 (h:(∀ S,(∃ y ρ,Weak S (st y) ρ∧inv y)→IWP P O N A S (aDN l (fun S'=>∃ y ρ,Weak S' (st y) ρ∧inv y) Q))→IWP P O N c S (aDN l (fun S'=>∃ y ρ,Weak S' (st y) ρ∧inv y) Q)):IWP P O N (.scope c) S Q:=by
 have hsk:∀ x,inv x→IWP P O N (.seq .skip A) (st x) (aDN l (fun S'=>∃ y ρ,Weak S' (st y) ρ∧inv y∧m y<m x) Q):=fun x hx=>aP (aS (round x hx))
 have hgo:∀ S,(∃ y ρ,Weak S (st y) ρ∧inv y)→IWP P O N A S (aDN l (fun S'=>∃ y ρ,Weak S' (st y) ρ∧inv y) Q):=by
  rintro S ⟨y,ρ,hw,hy⟩
  refine qM ρ hw (qN (round y hy) fun e S' hq=>?_)
  cases e with
  | goto l'=>obtain ⟨h1,z,ρ',h2,h3,_⟩:=hq; exact ⟨h1,z,ρ',h2,h3⟩
  | _=>exact hq
 intro E β a hr b k cs hro hb hroom
 have hk:gotoIn l (.inScope c::k)=some (.code (.seq .skip A) :: .inScope c::k):=by simp [gotoIn,hg]
 have key:∀ n x E β a,m x=n→inv x→Rel O N (st x) E β a →
  ∃ e a' w',(∃ S' E' β',E'.w=w'∧Rel O N S' E' β' a'∧Q e S')∧ArrivesIn (Machine.fenced P (fen O.round)) P (lone (b.atR a (.code (.seq .skip A) :: .inScope c::k)) cs E.w) b k cs e a' w':=by
  intro n
  induction n using Eg with
  | _ n ih =>
    intro x E β a hn hI hr
    obtain ⟨e,a₁,w₁,⟨S₁,E₁,β₁,rfl,hr₁,hq⟩,harr⟩:=hsk x hI E β a hr b (.inScope c::k) cs hro hb hroom
    cases e with
    | goto l' =>
      obtain ⟨rfl,y,ρ,hw,hI₁,hlt⟩:=hq
      obtain ⟨β₂,hr₂⟩:=hr₁.weak hw
      obtain ⟨e₂,a₂,w₂,hq₂,harr₂⟩:=ih (m y) (hn ▸ hlt) y E₁ β₂ a₁ rfl hI₁ hr₂
      exact ⟨e₂,a₂,w₂,hq₂,.of_steps (harr.1 _ hk) harr₂⟩
    | normal=>exact ⟨_,a₁,_,⟨S₁,E₁,β₁,rfl,hr₁,hq⟩,iN hro hb hroom (fun _ h=>by cases h) harr⟩
    | exit id=>exact ⟨_,a₁,_,⟨S₁,E₁,β₁,rfl,hr₁,hq⟩,iN hro hb hroom (fun _ h=>by cases h) harr⟩
    | ret=>exact ⟨_,a₁,_,⟨S₁,E₁,β₁,rfl,hr₁,hq⟩,iN (c:=c) hro hb hroom (fun _ h=>by cases h) harr⟩
    | panic ch=>exact ⟨_,a₁,_,⟨S₁,E₁,β₁,rfl,hr₁,hq⟩,iN (c:=c) hro hb hroom (fun _ h=>by cases h) harr⟩
    | outgrown=>exact ⟨_,a₁,_,⟨S₁,E₁,β₁,rfl,hr₁,hq⟩,iN (c:=c) hro hb hroom (fun _ h=>by cases h) harr⟩
 obtain ⟨e,a₁,w₁,⟨S₁,E₁,β₁,rfl,hr₁,hq⟩,harr⟩:=h hgo E β a hr b (.inScope c::k) cs hro hb hroom
 have hst:StepsIn (Machine.fenced P (fen O.round)) P (lone (b.atR a (.code (.scope c)::k)) cs E.w) (lone (b.atR a (.code c :: .inScope c::k)) cs E.w):=.one (fenced_calm hb hroom rfl) aBV
 cases e with
 | goto l' =>
   obtain ⟨rfl,y,ρ,hw,hI₁⟩:=hq
   obtain ⟨β₂,hr₂⟩:=hr₁.weak hw
   obtain ⟨e₂,a₂,w₂,hq₂,harr₂⟩:=key (m y) y E₁ β₂ a₁ rfl hI₁ hr₂
   exact ⟨e₂,a₂,w₂,hq₂,.of_steps hst (.of_steps (harr.1 _ hk) harr₂)⟩
 | normal=>exact ⟨_,a₁,_,⟨S₁,E₁,β₁,rfl,hr₁,hq⟩,.of_steps hst (iN hro hb hroom (fun _ h=>by cases h) harr)⟩
 | exit id=>exact ⟨_,a₁,_,⟨S₁,E₁,β₁,rfl,hr₁,hq⟩,.of_steps hst (iN hro hb hroom (fun _ h=>by cases h) harr)⟩
 | ret=>exact ⟨_,a₁,_,⟨S₁,E₁,β₁,rfl,hr₁,hq⟩,.of_steps hst (iN (c:=c) hro hb hroom (fun _ h=>by cases h) harr)⟩
 | panic ch=>exact ⟨_,a₁,_,⟨S₁,E₁,β₁,rfl,hr₁,hq⟩,.of_steps hst (iN (c:=c) hro hb hroom (fun _ h=>by cases h) harr)⟩
 | outgrown=>exact ⟨_,a₁,_,⟨S₁,E₁,β₁,rfl,hr₁,hq⟩,.of_steps hst (iN (c:=c) hro hb hroom (fun _ h=>by cases h) harr)⟩
end
end Go.IL
open Go.IL.D renaming refsIn → BH,refsInL_mono → Cf,ren → FO,renL_bare → CQ
open Go.IL.Ent renaming ren → Br
open List renaming cons_append → BQ,drop_append → Dt,take_append → FQ
open Nat renaming add_assoc → Ea,one_mul → CC
namespace Go.IL
def mixD {α:Type} (f:Enc0 α) (pre:List D) (xs:List α) (post:List D):List D:=pre++(Ad (xs.map f.d)++post)
section
variable {P:Bc} {O:bG} {N:Nat} {S S':St} {o:Oper} {t:Nat} {α:Type}
theorem uI (f:Enc0 α) (pre:List D) (xs:List α) (post:List D):(mixD f pre xs post).length=pre.length+(xs.length*f.sz+post.length):=by
 unfold mixD
 rw [Be,Be,f.flat_len]
theorem aEC (f:Enc0 α) {pre:List D} (xs:List α) (post:List D) {off:Nat} (h:off≤pre.length):(mixD f pre xs post).drop off=pre.drop off++(Ad (xs.map f.d)++post):=by
 unfold mixD
 rw [Bk h]
theorem aFt (f:Enc0 α) (pre:List D) {xs:List α} {post:List D} {n off k:Nat} (hl:xs.length=n) (ho:off=pre.length+n*f.sz+k):(mixD f pre xs post).drop off=post.drop k:=by
 unfold mixD
 have h1:=f.flat_len xs
 rw [hl] at h1
 rw [ho,Ea,Dt,Cj (by omega),BL,show pre.length+(n*f.sz+k)-pre.length=n*f.sz+k by omega,Dt,Cj (by omega),BL,show n*f.sz+k-(Ad (xs.map f.d)).length=k by omega]
theorem aED (f:Enc0 α) {pre:List D} {xs:List α} {post:List D} {b i k:Nat} {a:α} (hb:pre.length=b) (ha:xs[i]? = some a) (hk:k≤f.sz):∃ q,(mixD f pre xs post).drop (b+(i*f.sz+k))=(f.d a).cells.drop k++q:=by
 obtain ⟨q,hq⟩:=f.drop_at ha k hk
 have hlt:=(Ah.1 ha).1
 have hle:(i+1)*f.sz≤xs.length*f.sz:=AP _ (by omega)
 rw [Bp,CC] at hle
 refine ⟨q++post,?_⟩
 unfold mixD
 rw [Dt,Cj (by omega),BL,show b+(i*f.sz+k)-pre.length=i*f.sz+k by omega,Bk (by rw [f.flat_len]; omega),hq,AG]
theorem aEE {f:Enc0 α} {pre post:List D} {xs:List α} {a:α} {b i k size:Nat} (hb:pre.length=b) (ha:xs[i]? = some a) (hn:k+size≤f.sz):b+(i*f.sz+k)+size≤(mixD f pre xs post).length:=by
 have hlt:=(Ah.1 ha).1
 have hle:(i+1)*f.sz≤xs.length*f.sz:=AP _ (by omega)
 rw [Bp,CC] at hle
 rw [uI]; omega
section loads
variable (f:Enc0 α) {T:Au} {x:Aq} {u:TypeDesc} {z:Af AF} {size bytes:Nat} {id off:Nat} {e:Au} {pre post r cs:List D} {xs:List α} {d:D}
theorem xL (ho:o.op = .load T x) (hd:o.dst=some t) (ht:t<N) (hu:P.underlying T=some u) (hg:iT P T=false) (hi:TI P T z size bytes) (h1:0<size) (hx:SV S x (.ref id off)) (he:S.ent id = .blk e (mixD f pre xs post)) (hn:off+size≤pre.length)
 (hdd:pre.drop off=d::r):IOp P O N o S (S.set t d) :=
 hD ho hd ht hu hg hi h1 hx he (by rw [uI]; omega) (r:=r++(Ad (xs.map f.d)++post)) (by rw [aEC f xs post (by omega),hdd]; rfl)
theorem pC (ho:o.op = .load T x) (hd:o.dst=some t) (ht:t<N) (hu:P.underlying T=some u) (hg:iT P T=true) (hi:TI P T z size bytes) (h1:0<size) (hx:SV S x (.ref id off)) (he:S.ent id = .blk e (mixD f pre xs post)) (hn:off+size≤pre.length)
 (hdd:(pre.drop off).take size=cs):IOp P O N o S (S.set t (.agg cs)) :=
 kW ho hd ht hu hg hi h1 hx he (by rw [uI]; omega) (by rw [aEC f xs post (by omega),AM (by rw [BP]; omega)]; exact hdd)
theorem jY {n k:Nat} (ho:o.op = .load T x) (hd:o.dst=some t) (ht:t<N) (hu:P.underlying T=some u) (hg:iT P T=false) (hi:TI P T z size bytes) (h1:0<size) (hx:SV S x (.ref id off)) (he:S.ent id = .blk e (mixD f pre xs post)) (hl:xs.length=n)
 (hof:off=pre.length+n*f.sz+k) (hn:k+size≤post.length) (hdd:post.drop k=d::r):IOp P O N o S (S.set t d) :=
 hD ho hd ht hu hg hi h1 hx he (by rw [uI,hl]; omega) (by rw [aFt f pre hl hof]; exact hdd)
theorem cG {b i k:Nat} {a:α} (ho:o.op = .load T x) (hd:o.dst=some t) (ht:t<N) (hu:P.underlying T=some u) (hg:iT P T=false) (hi:TI P T z size bytes) (h1:0<size) (hx:SV S x (.ref id (b+(i*f.sz+k)))) (he:S.ent id = .blk e (mixD f pre xs post)) (hb:pre.length=b)
 (ha:xs[i]? = some a) (hn:k+size≤f.sz) (hdd:(f.d a).cells.drop k=d::r):IOp P O N o S (S.set t d):=by
 obtain ⟨q,hq⟩:=aED (post:=post) f hb ha (show k≤f.sz by omega)
 exact hD ho hd ht hu hg hi h1 hx he (aEE hb ha hn) (r:=r++q) (by rw [hq,hdd]; rfl)
theorem aBq {b i k:Nat} {a:α} (ho:o.op = .load T x) (hd:o.dst=some t) (ht:t<N) (hu:P.underlying T=some u) (hg:iT P T=true) (hi:TI P T z size bytes) (h1:0<size) (hx:SV S x (.ref id (b+(i*f.sz+k)))) (he:S.ent id = .blk e (mixD f pre xs post)) (hb:pre.length=b)
 (ha:xs[i]? = some a) (hn:k+size≤f.sz) (hdd:((f.d a).cells.drop k).take size=cs):IOp P O N o S (S.set t (.agg cs)):=by
 obtain ⟨q,hq⟩:=aED (post:=post) f hb ha (show k≤f.sz by omega)
 exact kW ho hd ht hu hg hi h1 hx he (aEE hb ha hn) (by rw [hq,AM (by rw [BP,(f.fl a).1]; omega)]; exact hdd)
end loads
theorem wB {A Z C:List D} {off:Nat} (h:off+C.length≤A.length):gC (A++Z) off C=gC A off C++Z:=by
 unfold gC
 rw [AM (by omega),Bk (by omega)]; simp
theorem qY {A Z C:List D} {off k:Nat} (h:off=A.length+k):gC (A++Z) off C=A++gC Z k C:=by
 unfold gC
 rw [h,FQ,Ci (by omega),show A.length+k-A.length=k by omega,Dt,Cj (by omega),BL,show A.length+k+C.length-A.length=k+C.length by omega]; simp
section stores
variable (f:Enc0 α) {T:Au} {x y:Aq} {z:Af AF} {size bytes:Nat} {id off:Nat} {e:Au} {pre pre' post post':List D} {xs zs:List α} {d:D}
theorem uL (ho:o.op = .store T x y) (hd:o.dst=none) (hi:TI P T z size bytes) (hx:SV S x (.ref id off)) (he:S.ent id = .blk e (mixD f pre xs post)) (hy:SV S y d) (hb:d.boxable=true) (hsz:d.cells.length=size) (h1:d.cells.all DZ=true)
 (hn:off+size≤pre.length) (hds:gC pre off d.cells=pre'):IOp P O N o S (S.setE id (.blk e (mixD f pre' xs post))) :=
 eK ho hd hi hx he hy hb hsz h1 (by rw [uI]; omega) (by unfold mixD; rw [wB (by omega),hds])
theorem rU {n k:Nat} (ho:o.op = .store T x y) (hd:o.dst=none) (hi:TI P T z size bytes) (hx:SV S x (.ref id off)) (he:S.ent id = .blk e (mixD f pre xs post)) (hy:SV S y d) (hb:d.boxable=true) (hsz:d.cells.length=size) (h1:d.cells.all DZ=true)
 (hl:xs.length=n) (hof:off=pre.length+n*f.sz+k) (hn:k+size≤post.length) (hds:gC post k d.cells=post'):IOp P O N o S (S.setE id (.blk e (mixD f pre xs post'))):=by
 have hfl:=f.flat_len xs
 rw [hl] at hfl
 exact eK ho hd hi hx he hy hb hsz h1 (by rw [uI,hl]; omega) (by unfold mixD; rw [qY (A:=pre) (k:=n*f.sz+k) (by omega),qY (k:=k) (by omega),hds])
theorem kN {b i k:Nat} {a a':α} (ho:o.op = .store T x y) (hd:o.dst=none) (hi:TI P T z size bytes) (hx:SV S x (.ref id (b+(i*f.sz+k)))) (he:S.ent id = .blk e (mixD f pre xs post)) (hy:SV S y d) (hb:d.boxable=true) (hsz:d.cells.length=size) (h1:d.cells.all DZ=true)
 (hpb:pre.length=b) (ha:xs[i]? = some a) (hn:k+size≤f.sz) (hs:gC (f.d a).cells k d.cells=(f.d a').cells) (hz:xs.set i a'=zs):IOp P O N o S (S.setE id (.blk e (mixD f pre zs post))):=by
 subst hz
 have hlt:=(Ah.1 ha).1
 have hle:(i+1)*f.sz≤xs.length*f.sz:=AP _ (by omega)
 rw [Bp,CC] at hle
 refine eK ho hd hi hx he hy hb hsz h1 (aEE hpb ha hn) ?_
 unfold mixD
 rw [qY (A:=pre) (k:=i*f.sz+k) (by omega),wB (by rw [f.flat_len]; omega),f.flat_set (by omega) ha hs]
end stores
theorem dJ (f:Enc0 α) {T e:Au} {len b:Nat} {x y:Aq} {xs:List α} {a:α} {k:IntKind} {n:Int} {z:Af AF} {bytes:Nat} {id:Nat} (ho:o.op = .indexAddr T x y) (hd:o.dst=some t) (ht:t<N)
 (hu:P.underlying T=some (.array len e)) (hi:TI P e z f.sz bytes) (hx:SV S x (.ref id b)) (hl:xs.length=len) (hy:SV S y (.int k n)) (hn:gix xs n=some a) :
 IOp P O N o S (S.set t (.ref id (b+(n.toNat*f.sz+0)))) :=
 nE ho hd ht hu hi hx hy (sE hn).1 (hl ▸ (Ah.1 (sE hn).2).1) (by omega)
theorem bT {T:Au} {x:Aq} {i:Nat} {fs:Array Field} {F:Field} {z:Af AF} {size bytes:Nat} {id b j k:Nat} (ho:o.op = .fieldAddr T x i) (hd:o.dst=some t) (ht:t<N)
 (hu:P.underlying T=some (.struct fs)) (hf:fs[i]? = some F) (hi:TI P F.type z size bytes) (hs:0<size) (hx:SV S x (.ref id (b+(j+k)))) {k':Nat} (ho':k+F.offset=k'):IOp P O N o S (S.set t (.ref id (b+(j+k')))) :=
 gH ho hd ht hu hf hi hs hx (by omega)
theorem sK {ρ:Nat→Nat}:∀ (l m:List D),BA ρ (l++m)=BA ρ l++BA ρ m
 | [],_=>rfl
 | d::l,m=>by rw [BQ,BA,BA,sK l m]; rfl
theorem dI {ρ:Nat→Nat} (f:Enc α) (pre:List D) (xs:List α) (post:List D):BA ρ (mixD f.toEnc0 pre xs post)=mixD f.toEnc0 (BA ρ pre) xs (BA ρ post):=by
 unfold mixD
 rw [sK,sK,CQ _ (f.noRef xs)]
theorem zZ {p:Nat→Bool} (f:Enc α) {pre:List D} {xs:List α} {post:List D} (h1:AD p pre=true) (h2:AD p post=true):AD p (mixD f.toEnc0 pre xs post)=true:=by
 unfold mixD
 exact nX h1 (nX (Cf _ (f.noRef xs)) h2)
theorem SubC.refl:∀ l:List D,SubC l l
 | []=>.nil
 | _::l=>.same (SubC.refl l)
theorem SubC.append {l l' m m':List D} (h:SubC l l') (k:SubC m m'):SubC (l++m) (l'++m'):=by
 induction h with
 | nil=>exact k
 | same _ ih=>exact .same ih
 | nilg _ ih=>exact .nilg ih
 | nilo _ ih=>exact .nilo ih
 | nils _ ih=>exact .nils ih
 | gsl _ ih=>exact .gsl ih
theorem EntW.mix {ρ:Nat→Nat} {id:Nat} {e:Au} (f:Enc α) {pre pre' post post':List D} {xs:List α} (h:S.ent (ρ id) = .blk e (mixD f.toEnc0 pre' xs post')) (h1:SubC pre' (BA ρ pre)) (h2:SubC post' (BA ρ post))
 (r1:AD S'.okn pre=true) (r2:AD S'.okn post=true):EntW S S' ρ id (.blk e (mixD f.toEnc0 pre xs post)) :=
 .sub h (by rw [dI]; exact h1.append ((SubC.refl _).append h2)) (zZ f r1 r2)
theorem SubC.of_eq {l l':List D} (h:l=l'):SubC l l':=h ▸ SubC.refl l
theorem kK (f:Enc α) {ρ:Nat→Nat} {i:Nat} {e:Au} {pre pre' post post':List D} {xs:List α} (h:S.ent i = .blk e (mixD f.toEnc0 pre' xs post')) (h1:pre'=BA ρ pre) (h2:post'=BA ρ post):S.ent i=(Ent.blk e (mixD f.toEnc0 pre xs post)).ren ρ:=by
 rw [h,Br,dI,h1,h2]
theorem cW (f:Enc α) {p:Nat→Bool} {e:Au} {pre post:List D} {xs:List α} (h1:AD p pre=true) (h2:AD p post=true):(Ent.blk e (mixD f.toEnc0 pre xs post)).refsIn p=true:=zZ f h1 h2
theorem SlW.mix {ρ:Nat→Nat} {t:Nat} (f:Enc α) {xs:List α} (h:S.get t = .agg (mixD f.toEnc0 [] xs [])):SlW S S' ρ t (.agg (mixD f.toEnc0 [] xs [])) :=
 .same (by rw [h,FO,dI]; rfl) (by rw [BH]; exact zZ f rfl rfl)
section
variable {Q:Exit→St→Prop}
end
theorem aA5 {β:Type} {z:β} {j:Nat} {f:Nat→β} {rest:List (Nat×β)}:∀ {V:List (Nat×β)},(∀ x∈V,f x.1=x.2)→(j ∉ V.map (·.1)→look z j rest=f j)→look z j (V++rest)=f j
 | [],_,h=>h (by simp)
 | x::V,hV,h=>by
   obtain ⟨i,e⟩:=x
   rw [BQ,aN]
   by_cases hi:i=j
   · subst hi; rw [Az rfl]; exact (hV (i,e) (by simp)).symm
   · rw [An hi]; exact aA5 (fun x hx=>hV x (by simp [hx])) (fun hn=>h (by simpa [Ne.symm hi] using hn))
theorem aA4 {β:Type} {z:β} {j:Nat} {rest:List (Nat×β)}:∀ {V:List (Nat×β)},j ∉ V.map (·.1)→look z j (V++rest)=look z j rest
 | [],_=>rfl
 | (i,e)::V,h=>by
   rw [BQ,aN,An (fun hi=>h (by simp [hi]))]
   exact aA4 (fun hm=>h (by simp at hm ⊢; exact .inr hm))
theorem fZ {f:BX} {xs:List Aq} {ts:Array Au} {ds ds':List D} {r r':D} {H0 H1 V:List (Nat×Ent)} (k:Nat) (A:List Nat) (ho:o.op = .call { callee:=.value (.func f),args:=xs.toArray,argTypes:=ts }) (hd:o.dst=some t) (ht:t<N)
 (hc:aY P f) (hx:SVs S xs ds') (hds:BA (sig k A) ds=ds') (hp:AD (eS A) ds=true) (hk:AZ (k+0) 1000=true)
 (hh:HandM S k A H0) (hf:FnH P f ds H0 r H1) (hrr:r.ren (sig k A)=r') (hrp:r.refsIn (pG 0 A)=true) (hH1:∀ x∈H1,pG 0 A x.1=true∧x.2.refsIn (pG 0 A)=true)
 (hV:(H1.map fun x=>(sig k A x.1,x.2.ren (sig k A)))=V) (hE:∀ x∈V,S.ent x.1=x.2) (hW:(H0.map fun x=>sig k A x.1).all (fun i=>(V.map (·.1)).contains i)=true):IOp P O N o S (S.set t r'):=by
 refine (pD k 0 A ho hd ht hc hx hds hp hk (by simp) hh hf hrr hrp hH1 rfl).to fun E β a hr=>hr.same (fun s=>rfl) fun j=>?_
 show S.ent j=look (defE j) j (((H1.map fun x=>(sig k A x.1,x.2.ren (sig k A)))++(H0.map fun x=>(sig k A x.1,Ent.none)))++S.H)
 rw [hV,AG]
 refine (aA5 (f:=S.ent) hE fun hn=>?_).symm
 rw [aA4 (fun hm=>hn ?_)]
 · rfl
 · obtain ⟨x,hx,rfl⟩:=Al.1 hm
   obtain ⟨y,hy,rfl⟩:=Al.1 hx
   have:=AW.1 hW (sig k A y.1) (Al.2 ⟨y,hy,rfl⟩)
   simpa using this
end
end Go.IL
open Bool renaming or_eq_true → BC
open List renaming pairwise_cons → AQ,pairwise_singleton → EA
open _root_ renaming decide_eq_true → Ai,decide_eq_true_iff → CA
namespace Go.IL
section
variable {α:Type} (k:α→Int)
def putK (x:α):List α→List α
 | []=>[x]
 | y::l=>if k x≤k y then x::y::l else y::putK x l
def oK:List α→List α
 | []=>[]
 | x::l=>putK k x (oK l)
theorem wO (x:α):∀ l:List α,(putK k x l).Perm (x::l)
 | []=>.refl _
 | y::l=>by
   unfold putK
   split
   · exact .refl _
   · exact ((wO x l).cons y).trans (.swap x y l)
theorem nP:∀ l:List α,(oK k l).Perm l
 | []=>.refl _
 | x::l=>(wO k x _).trans ((nP l).cons x)
theorem wM (x:α):∀ {l:List α},l.Pairwise (fun a b=>k a≤k b)→(putK k x l).Pairwise (fun a b=>k a≤k b)
 | [],_=>EA _ _
 | y :: l,h=>by
   obtain ⟨h1,h2⟩:=AQ.1 h
   unfold putK
   split
   · rename_i hx
     refine AQ.2 ⟨fun z hz=>?_,h⟩
     rcases Av.1 hz with rfl | hz
     · exact hx
     · have:=h1 z hz; omega
   · rename_i hx
     refine AQ.2 ⟨fun z hz=>?_,wM x h2⟩
     rcases Av.1 ((wO k x l).mem_iff.1 hz) with rfl | hz
     · omega
     · exact h1 z hz
theorem oR:∀ l:List α,(oK k l).Pairwise (fun a b=>k a≤k b)
 | []=>.nil
 | x::l=>wM k x (oR l)
theorem yQ:∀ {l m:List α},l.Perm m→(∀ a∈l,∀ b∈l,k a=k b→a=b)→l.Pairwise (fun a b=>k a≤k b)→m.Pairwise (fun a b=>k a≤k b)→l=m
 | [],m,hp,_,_,_=>(List.nil_perm.1 hp).symm
 | x::l,[],hp,_,_,_=>by have:=hp.length_eq; simp at this
 | x :: l,y::m,hp,hi,h1,h2=>by
   obtain ⟨a1,a2⟩:=AQ.1 h1
   obtain ⟨b1,b2⟩:=AQ.1 h2
   have hy:y∈x::l:=hp.mem_iff.2 (by simp)
   have hx:x∈y::m:=hp.mem_iff.1 (by simp)
   have e:x=y:=by
    refine hi x (by simp) y hy ?_
    have l1:k x≤k y:=by
     rcases Av.1 hy with e | h
     · rw [e]; exact Dj _
     · exact a1 y h
    have l2:k y≤k x:=by
     rcases Av.1 hx with e | h
     · rw [e]; exact Dj _
     · exact b1 x h
    omega
   subst e
   rw [yQ (List.Perm.cons_inv hp) (fun a ha b hb=>hi a (by simp [ha]) b (by simp [hb])) a2 b2]
theorem aA8 {l m:List α} (hp:m.Perm l) (hi:∀ a∈l,∀ b∈l,k a=k b→a=b) (hs:m.Pairwise (fun a b=>k a≤k b)):oK k l=m :=
 (yQ k (hp.trans (nP k l).symm) (fun a ha b hb=>hi a (hp.mem_iff.1 ha) b (hp.mem_iff.1 hb)) hs (oR k l)).symm
def aBW (good:α→Bool) (l:List α):Af (List α):=if decide (l.length<4611686018427387904)&&l.all good&&decide (l.map k).Nodup then some (oK k l) else none
end
theorem vC {α:Type} {k:α→Int}:∀ {l:List α},(l.map k).Nodup→∀ a∈l,∀ b∈l,k a=k b→a=b
 | x :: l,h,a,ha,b,hb,e=>by
   obtain ⟨h1,h2⟩:=Bm.1 h
   rcases Av.1 ha with g | g
   · rcases Av.1 hb with g' | g'
     · rw [g,g']
     · exact AJ (Al.2 ⟨b,g',by rw [←e,g]⟩) h1
   · rcases Av.1 hb with g' | g'
     · exact AJ (Al.2 ⟨a,g,by rw [e,g']⟩) h1
     · exact vC h2 a g b g' e
theorem sortK_e {α:Type} {k:α→Int} {good:α→Bool} {l r:List α} (h:aBW k good l=some r):l.length<4611686018427387904∧(∀ x∈l,good x=true)∧(l.map k).Nodup∧r=oK k l:=by
 unfold aBW at h
 split at h
 · rename_i hc
   rw [AA,AA,CA,CA] at hc
   exact ⟨hc.1.1,AW.1 hc.1.2,hc.2,(Option.some.inj h).symm⟩
 · cases h
theorem sortK_t {α:Type} {k:α→Int} {good:α→Bool} {l:List α} (h1:l.length≤1000000) (h2:∀ x∈l,good x=true) (h3:(l.map k).Nodup):aBW k good l=some (oK k l):=by
 unfold aBW
 rw [Ai (by omega),AW.2 h2,Ai h3]; rfl
def aBY (l:List Int):Af (List Int):=if l.length<4611686018427387904 then some (oK id l) else none
theorem sortI_e {l r:List Int} (h:aBY l=some r):l.length<4611686018427387904∧r=oK id l:=by
 unfold aBY at h
 split at h
 · exact ⟨by assumption,(Option.some.inj h).symm⟩
 · cases h
theorem sortI_t {l:List Int} (h:l.length≤1000000):aBY l=some (oK id l):=Az (by omega)
theorem aBX (l:List Int):l.mergeSort (fun x y=>decide (x≤y))=oK id l:=by
 refine (aA8 id (List.mergeSort_perm l _) (fun a _ b _ e=>e) ?_).symm
 refine (List.pairwise_mergeSort (fun a b c h1 h2=>?_) (fun a b=>?_) l).imp fun h=>of_decide_eq_true h
 · exact Ai (Int.le_trans (of_decide_eq_true h1) (of_decide_eq_true h2))
 · rw [BC,CA,CA]; omega
end Go.IL
open _root_.Array renaming extract_eq_self_of_le → Ei,getElem?_modify → EM,getElem_toList → EX,size_modify → FE
open Bool renaming false_eq_true → CN
open List renaming flatMap_cons → CH,getElem?_append_right → Bs,getElem?_map → CI,length_cons → AV,length_flatMap → Fh,length_map → Aw,map_congr_left → AU,map_id → CZ,pairwise_iff_getElem → CR,pairwise_map → Bo,sum_replicate_nat → EH
open Nat renaming le_of_not_lt → CM,mod_eq_of_lt → EF,zero_le → CX
open Option renaming isSome_none → Fx
open _root_ renaming decide_eq_false → Aj
open Go.RowKit (Below)
open Go.Sort
namespace Go.IL
def OH (E:Env) (β:bB) (H0:List (Nat×Ent)):bG:=⟨E.w,E.X,kG β H0,β,none,fun _=>[],fun _=>0,fun _=>[],fun _=>(#[],.skip,.skip),E.w.heap.size⟩
theorem uV {α:Type} [Inhabited α] (enc:α→AF) {zs zs':List α} (sp:List AF) (hl:zs'.length=zs.length):putCells enc 0 zs'.toArray (zs.map enc++sp).toArray=(zs'.map enc++sp).toArray:=by
 apply Array.ext_getElem?
 intro i
 unfold putCells
 rw [Array.getElem?_mapIdx,Cw,Cw]
 by_cases hi:i<zs.length
 · have hi':i<zs'.length:=by omega
   rw [AK (by simpa using hi),AK (by simpa using hi'),CI,CI,AY hi,AY hi']
   simp [hi']
 · rw [Bs (by simp; omega),Bs (by simp; omega),Aw,Aw,hl]
   cases sp[i-zs.length]? with
   | none=>rfl
   | some v =>
     simp only [DD]
     rw [An (by simp; omega)]
theorem aEB (h:Array Obj) (b:Nat) (f:Obj→Obj) (o:Obj) (e:h[b]? = some o):(h.modify b f)[b]? = some (f o):=by
 rw [EM,Az rfl,e]; rfl
theorem aA0 (h:Array Obj) {b k:Nat} (f:Obj→Obj) (hk:k≠b):(h.modify b f)[k]? = h[k]?:=by
 rw [EM,An (Ne.symm hk)]
theorem aDs {E:Env} {β:bB} {e:Au} {ds ds':List D} {b n:Nat} {vs sp vs':List AF} {g:Array AF→Array AF} (os:Array Obj)
 (hok:HOk (OH E β [(1000,.blk e ds)]) E β (entL [(1000,.blk e ds)])) (hb:β 1000=some b) (hh:E.w.heap[b]? = some (.cells (Co (vs++sp)) e (0,0))) (hX:∀ o,E.X b o)
 (hg:g (Co (vs++sp))=Co (vs'++sp)) (hl:vs'.length=vs.length) (hv:∀ E',RdL E' β vs' ds') :
 HOk (OH E β [(1000,.blk e ds)]) ⟨grow (mapBlock (Sort.ahead E.w n) b g) os,E.X⟩ β (entL [(1000,.blk e ds')]):=by
 have hlt:=cV hh
 have hown:(OH E β [(1000,.blk e ds)]).own b:=hok.own (j:=1000) rfl hb
 let E1:Env:=⟨mapBlock (Sort.ahead E.w n) b g,E.X⟩
 have hat:E1.w.heap[b]? = some (.cells (Co (vs'++sp)) e (0,0)):=by
  show (E.w.heap.modify b (onCells g))[b]? = _
  rw [aEB _ _ _ _ hh]
  show some (Obj.cells (g _) e (0,0))=_
  rw [hg]
 have hs:Step (OH E β [(1000,.blk e ds)]) E E1 b:=⟨rfl,rfl,rfl,by show E.w.heap.size≤(E.w.heap.modify b (onCells g)).size; rw [FE]; exact AL _,by show b<(E.w.heap.modify b (onCells g)).size; rw [FE]; exact hlt,hown,fun k _ hk=>aA0 _ _ hk,fun _ _ _=>Dw,fun _ h=>by rw [hh] at h; cases h⟩
 have hle:E.le E1:=hs.le (fun o v _ h2=>AJ (hX o) h2) (fun c e' f h3=>by
  rw [hh] at h3; cases h3
  exact ⟨_,_,hat,by simp [hl]⟩)
 have hput:HOk (OH E β [(1000,.blk e ds)]) E1 β (entL [(1000,.blk e ds')]):=by
  refine Dd hok hs hle (bB.le.refl _) (id:=1000) ?_ ?_ hb ?_ (fun _ _=>trivial)
  · intro j hj; left; exact ⟨by simp [entL,aN,Ne.symm hj],rfl⟩
  · intro j hj hheld hbj
    have:(entL [(1000,Ent.blk e ds)] j).held=true:=by simpa [entL,aN,Ne.symm hj] using hheld
    exact hj (hok.inj j 1000 b this rfl hbj hb)
  · exact ⟨_,sp,hat,hX,hv _⟩
 exact hput.below ⟨rfl,rfl,rfl,by show E1.w.heap.size≤(E1.w.heap++os).size; rw [DK]; omega,fun k hk=>by
  show (E1.w.heap++os)[k]? = _
  rw [Array.getElem?_append_left hk]⟩
theorem aCF {E:Env} {β:bB}:Rd E β (.tuple #[]) (retD []):=.tuple _ [] [] (.nil _)
theorem aEr {P:Bc} {f:BX} {e:Au} {n sz:Nat} {ds ds' ar:List D} (us:List AF) (has:∀ E β xs,RdL E β xs ar→xs=us)
 (hnil:n=0→ds'=ds∧∀ (p:Af Addr) (cap:Nat) (w:World),Calls P f ((.slice p 0 cap)::us).toArray w fun e w'=>e = .returned (.tuple #[])∧Below w.heap.size w w')
 (hrow:∀ (E:Env) (β:bB) (b cap:Nat) (vs sp:List AF) ,RdL E β vs ds→E.good→E.w.heap[b]? = some (.cells (Co (vs++sp)) e (0,0)) →
   Calls P f ((.slice (some ⟨b,0,none⟩) n cap)::us).toArray E.w fun e w'=>e = .returned (.tuple #[])∧∃ g k os vs',w'=grow (mapBlock (Sort.ahead E.w k) b g) os∧g (Co (vs++sp))=Co (vs'++sp)∧vs'.length=vs.length∧∀ E' β',RdL E' β' vs' ds') :
 FnH P f (.osl 1000 sz n::ar) [(1000,.blk e ds)] (retD []) [(1000,.blk e ds')]:=by
 intro E β xs hX hβ hok hvs
 cases hvs with
 | cons h1 h2 =>
   obtain rfl:=has _ _ _ h2
   cases h1 with
   | nosl =>
     obtain ⟨e1,h3⟩:=hnil rfl
     subst e1
     refine (h3 none 0 E.w).mono ?_
     rintro e' w' ⟨rfl,hb⟩
     exact ⟨_,rfl,⟨w',E.X⟩,β,rfl,hok.below hb,aCF⟩
   | osl _ _ b _ cap _ hb hc hsz c e' fz hcap hcs hcm =>
     have hent:=hok.ent 1000
     obtain ⟨vs,sp,g1,g2,g3,g4⟩:=oL (show mW (OH E β [(1000,.blk e ds)]) E β 1000 (.blk e ds) from hent) hb
     refine (hrow E β b cap vs sp g4 hX g2).mono ?_
     rintro e'' w' ⟨rfl,g,k,os,vs',rfl,k1,k2,k3⟩
     exact ⟨_,rfl,⟨_,E.X⟩,β,rfl,aDs os hok hb g2 g3 k1 k2 (fun E'=>k3 E' β),aCF⟩
theorem aCH {E:Env} {β:bB} {k:IntKind}:∀ {l:List Int} {vs:List AF},RdL E β vs (Ad (l.map (eInt k).d))→vs=l.map (Value.int k)
 | [],vs,h=>by cases h; rfl
 | x :: l,vs,h=>by
   have h:RdL E β vs (.int k x::Ad (l.map (eInt k).d)):=h
   cases h with
   | cons h1 h2 =>
     rw [aCH h2,iV h1]; rfl
theorem aCb (E:Env) (β:bB) (k:IntKind):∀ (l:List Int),RdL E β (l.map (Value.int k)) (Ad (l.map (eInt k).d))
 | []=>.nil _
 | x::l=>.cons (.int _ _ _) (aCb E β k l)
theorem aDL {w:World} {b:Nat} {e:Au} {zs:List Int} {sp:List AF} (hh:w.heap[b]? = some (.cells (Co (zs.map (Value.int .i64)++sp)) e (0,0))):Holds (Value.int .i64) w b 0 zs.toArray:=fun j hj=>by
 have hj:j<zs.length:=by simpa using hj
 refine ⟨?_,by simp [World.frozen?,hh]⟩
 simp only [World.cell?,hh,Bh,Fx,CN,if_false,Cw]
 rw [AK (by simpa using hj),CI,AY hj]
 simp [hj]
theorem aEp {P:Bc} {ρ:Shelf.Ren} (L:Proofs.Lays.n189 P ρ) {e:Au} (a0:List Int) (r:List Int) (h:aBY a0=some r) :
 FnH P (ρ.f 189) [.osl 1000 (eInt .i64).sz a0.length] [(1000,.blk e (Ad (a0.map (eInt .i64).d)))] (retD []) [(1000,.blk e (Ad (r.map (eInt .i64).d)))]:=by
 obtain ⟨h1,rfl⟩:=sortI_e h
 refine aEr [] (fun E β xs h=>by cases h; rfl) (fun h0=>?_) (fun E β b cap vs sp hv _ hh=>?_)
 · obtain rfl:=Bf.1 h0
   refine ⟨rfl,fun p cap w=>(Proofs.Any.slices_Sort_int_none L p cap w).mono ?_⟩
   rintro e w' h
   exact ⟨h.1,by rw [h.2]; exact Below.refl _ _⟩
 · obtain rfl:=aCH hv
   refine (Proofs.Any.slices_Sort_int L b 0 cap a0 E.w (aDL hh) (cV hh) h1).mono ?_
   rintro e w' ⟨rfl,n,os,rfl⟩
   rw [aBX]
   have hl:=(nP id a0).length_eq
   exact ⟨rfl,_,n,os,(oK id a0).map (Value.int .i64),rfl,uV _ sp hl,by simp [hl],fun E' β'=>aCb E' β' _ _⟩
theorem aAp {E:Env} {β:bB}:∀ {d1 d2:List D} {vs:List AF},RdL E β vs (d1++d2)→∃ v1 v2,vs=v1++v2∧RdL E β v1 d1∧RdL E β v2 d2
 | [],d2,vs,h=>⟨[],vs,rfl,.nil _,h⟩
 | d :: d1,d2,vs,h=>by
   cases h with
   | cons h1 h2 =>
     obtain ⟨v1,v2,rfl,h3,h4⟩:=aAp h2
     exact ⟨_::v1,v2,rfl,.cons h1 h3,h4⟩
theorem aCI {T:Type} {f:Enc T} {enc:T→List AF} (hrd:∀ E β x vs,RdL E β vs (f.d x).cells→vs=enc x) {E:Env} {β:bB}:∀ {l:List T} {vs:List AF},RdL E β vs (Ad (l.map f.d))→vs=l.flatMap enc
 | [],vs,h=>by cases h; rfl
 | x::l,vs,h=>by
   obtain ⟨v1,v2,rfl,h1,h2⟩:=aAp (show RdL E β vs ((f.d x).cells++Ad (l.map f.d)) from h)
   rw [hrd E β x v1 h1,aCI hrd h2]; rfl
theorem aCk {T:Type} {f:Enc T} {enc:T→List AF} (hrd':∀ E β x,RdL E β (enc x) (f.d x).cells) (E:Env) (β:bB):∀ l:List T,RdL E β (l.flatMap enc) (Ad (l.map f.d))
 | []=>.nil _
 | x::l=>(hrd' E β x).append (aCk hrd' E β l)
theorem aCj {α:Type} [Inhabited α] {enc:α→List AF} {k:Nat} (hk:∀ x,(enc x).length=k) (h0:0<k):∀ (l:List α) (t:Nat),t<l.length*k→(l.flatMap enc)[t]! = (enc l[t / k]!)[t % k]!
 | [],t,h=>by simp at h
 | x :: l,t,h=>by
   rw [CH]
   by_cases ht:t<k
   · rw [Nat.div_eq_of_lt ht,EF ht,getElem!_pos _ t (by rw [Be,hk]; omega),List.getElem_append_left (by rw [hk]; exact ht)]
     rw [show (x::l)[0]! = x from rfl,getElem!_pos (enc x) t (by rw [hk]; exact ht)]
   · have h2:t-k<l.length*k:=by rw [AV,Bp,CC] at h; omega
     have hfl:(l.flatMap enc).length=l.length*k:=by
      rw [Fh,AU (fun x _=>hk x),List.map_const',EH]
     have ih:=aCj hk h0 l (t-k) h2
     rw [getElem!_pos _ (t-k) (by rw [hfl]; exact h2)] at ih
     rw [getElem!_pos _ t (by rw [Be,hk,hfl]; omega),List.getElem_append_right (by rw [hk]; omega)]
     simp only [hk]
     have e1:t / k=(t-k) / k+1:=Nat.div_eq_sub_div h0 (CM ht)
     have e2:t % k=(t-k) % k:=Nat.mod_eq_sub_mod (CM ht)
     rw [ih,e1,e2]
     rfl
theorem zD {α:Type} [Inhabited α] {enc:α→List AF} {k:Nat} (hk:∀ x,(enc x).length=k) (h0:0<k) (l:List α):flatK enc k l.toArray=(l.flatMap enc).toArray:=by
 have hfl:(l.flatMap enc).length=l.length*k:=by
  rw [Fh,AU (fun x _=>hk x),List.map_const',EH]
 refine ext_get! (by simp [hfl]) fun t ht=>?_
 have ht:t<l.length*k:=by simpa using ht
 rw [get_flatK _ _ _ _ (by simpa using ht)]
 have:=aCj hk h0 l t ht
 have e1:(l.flatMap enc).toArray[t]! = (l.flatMap enc)[t]!:=by simp
 have e2:l.toArray[t / k]! = l[t / k]!:=by simp
 rw [e1,this,e2]
theorem aEq {P:Bc} {ρ:Shelf.Ren} (L:Proofs.SlLaysF0.n6 P ρ) {T:Type} [Inhabited T] (f:Enc T) (enc:T→List AF) (key:T→Int) (good:T→Bool) (hgd:good default=true)
 (aE:∀ w,(isAgg (ρ.t 24)).run P w = .ok true w) (zE:∀ w,(Go.sizeOf (ρ.t 24)).run P w = .ok f.sz w) (hk:∀ x,(enc x).length=f.sz) (h1:∀ x,∀ v∈enc x,v.oneCell'=true)
 (hrd:∀ E β x vs,RdL E β vs (f.d x).cells→vs=enc x) (hrd':∀ E β x,RdL E β (enc x) (f.d x).cells) {g:Nat} (eg:∀ args w,(callFunc g args).run P w = .ok (.enter g args) w)
 (hcmp:∀ (x y:T) (W:World),good x=true→good y=true→Calls P g #[.agg (enc x).toArray,.agg (enc y).toArray] W fun e w'=>e = .returned (.int .i64 (key x-key y))∧∃ q os',w'=grow (W.drewN q) os')
 {e:Au} (a0 r:List T) (h:aBW key good a0=some r) :
 FnH P (ρ.f 6) [.osl 1000 f.sz a0.length,.fn g []] [(1000,.blk e (Ad (a0.map f.d)))] (retD []) [(1000,.blk e (Ad (r.map f.d)))]:=by
 obtain ⟨hlen,hg,hnd,rfl⟩:=sortK_e h
 refine aEr [.func (.func g) #[] #[]] (fun E β xs h=>?_) (fun h0=>?_) (fun E β b cap vs sp hv _ hh=>?_)
 · cases h with
   | cons h2 h3 =>
     cases h3
     obtain ⟨us,rfl,h4⟩:=aC3 h2
     cases h4; rfl
 · obtain rfl:=Bf.1 h0
   refine ⟨rfl,fun p cap w=>(Proofs.AnyF.slices_SortFunc_none L p cap _ w).mono ?_⟩
   rintro e w' h
   exact ⟨h.1,by rw [h.2]; exact Below.refl _ _⟩
 · obtain rfl:=aCI hrd hv
   let α:={ x:T // good x=true }
   letI:Inhabited α:=⟨⟨default,hgd⟩⟩
   let enc':α→List AF:=fun x=>enc x.1
   let cf:α→α→Int:=fun x y=>key x.1-key y.1
   let l:List α:=a0.attachWith (fun x=>good x=true) hg
   have hk':∀ x:α,(enc' x).length=f.sz:=fun x=>hk x.1
   have hfm:∀ m:List α,m.flatMap enc'=(m.map (·.1)).flatMap enc:=fun m=>by rw [List.flatMap_map]
   have hval:l.map (·.1)=a0:=by
    show (a0.attachWith _ hg).map (fun i=>id i.1)=_
    rw [List.attachWith_map_val]; exact CZ _
   have hll:l.toArray.size=a0.length:=by
    rw [Ch,←hval,Aw]
   have hO:SWO (Proofs.ltOf cf):={
    irrefl:=fun x=>by show decide (key x.1-key x.1<0)=false; exact Aj (by omega)
    trans:=fun x y z h1 h2=>by
     have h1:=of_decide_eq_true (show decide (key x.1-key y.1<0)=true from h1)
     have h2:=of_decide_eq_true (show decide (key y.1-key z.1<0)=true from h2)
     show decide (key x.1-key z.1<0)=true
     exact Ai (by omega)
    ntrans:=fun x y z h1 h2=>by
     have h1:=of_decide_eq_false (show decide (key x.1-key y.1<0)=false from h1)
     have h2:=of_decide_eq_false (show decide (key y.1-key z.1<0)=false from h2)
     show decide (key x.1-key z.1<0)=false
     exact Aj (by omega) }
   have hH:HoldsK enc' f.sz E.w b 0 l.toArray:=by
    unfold HoldsK
    rw [zD hk' f.pos,hfm,hval]
    intro j hj
    have hj:j<(a0.flatMap enc).length:=by simpa using hj
    refine ⟨?_,by simp [World.frozen?,hh]⟩
    simp only [World.cell?,hh,Bh,Fx,CN,if_false,Cw]
    rw [AK hj]
    simp [AY hj]
   have hC:=Proofs.AnyQ.slices_SortFunc L f.sz aE zE enc' hk' (fun x=>h1 x.1) cf hO g #[] b 0 cap l.toArray E.w eg (fun m os dk _ x y=>hcmp x.1 y.1 _ x.2 y.2) hH (cV hh) (by rw [hll]; exact hlen)
   rw [hll] at hC
   refine hC.mono ?_
   rintro e' w' ⟨rfl,d',n,os,hp,hs,rfl⟩
   have hsz:d'.size=a0.length:=hp.1.trans hll
   have hperm:(d'.toList.map (·.1)).Perm a0:=by
    have:=hp.2.2
    rw [Ei (by rw [hsz]; exact AL _),Ei (by rw [hll]; exact AL _)] at this
    have:=this.map (·.1)
    rwa [show l.toArray.toList=l from rfl,hval] at this
   have hsort:(d'.toList.map (·.1)).Pairwise (fun a b=>key a≤key b):=by
    rw [Bo,CR]
    intro i j hi hj hij
    have hj':j<d'.size:=by simpa using hj
    have h9:=hs i j (CX _) hij (by rw [←hsz]; exact hj')
    have h9:=of_decide_eq_false (show decide (key (d'[j]!).1-key (d'[i]!).1<0)=false from h9)
    rw [getElem!_pos d' j hj',getElem!_pos d' i (by omega)] at h9
    show key (d'.toList[i]).1≤key (d'.toList[j]).1
    rw [EX,EX]
    omega
   have hr:oK key a0=d'.toList.map (·.1):=aA8 key hperm (vC hnd) hsort
   have hl:((oK key a0).flatMap enc).length=(a0.flatMap enc).length:=((nP key a0).flatMap_right enc).length_eq
   refine ⟨rfl,_,n,os,(oK key a0).flatMap enc,rfl,?_,hl,fun E' β'=>aCk hrd' E' β' _⟩
   have e1:flatK enc' f.sz d'=((oK key a0).flatMap enc).toArray:=by
    rw [hr,←hfm,←zD hk' f.pos]
   rw [e1]
   have:=uV id sp hl
   rw [CZ,CZ] at this
   exact this
end Go.IL
namespace Go.IL
open RowKit (Below)
section
variable {P:Bc} {O:bG} {N:Nat} {S S':St} {o:Oper} {t:Nat}
theorem SubL.app {a b a' b':List D} (h:SubL a a') (k:SubL b b'):SubL (a++b) (a'++b'):=by
 induction a generalizing a' with
 | nil=>cases h; exact k
 | cons d a ih=>cases h with | cons h1 h2=>exact .cons h1 (ih h2)
end
end Go.IL
open _root_.Array renaming toList_modify → Fi
open List renaming length → Ej,map_append → BR,map_nil → Ay,modify_succ_cons → EN
open Option renaming map_eq_some_iff → Cr
namespace Go.IL
open RowKit (Below)
open Go.MapKept
def mput {V:Type}:List (Int×V)→Int→V→List (Int×V)
 | [],k,v=>[(k,v)]
 | (j,w)::r,k,v=>if j=k then (k,v)::r else (j,w)::mput r k v
def mget {V:Type}:List (Int×V)→Int→Af V
 | [],_=>none
 | (j,w)::r,k=>if j=k then some w else mget r k
def mapD {V:Type} (f:V→D) (l:List (Int×V)):List (Int×D):=l.map fun x=>(x.1,f x.2)
theorem aGe {V:Type} (f:V→D) (k:Int) (v:V):∀ l:List (Int×V),mapD f (mput l k v)=mput (mapD f l) k (f v)
 | []=>rfl
 | (j,w)::r=>by
   unfold mput
   by_cases h:j=k
   · rw [Az h]; show _=mput ((j,f w)::mapD f r) k (f v); rw [mput,Az h]; rfl
   · rw [An h]; show _=mput ((j,f w)::mapD f r) k (f v); rw [mput,An h,←aGe f k v r]; rfl
theorem aA1 {V:Type} (f:V→D) (k:Int):∀ l:List (Int×V),mget (mapD f l) k=(mget l k).map f
 | []=>rfl
 | (j,w)::r=>by
   show mget ((j,f w)::mapD f r) k=_
   rw [mget,mget]
   by_cases h:j=k
   · rw [Az h,Az h]; rfl
   · rw [An h,An h,aA1 f k r]
def kI64 (n:Int):AF:=.int .i64 n
theorem zV (k j:Int):Instr.sameNow (.int .i64) (kI64 k) (kI64 j)=some (k == j):=by simp [Instr.sameNow,kI64]
theorem tR {E:Env} {β:bB} {k:Int} {v:AF} {d:D} (hv:Rd E β v d):∀ (es:List MapEntry) (l:List (Int×D)) (i:Nat),es.map (·.key)=l.map (fun x=>kI64 x.1)→RdL E β (es.map (·.val)) (l.map (·.2)) →
 (Instr.findNow (.int .i64) (kI64 k) es i=some none∧mget l k=none∧mput l k d=l++[(k,d)]) ∨
 ∃ j e x,Instr.findNow (.int .i64) (kI64 k) es i=some (some (i+j,e.val))∧es[j]? = some e∧e.key=kI64 k∧mget l k=some x∧Rd E β e.val x ∧
   (es.modify j fun e=>{ e with key:=kI64 k,val:=v }).map (·.key)=(mput l k d).map (fun x=>kI64 x.1)∧RdL E β ((es.modify j fun e=>{ e with key:=kI64 k,val:=v }).map (·.val)) ((mput l k d).map (·.2))
 | [],[],_,_,_=>.inl ⟨rfl,rfl,rfl⟩
 | [],_::_,_,h,_=>by cases h
 | _::_,[],_,h,_=>by cases h
 | e :: es,(j,x)::l,i,h,hr=>by
   simp only [Am,List.cons.injEq] at h
   obtain ⟨h1,h2⟩:=h
   simp only [Am] at hr
   cases hr with
   | cons hx hr =>
     by_cases hk:j=k
     · refine .inr ⟨0,e,x,?_,rfl,by rw [h1,hk],by rw [mget,Az hk],hx,?_,?_⟩
       · unfold Instr.findNow
         rw [h1,zV,hk]; simp
       · rw [mput,Az hk]
         simp [h2]
       · rw [mput,Az hk]
         simpa using RdL.cons hv hr
     · have hkb:(k == j)=false:=by simpa using fun e=>hk e.symm
       rcases tR hv es l (i+1) h2 hr with ⟨g1,g2,g3⟩ | ⟨m,e',x',g1,g2,g3,g4,g5,g6,g7⟩
       · refine .inl ⟨?_,by rw [mget,An hk,g2],by rw [mput,An hk,g3]; rfl⟩
         unfold Instr.findNow
         rw [h1,zV,hkb]; exact g1
       · refine .inr ⟨m+1,e',x',?_,by simpa using g2,g3,by rw [mget,An hk,g4],g5,?_,?_⟩
         · unfold Instr.findNow
           rw [h1,zV,hkb]
           show Instr.findNow _ _ es (i+1)=_
           rw [g1]; congr 3; omega
         · rw [mput,An hk]
           simp only [EN,Am,h1,g6]
         · rw [mput,An hk]
           simp only [EN,Am]
           exact .cons hx g7
section
variable {P:Bc} {O:bG} {N:Nat} {S S':St} {o:Oper} {t:Nat}
def Ent.mpD (l:List (Int×D)):Ent:=.mp (l.map (·.1)) (l.map (·.2))
theorem xK {T:Au} (id:Nat) (ho:o.op = .makeMap T none) (hd:o.dst=some t) (ht:t<N) (hf:S.ent id = .fresh):IOp P O N o S ((S.setE id (.mpD [])).set t (.mref id)):=by
 intro E β a hr next Q hn
 have hrun:(execOp a.eval o).run P E.w = .ok (.value (.map (some E.w.heap.size))) (E.w.alloc (.map #[] 0)):=by
  simp [execOp,ho,Instr.makeMap,Sem.run_bind,Sem.run_pure]
 unfold Oper.wp
 rw [hrun]
 simp only [Oper.upon,hd]
 have hfr:β id=none:=by have:=hr.h.ent id; rw [hf] at this; exact this
 let E':Env:=⟨E.w.alloc (.map #[] 0),fun b o=>b=E.w.heap.size∨E.X b o⟩
 let β':bB:=fun j=>if j=id then some E.w.heap.size else β j
 have hβ:β.le β':=fun j b hj=>by
  by_cases hji:j=id
  · subst hji; rw [hfr] at hj; cases hj
  · simp [β',hji,hj]
 have hs:Step O E E' E.w.heap.size :=
  ⟨rfl,rfl,rfl,by simp [E'],by simp [E'],.inl hr.h.size,fun k hk _=>heap_alloc_old _ _ hk,fun k o hk=>by simp [E',hk],fun _ h=>BN _ (cV h)⟩
 have hle:E.le E':=hs.le (fun o v h1 _=>by have:=World.block_lt_of_cell? _ _ h1; simp at this) (fun c e f h1=>by have:=cV h1; simp at this)
 refine hn E' β' _ ⟨by simp [Act.put,hr.n],hr.nd.step hs,?_,?_⟩
 · refine Dd hr.h hs hle hβ ?_ ?_ (id:=id) (by simp [β']) ?_ (fun _ _=>trivial)
   · intro j hj; left; constructor
     · simp [By,entL,Bn,Bl,aN,Ne.symm hj]
     · simp [β',hj]
   · intro j hj hheld hb
     have:(S.ent j).held=true:=by simpa [By,entL,Bn,Bl,aN,Ne.symm hj] using hheld
     exact BN _ (hr.h.lt this hb)
   · simp only [By,entL,Bn,Bl,aN,if_true]
     exact ⟨#[],0,heap_alloc_new _ _,fun o=>.inl rfl,rfl,.nil _⟩
 · intro s
   have hts:t<a.tmps.size:=hr.n ▸ ht
   by_cases hst:t=s
   · subst hst
     simp only [Act.put,BZ,Bl,aN,if_true,BF,BU,hts,CL]
     exact .mref _ _ _ (by simp [β'])
   · have:=Cs hle hβ (hr.sl s)
     simpa [Act.put,BZ,Bl,Bn,aN,hst,Bg] using this
theorem aFq {E:Env} {β:bB} {id b:Nat} {l:List (Int×D)} (h:mW O E β id (.mpD l)) (hb:β id=some b) :
 ∃ es cl,O.own b∧E.w.heap[b]? = some (.map es cl)∧(∀ o,E.X b o)∧es.toList.map (·.key)=l.map (fun x=>kI64 x.1)∧RdL E β (es.toList.map (·.val)) (l.map (·.2)):=by
 obtain ⟨b',es,cl,h1,h2,h3,h4,h5,h6⟩:=h
 rw [hb] at h1; cases h1
 exact ⟨es,cl,h2,h3,h4,by rw [h5,BG]; rfl,h6⟩
theorem aAA {E:Env} {β:bB} {v:AF} {id:Nat} (h:Rd E β v (.mref id)):∃ b,β id=some b∧v = .map (some b):=by
 cases h with | mref _ _ b h=>exact ⟨b,h,rfl⟩
theorem aBo {T kt et:Au} {x k v:Aq} {id:Nat} {l:List (Int×D)} {n:Int} {d:D} (ho:o.op = .mapUpdate T x k v) (hd:o.dst=none) (hu:P.underlying T=some (.map kt et)) (hk:P.underlying kt=some (.int .i64))
 (hx:SV S x (.mref id)) (he:S.ent id = .mpD l) (hn:SV S k (.int .i64 n)) (hv:SV S v d):IOp P O N o S (S.setE id (.mpD (mput l n d))):=by
 intro E β a hr next Q hn'
 obtain ⟨b,hb,hev⟩:=aAA (hx.rd hr)
 have hent:=hr.h.ent id
 rw [he] at hent
 obtain ⟨es,cl,hown,hh,hX,h1,h2⟩:=aFq hent hb
 have hkv:=iV (hn.rd hr)
 have hkey:IsKey (.int .i64) (.int .i64 n):=rfl
 obtain ⟨es',cl',hrun,h3,h4⟩:∃ es' cl',(execOp a.eval o).run P E.w = .ok .skip { E.w with heap:=E.w.heap.setIfInBounds b (.map es' cl') }∧es'.toList.map (·.key)=(mput l n d).map (fun x=>kI64 x.1)∧RdL E β (es'.toList.map (·.val)) ((mput l n d).map (·.2)):=by
  rcases tR (k:=n) (hv.rd hr) es.toList l 0 h1 h2 with ⟨g1,g2,g3⟩ | ⟨m,e',x',g1,g2,g3,g4,g5,g6,g7⟩
  · have g1':Instr.findNow (.int .i64) (.int .i64 n) es.toList 0=some none:=g1
    refine ⟨es.push { key:=kI64 n,val:=a.eval v,born:=cl },cl+1,?_,?_,?_⟩
    · simp [execOp,ho,hev,hkv,Instr.mapUpdate,run_underlying hu,Go.MapKept.run_getObj_map hh,Go.MapKept.run_checkKey hk hkey,Go.MapKept.run_findKey hk g1',Go.MapKept.run_setObj_map _ hh,Result.andThen,kI64]
    · rw [g3]; simp [h1]
    · rw [g3]
      simp only [Array.toList_push,BR,Am,Ay]
      exact h2.append (.cons (hv.rd hr) (.nil _))
  · have hj:es[m]? = some e':=by simpa using g2
    refine ⟨es.modify m fun e=>{ e with key:=kI64 n,val:=a.eval v },cl,?_,?_,?_⟩
    · have g1':Instr.findNow (.int .i64) (.int .i64 n) es.toList 0=some (some (m,e'.val)):=by rw [Bh] at g1; exact g1
      simp [execOp,ho,hev,hkv,Instr.mapUpdate,run_underlying hu,Go.MapKept.run_getObj_map hh,Go.MapKept.run_checkKey hk hkey,Go.MapKept.run_findKey hk g1',hj,g3,kI64,run_keyThatStays hkey,Go.MapKept.run_setObj_map _ hh,Result.andThen]
    · rw [Fi]; exact g6
    · rw [Fi]; exact g7
 unfold Oper.wp
 rw [hrun]
 simp only [Oper.upon,hd,Act.put]
 let E':Env:=⟨{ E.w with heap:=E.w.heap.setIfInBounds b (.map es' cl') },E.X⟩
 have hset:=heap_set (o':=.map es' cl') hh
 have hs:Step O E E' b:=⟨rfl,rfl,rfl,by simp [E'],by simpa [E'] using cV hh,hown,fun k _ hk=>hset.2 k hk,fun _ _ _=>Dw,fun _ h=>by rw [hh] at h; cases h⟩
 have hle:E.le E':=hs.le (fun o v _ h2=>AJ (hX o) h2) (fun c e' f h3=>by rw [hh] at h3; cases h3)
 refine hn' E' β a ⟨hr.n,hr.nd.step hs,?_,fun s=>Cs hle (bB.le.refl _) (hr.sl s)⟩
 refine Dd hr.h hs hle (bB.le.refl _) ?_ ?_ hb ?_ (fun _ _=>trivial)
 · intro j hj; left; exact ⟨by simp [By,entL,Bn,aN,Ne.symm hj],rfl⟩
 · intro j hj hheld hbj
   have:(S.ent j).held=true:=by simpa [By,entL,Bn,aN,Ne.symm hj] using hheld
   exact hj (hr.h.inj j id b this (by rw [he]; rfl) hbj hb)
 · simp only [By,entL,Bn,aN,if_true]
   exact ⟨es',cl',hset.1,hX,by rw [h3,BG]; rfl,AN hle (bB.le.refl _) h4⟩
theorem rV {V:Type} (f:V→D) {T kt et:Au} {x k v:Aq} {id:Nat} {l l':List (Int×V)} {n:Int} {a:V} (ho:o.op = .mapUpdate T x k v) (hd:o.dst=none) (hu:P.underlying T=some (.map kt et)) (hk:P.underlying kt=some (.int .i64))
 (hx:SV S x (.mref id)) (he:S.ent id = .mpD (mapD f l)) (hn:SV S k (.int .i64 n)) (hv:SV S v (f a)) (hl:mput l n a=l'):IOp P O N o S (S.setE id (.mpD (mapD f l'))):=by
 rw [←hl,aGe]
 exact aBo ho hd hu hk hx he hn hv
theorem uM {V:Type} (f:V→D) {T kt et:Au} {x k:Aq} {id:Nat} {l:List (Int×V)} {n:Int} {z:AF} {size bytes:Nat} {v0 r:V} (ho:o.op = .lookup T x k false) (hd:o.dst=some t) (ht:t<N) (hu:P.underlying T=some (.map kt et)) (hk:P.underlying kt=some (.int .i64)) (hz:TI P et (some z) size bytes)
 (hx:SV S x (.mref id)) (he:S.ent id = .mpD (mapD f l)) (hn:SV S k (.int .i64 n)) (h0:∀ E β,Rd E β z (f v0)) (hr:(mget l n).getD v0=r):IOp P O N o S (S.set t (f r)) :=
 gW hd ht fun E β a hrel=>by
  obtain ⟨b,hb,hev⟩:=aAA (hx.rd hrel)
  have hent:=hrel.h.ent id
  rw [he] at hent
  obtain ⟨es,cl,hown,hh,hX,h1,h2⟩:=aFq hent hb
  have hkv:=iV (hn.rd hrel)
  have hkey:IsKey (.int .i64) (.int .i64 n):=rfl
  obtain ⟨i,hi,hzi,_⟩:=hz.at
  rcases tR (k:=n) (v:=.bool true) (.bool β true) es.toList (mapD f l) 0 h1 h2 with ⟨g1,g2,g3⟩ | ⟨m,e',x',g1,g2,g3,g4,g5,_,_⟩
  · have g1':Instr.findNow (.int .i64) (.int .i64 n) es.toList 0=some none:=g1
    refine ⟨z,?_,?_⟩
    · simp [execOp,ho,hev,hkv,Instr.lookup,run_underlying hu,Go.MapKept.run_getObj_map hh,Go.MapKept.run_checkKey hk hkey,Go.MapKept.run_findKey hk g1',zeroValue,typeInfo,hi,hzi,Result.andThen]
    · rw [aA1] at g2
      have:mget l n=none:=by cases hm:mget l n with | none=>rfl | some _=>rw [hm] at g2; cases g2
      rw [←hr,this]; exact h0 E β
  · have g1':Instr.findNow (.int .i64) (.int .i64 n) es.toList 0=some (some (m,e'.val)):=by rw [Bh] at g1; exact g1
    refine ⟨e'.val,?_,?_⟩
    · simp [execOp,ho,hev,hkv,Instr.lookup,run_underlying hu,Go.MapKept.run_getObj_map hh,Go.MapKept.run_checkKey hk hkey,Go.MapKept.run_findKey hk g1',Result.andThen]
    · rw [aA1] at g4
      obtain ⟨y,hy,rfl⟩:=Cr.1 g4
      rw [←hr,hy]; exact g5
theorem aBp {V:Type} (f:V→D) {T kt et:Au} {x k:Aq} {id:Nat} {l:List (Int×V)} {n:Int} {z:AF} {size bytes:Nat} {v0 r:V} {is:Bool} (ho:o.op = .lookup T x k true) (hd:o.dst=some t) (ht:t<N) (hu:P.underlying T=some (.map kt et)) (hk:P.underlying kt=some (.int .i64)) (hz:TI P et (some z) size bytes)
 (hx:SV S x (.mref id)) (he:S.ent id = .mpD (mapD f l)) (hn:SV S k (.int .i64 n)) (h0:∀ E β,Rd E β z (f v0)) (hr:(mget l n).getD v0=r) (hs:(mget l n).isSome=is):IOp P O N o S (S.set t (.tuple [f r,.bool is])) :=
 gW hd ht fun E β a hrel=>by
  obtain ⟨b,hb,hev⟩:=aAA (hx.rd hrel)
  have hent:=hrel.h.ent id
  rw [he] at hent
  obtain ⟨es,cl,hown,hh,hX,h1,h2⟩:=aFq hent hb
  have hkv:=iV (hn.rd hrel)
  have hkey:IsKey (.int .i64) (.int .i64 n):=rfl
  obtain ⟨i,hi,hzi,_⟩:=hz.at
  rcases tR (k:=n) (v:=.bool true) (.bool β true) es.toList (mapD f l) 0 h1 h2 with ⟨g1,g2,g3⟩ | ⟨m,e',x',g1,g2,g3,g4,g5,_,_⟩
  · have g1':Instr.findNow (.int .i64) (.int .i64 n) es.toList 0=some none:=g1
    refine ⟨.tuple #[z,.bool false],?_,?_⟩
    · simp [execOp,ho,hev,hkv,Instr.lookup,run_underlying hu,Go.MapKept.run_getObj_map hh,Go.MapKept.run_checkKey hk hkey,Go.MapKept.run_findKey hk g1',zeroValue,typeInfo,hi,hzi,Result.andThen]
    · rw [aA1] at g2
      have:mget l n=none:=by cases hm:mget l n with | none=>rfl | some _=>rw [hm] at g2; cases g2
      rw [←hr,←hs,this]; exact .tuple _ _ _ (.cons (h0 E β) (.cons (.bool _ _) (.nil _)))
  · have g1':Instr.findNow (.int .i64) (.int .i64 n) es.toList 0=some (some (m,e'.val)):=by rw [Bh] at g1; exact g1
    refine ⟨.tuple #[e'.val,.bool true],?_,?_⟩
    · simp [execOp,ho,hev,hkv,Instr.lookup,run_underlying hu,Go.MapKept.run_getObj_map hh,Go.MapKept.run_checkKey hk hkey,Go.MapKept.run_findKey hk g1',Result.andThen]
    · rw [aA1] at g4
      obtain ⟨y,hy,rfl⟩:=Cr.1 g4
      rw [←hr,←hs,hy]; exact .tuple _ _ _ (.cons g5 (.cons (.bool _ _) (.nil _)))
theorem aDD {V:Type} (f:V→D) {T kt et:Au} {x:Aq} {id:Nat} {l:List (Int×V)} (ho:o.op = .call { callee:=.builtin .len,args:=#[x],argTypes:=#[T] }) (hd:o.dst=some t) (ht:t<N) (hu:P.underlying T=some (.map kt et))
 (hx:SV S x (.mref id)) (he:S.ent id = .mpD (mapD f l)):IOp P O N o S (S.set t (.int .i64 (l.length:Int))) :=
 gW hd ht fun E β a hrel=>by
  obtain ⟨b,hb,hev⟩:=aAA (hx.rd hrel)
  have hent:=hrel.h.ent id
  rw [he] at hent
  obtain ⟨es,cl,hown,hh,hX,h1,h2⟩:=aFq hent hb
  have hlen:es.size=l.length:=by have:=AH Ej h1; simpa [mapD] using this
  refine ⟨.int .i64 (l.length:Int),?_,.int _ _ _⟩
  simp [execOp,ho,resolve,hev,invoke,builtin,Builtin.len_,run_underlying hu,Go.MapKept.run_getObj_map hh,hlen,goInt,Result.andThen]
theorem nr_one {V:Type} (f:Enc V) (x:V):(f.d x).refsIn noRef=true:=by
 have h:=f.nr x
 generalize f.d x=d at h
 cases d <;> simp_all [D.cells,AD,BH]
theorem aAJ {V:Type} (f:Enc V) (l:List (Int×V)):AD noRef ((mapD f.d l).map (·.2))=true:=by
 induction l with
 | nil=>rfl
 | cons x l ih=>show (_&&_)=true; rw [nr_one f x.2]; exact ih
theorem xC {V:Type} (f:Enc V) (ρ:Nat→Nat) (l:List (Int×V)):(Ent.mpD (mapD f.d l)).ren ρ = .mpD (mapD f.d l):=by
 show Ent.mp _ (BA ρ _)=Ent.mp _ _
 rw [CQ _ (aAJ f l)]
theorem vK {V:Type} (f:Enc V) {ρ:Nat→Nat} {i:Nat} {l:List (Int×V)} (h:S.ent i = .mpD (mapD f.d l)):S.ent i=(Ent.mpD (mapD f.d l)).ren ρ:=by rw [h,xC]
theorem lS {V:Type} (f:Enc V) {p:Nat→Bool} {l:List (Int×V)}:(Ent.mpD (mapD f.d l)).refsIn p=true:=Cf _ (aAJ f l)
theorem EntW.mpL {V:Type} (f:Enc V) {ρ:Nat→Nat} {id:Nat} {l:List (Int×V)} (h:S.ent (ρ id) = .mpD (mapD f.d l)):EntW S S' ρ id (.mpD (mapD f.d l)) :=
 .mp h (CQ _ (aAJ f l)).symm (Cf _ (aAJ f l))
end
end Go.IL
open List renaming getElem?_cons_succ → CE
namespace Go.IL
section
variable {P:Bc} {O:bG} {N:Nat} {S S':St} {o:Oper} {t:Nat}
theorem zW {T T2 e e2 ty:Au} {args:Array AF} {w:World} (hu:P.underlying T=some (.slice e)) (hu2:P.underlying T2=some (.slice e2)) :
 (Builtin.append_ #[T,T2] ty args).run P w=(Builtin.append_ #[T,T] ty args).run P w:=by
 unfold Builtin.append_
 cases h0:args[0]? with
 | none=>rfl
 | some s =>
   cases h1:args[1]? with
   | none=>rfl
   | some x =>
     simp only [Ch,AV,Cd,Cw,CY,CE]
     simp only [Sem.run_bind,run_underlying hu,run_underlying hu2,Result.andThen_ok]
     cases s with
     | slice base a b =>
       simp only [Sem.run_bind,run_underlying hu,run_underlying hu2,Result.andThen_ok,Sem.run_pure]
     | _=>rfl
theorem aGf {T T2 e e2:Au} {x y:Aq} (ho:o.op = .call { callee:=.builtin .append,args:=#[x,y],argTypes:=#[T,T2] }) (hu:P.underlying T=some (.slice e)) (hu2:P.underlying T2=some (.slice e2))
 (h:∀ o':Oper,o'.op = .call { callee:=.builtin .append,args:=#[x,y],argTypes:=#[T,T] }→o'.dst=o.dst→IOp P O N o' S S'):IOp P O N o S S':=by
 intro E β a hr next Q hn
 have h1:=h { o with op:=.call { callee:=.builtin .append,args:=#[x,y],argTypes:=#[T,T] } } rfl rfl E β a hr next Q hn
 unfold Oper.wp at h1 ⊢
 have:(execOp a.eval o).run P E.w=(execOp a.eval { o with op:=.call { callee:=.builtin .append,args:=#[x,y],argTypes:=#[T,T] } }).run P E.w:=by
  simp [execOp,ho,resolve,invoke,builtin,zW hu hu2]
 rw [this]
 exact h1
end
end Go.IL
open Go Go.IL
namespace Go.Fn
structure aFM where
 Kind:Int
 ID:Int
 Dep:Int
 ae:Int
 Only:Bool
 deriving DecidableEq,Inhabited
structure aX where
 ID:Int
 aa:Int
 ae:Int
 ag:Bool
 deriving DecidableEq,Inhabited
def aO:Enc aX:=⟨⟨fun x=>.agg [.int .i64 x.ID,.int .i64 x.aa,.int .i64 x.ae,.bool x.ag],4,by decide,fun _=>⟨rfl,rfl⟩⟩,fun _=>rfl⟩

structure aBR where
 ao:Int
 am:Int
 ai:(List aX)
 ak:(List Int)
 deriving DecidableEq,Inhabited
variable [Fu]
def dW (a0:(List Int)) (a1:Int):Nat→Int→Af Int
 | 0,_=>none
 | n0 + 1,v7 =>
   bnd (decide (v7<(a0.length:Int))) fun x14 =>
   bif x14 then (
    bno (gix a0 v7) fun x16 =>
    bnd (decide (a1=x16)) fun x17 =>
    bif x17 then (
     some v7
    ) else (
      bnd (Ag .i64 (v7+1)) fun x19 =>
      (dW a0 a1 n0) x19
    )
   ) else (
     some (-1)
   )
def jA (a0:(List Int)) (a1:Int):Af Int :=
 dW a0 a1 fuel 0

def cS (a0:(List Int)) (a1:Int):Af Bool :=
 bno (jA a0 a1) fun x1 =>
 bnd (decide (0≤x1)) fun x2 =>
 some x2

end Go.Fn
open Go Go.IL
namespace Go.Fn
structure aCq where
 ao:Int
 am:Int
 L:(List aX)
 ag:(List Int)
 deriving DecidableEq,Inhabited
variable [Fu]
end Go.Fn
open Go Go.IL
namespace Go.Fn


variable [Fu]
end Go.Fn
open Go Go.IL
namespace Go.Fn



end Go.Fn
open Go Go.IL
namespace Go.Fn
structure aDa where
 Kind:Int
 ID:Int
 Dep:Int
 ae:Int
 Only:Bool
 deriving DecidableEq,Inhabited
structure aJ where
 ah:Bool
 al:Int
 aj:Int
 deriving DecidableEq,Inhabited
def aQ:Enc aJ:=⟨⟨fun x=>.agg [.bool x.ah,.int .i64 x.al,.int .i64 x.aj],3,by decide,fun _=>⟨rfl,rfl⟩⟩,fun _=>rfl⟩

structure bA where
 Cells:(List aJ)
 Free:Int
 Used:Int
 deriving DecidableEq,Inhabited
structure aI where
 id:Int
 up:Int
 first:Int
 next:Int
 weight:Int
 closed:Bool
 deriving DecidableEq,Inhabited
def aA:Enc aI:=⟨⟨fun x=>.agg [.int .i64 x.id,.int .i64 x.up,.int .i64 x.first,.int .i64 x.next,.int .i64 x.weight,.bool x.closed],6,by decide,fun _=>⟨rfl,rfl⟩⟩,fun _=>rfl⟩

structure iC where
 dep:Int
 weight:Int
 only:Bool
 deriving DecidableEq,Inhabited
variable [Fu]
def nB (a0:Int) (a1:Int) (a2:Int):Af Bool :=
 bnd (decide (a1≤a0)) fun x1 =>
 bnd (decide (a0≤a2)) fun x2 =>
 bnd (x1&&x2) fun x3 =>
 some x3

def tW  : Af bA :=
 some (⟨[],(-1),0⟩:bA)

def iF (a0:iC) (a1:Int) (v6:Bool):Af Int :=
 bif v6 then (
  some 8
 ) else (
   bnd (decide (a1=a0.dep)) fun x8 =>
   bif x8 then (
    some 4
   ) else (
     some 0
   )
 )
def lI (a0:iC) (a1:Int):Af Int :=
 bno (nB a1 1 1048576) fun x10 =>
 bif (!x10) then (
  iF a0 a1 (!x10)
 ) else (
   bno (nB a0.dep 0 1048576) fun x12 =>
   bif (!x12) then (
    iF a0 a1 (!x12)
   ) else (
     bno (nB a0.weight 1 256) fun x14 =>
     iF a0 a1 (!x14)
   )
 )

def iJ (a0:bA) (a1:Int):Af Bool :=
 bnd (decide ((-1)≤a1)) fun x1 =>
 bnd (decide (a1<(a0.Cells.length:Int))) fun x2 =>
 bnd (x1&&x2) fun x3 =>
 some x3

def kS (a0:bA) (a1:aJ):Af Bool :=
 bno (gd ((!a1.ah) == true) (iJ a0 a1.aj) default) fun x1 =>
 bnd ((!a1.ah)&&(!x1)) fun x2 =>
 some x2

def bN (a0:(List aJ)) (a1:bA):Nat→Int→Af Int
 | 0,_=>none
 | n0 + 1,v7 =>
   bnd (decide (v7<(a0.length:Int))) fun x14 =>
   bif x14 then (
    bno (gix a0 v7) fun x16 =>
    bno (kS a1 x16) fun x17 =>
    bif x17 then (
     some v7
    ) else (
      bnd (Ag .i64 (v7+1)) fun x19 =>
      (bN a0 a1 n0) x19
    )
   ) else (
     some (-1)
   )
def dZ (a0:(List aJ)) (a1:bA):Af Int :=
 bN a0 a1 fuel 0

def dQ (a0:(List aJ)) (a1:bA):Af Bool :=
 bno (dZ a0 a1) fun x1 =>
 bnd (decide (0≤x1)) fun x2 =>
 some x2

def rJ (a0:aJ):Af Bool :=
 bif a0.ah then (
  bnd (!decide (a0.aj=0)) fun x2 =>
  some x2
 ) else (
   bnd (!decide (a0.al=0)) fun x3 =>
   some x3
 )

def bQ (a0:(List aJ)):Nat→Int→Af Int
 | 0,_=>none
 | n0 + 1,v7 =>
   bnd (decide (v7<(a0.length:Int))) fun x14 =>
   bif x14 then (
    bno (gix a0 v7) fun x16 =>
    bno (rJ x16) fun x17 =>
    bif x17 then (
     some v7
    ) else (
      bnd (Ag .i64 (v7+1)) fun x19 =>
      (bQ a0 n0) x19
    )
   ) else (
     some (-1)
   )
def eJ (a0:(List aJ)):Af Int :=
 bQ a0 fuel 0

def eA (a0:(List aJ)):Af Bool :=
 bno (eJ a0) fun x1 =>
 bnd (decide (0≤x1)) fun x2 =>
 some x2

def fP (a0:bA):Nat→(List Int)→Int→Af ((List Int)×Bool)
 | 0,_,_=>none
 | n0 + 1,v9,v10 =>
   bnd (decide (v10=(-1))) fun x19 =>
   bif x19 then (
    some (v9,true)
   ) else (
     bno (gix a0.Cells v10) fun x21 =>
     bno (gd (x21.ah == false) (cS v9 v10) default) fun x22 =>
     bnd (x21.ah||x22) fun x23 =>
     bif x23 then (
      some (v9,false)
     ) else (
       bno (app 8 v9 ([v10]:(List Int))) fun x25 =>
       bno (gix a0.Cells v10) fun x26 =>
       (fP a0 n0) x25 x26.aj
     )
   )
def mD (a0:bA):Af ((List Int)×Bool) :=
 fP a0 fuel ([]:(List Int)) a0.Free

def iO (a0:bA):Nat→Int→Int→Af Int
 | 0,_,_=>none
 | n1 + 1,v17,v18 =>
   bnd (decide (v18<(a0.Cells.length:Int))) fun x26 =>
   bif x26 then (
    bno (gix a0.Cells v18) fun x28 =>
    bif x28.ah then (
     bnd (Ag .i64 (v17+1)) fun x30 =>
     bnd (Ag .i64 (v18+1)) fun x31 =>
     (iO a0 n1) x30 x31
    ) else (
      bnd (Ag .i64 (v18+1)) fun x32 =>
      (iO a0 n1) v17 x32
    )
   ) else (
     bno (mD a0) fun x33 =>
     bnd (!decide (v17=a0.Used)) fun x34 =>
     bnd ((!x33.2)||x34) fun x35 =>
     bnd (Ag .i64 (v17+(x33.1.length:Int))) fun x36 =>
     bnd (!decide (x36=(a0.Cells.length:Int))) fun x37 =>
     bnd (x35||x37) fun x38 =>
     bif x38 then (
      some 10
     ) else (
       some 0
     )
   )
def mI (a0:bA) (v6:Bool):Af Int :=
 bif v6 then (
  some 8
 ) else (
   bno (eA a0.Cells) fun x8 =>
   bif x8 then (
    some 4
   ) else (
     iO a0 fuel 0 0
   )
 )
def mR (a0:bA):Af Int :=
 bnd (decide (64<(a0.Cells.length:Int))) fun x1 =>
 bif x1 then (
  some 5
 ) else (
   bno (iJ a0 a0.Free) fun x40 =>
   bif (!x40) then (
    mI a0 (!x40)
   ) else (
     bno (dQ a0.Cells a0) fun x42 =>
     mI a0 x42
   )
 )

def jK (a0:bA):Nat→(List Int)→Int→Af (List Int)
 | 0,_,_=>none
 | n0 + 1,v11,v12 =>
   bnd (decide (v12<(a0.Cells.length:Int))) fun x20 =>
   bif x20 then (
    bno (gix a0.Cells v12) fun x22 =>
    bif x22.ah then (
     bno (app 8 v11 ([v12]:(List Int))) fun x24 =>
     bnd (Ag .i64 (v12+1)) fun x25 =>
     (jK a0 n0) x24 x25
    ) else (
      bnd (Ag .i64 (v12+1)) fun x26 =>
      (jK a0 n0) v11 x26
    )
   ) else (
     some v11
   )
def oU (a0:bA):Af (List Int) :=
 bno (mR a0) fun x1 =>
 bnd (!decide (x1=0)) fun x2 =>
 bif x2 then (
  some []
 ) else (
   jK a0 fuel ([]:(List Int)) 0
 )

def fL (a0:Int) (a6:(List aI)) (x1:(List Int)):Nat→Int→Af Int
 | 0,_=>none
 | n0 + 1,v11 =>
   bnd (decide (v11<(x1.length:Int))) fun x21 =>
   bif x21 then (
    bno (gix x1 v11) fun x23 =>
    bno (gix a6 x23) fun x24 =>
    chk (a6.length=64)<|bno (a6[(x23:Int).toNat]?) fun x26 =>
    bnd (decide (x26.id=a0)) fun x27 =>
    bif x27 then (
     some x23
    ) else (
      bnd (Ag .i64 (v11+1)) fun x29 =>
      (fL a0 a6 x1 n0) x29
    )
   ) else (
     some (-1)
   )
def eI (a0:Int) (a1:Int) (a2:Int) (a3:(List aJ)) (a4:Int) (a5:Int) (a6:(List aI)) (a7:Int) (a8:(List Int)):Af Int :=
 bno (oU (⟨a3,a4,a5⟩:bA)) fun x1 =>
 fL a0 a6 x1 fuel 0

def mK (a0:Int) (a1:Int) (a2:(List aJ)) (a3:Int) (a4:Int) (a5:(List aI)) (a6:Int) (a7:(List Int)):Af Int :=
 some a4

def eW (a0:Int) (a1:Int) (a2:Int) (a3:(List aJ)) (a4:Int) (a5:Int) (a6:(List aI)) (a7:Int) (a8:(List Int)):Nat→Nat→Af (Int×Int×(List aJ)×Int×Int×(List aI)×Int×(List Int))
 | 0,_=>none
 | n0+1,v14 =>
   bno (a6[v14]?) fun x20 =>
   bnd (!decide (x20.next=a0)) fun x21 =>
   bif x21 then (
    bno (a6[v14]?) fun x23 =>
    bno (gix a6 x23.next) fun x24 =>
    (eW a0 a1 a2 a3 a4 a5 a6 a7 a8 n0) ((x23.next:Int).toNat)
   ) else (
     bno (gix a6 a0) fun x25 =>
     bno (a6[(a0:Int).toNat]?) fun x26 =>
     bno (a6[v14]?) fun x27 =>
     bnd (a6.set v14 (⟨x27.id,x27.up,x27.first,x26.next,x27.weight,x27.closed⟩:aI)) fun x28 =>
     some (a1,a2,a3,a4,a5,x28,a7,a8)
   )
def eV (a0:Int) (a1:Int) (a2:Int) (a3:(List aJ)) (a4:Int) (a5:Int) (a6:(List aI)) (a7:Int) (a8:(List Int)):Nat→Nat→Af (Int×Int×(List aJ)×Int×Int×(List aI)×Int×(List Int))
 | 0,_=>none
 | n1+1,v42 =>
   bno (a6[v42]?) fun x48 =>
   bnd (!decide (x48.next=a0)) fun x49 =>
   bif x49 then (
    bno (a6[v42]?) fun x51 =>
    bno (gix a6 x51.next) fun x52 =>
    (eV a0 a1 a2 a3 a4 a5 a6 a7 a8 n1) ((x51.next:Int).toNat)
   ) else (
     bno (gix a6 a0) fun x53 =>
     bno (a6[(a0:Int).toNat]?) fun x54 =>
     bno (a6[v42]?) fun x55 =>
     bnd (a6.set v42 (⟨x55.id,x55.up,x55.first,x54.next,x55.weight,x55.closed⟩:aI)) fun x56 =>
     some (a1,a2,a3,a4,a5,x56,a7,a8)
   )
def gN (a0:Int) (a1:Int) (a2:Int) (a3:(List aJ)) (a4:Int) (a5:Int) (a6:(List aI)) (a7:Int) (a8:(List Int)):Af (Int×Int×(List aJ)×Int×Int×(List aI)×Int×(List Int)) :=
 bno (gix a6 a0) fun x1 =>
 chk (a6.length=64)<|bno (a6[(a0:Int).toNat]?) fun x3 =>
 bnd (decide (x3.up=(-1))) fun x4 =>
 bif x4 then (
  bnd (!decide (a7=a0)) fun x6 =>
  bif x6 then (
   bno (gix a6 a7) fun x8 =>
   eW a0 a1 a2 a3 a4 a5 a6 a7 a8 fuel ((a7:Int).toNat)
  ) else (
    bno (gix a6 a0) fun x29 =>
    bno (a6[(a0:Int).toNat]?) fun x30 =>
    some (a1,a2,a3,a4,a5,a6,x30.next,a8)
  )
 ) else (
   bno (gix a6 x3.up) fun x31 =>
   bno (a6[(x3.up:Int).toNat]?) fun x32 =>
   bnd (!decide (x32.first=a0)) fun x33 =>
   bif x33 then (
    bno (a6[(x3.up:Int).toNat]?) fun x35 =>
    bno (gix a6 x35.first) fun x36 =>
    eV a0 a1 a2 a3 a4 a5 a6 a7 a8 fuel ((x35.first:Int).toNat)
   ) else (
     bno (gix a6 a0) fun x57 =>
     bno (a6[(a0:Int).toNat]?) fun x58 =>
     bno (a6[(x3.up:Int).toNat]?) fun x59 =>
     bnd (a6.set ((x3.up:Int).toNat) (⟨x59.id,x59.up,x58.next,x59.next,x59.weight,x59.closed⟩:aI)) fun x60 =>
     some (a1,a2,a3,a4,a5,x60,a7,a8)
   )
 )

def gE (a0:Int) (a1:Int) (a2:Int) (a3:Int) (a4:(List aJ)) (a5:Int) (a6:Int) (a7:(List aI)) (a8:Int) (a9:(List Int)):Af (Int×Int×(List aJ)×Int×Int×(List aI)×Int×(List Int)) :=
 bnd (decide (a1=(-1))) fun x1 =>
 bif x1 then (
  chk (a7.length=64)<|bno (gix a7 a0) fun x4 =>
  bno (a7[(a0:Int).toNat]?) fun x5 =>
  bnd (a7.set ((a0:Int).toNat) (⟨x5.id,a1,x5.first,x5.next,x5.weight,x5.closed⟩:aI)) fun x6 =>
  bno (gix x6 a0) fun x7 =>
  bno (x6[(a0:Int).toNat]?) fun x8 =>
  bnd (x6.set ((a0:Int).toNat) (⟨x8.id,x8.up,x8.first,a8,x8.weight,x8.closed⟩:aI)) fun x9 =>
  some (a2,a3,a4,a5,a6,x9,a0,a9)
 ) else (
   bno (gix a7 a1) fun x10 =>
   chk (a7.length=64)<|bno (a7[(a1:Int).toNat]?) fun x12 =>
   bno (gix a7 a0) fun x13 =>
   bno (a7[(a0:Int).toNat]?) fun x14 =>
   bnd (a7.set ((a0:Int).toNat) (⟨x14.id,a1,x14.first,x14.next,x14.weight,x14.closed⟩:aI)) fun x15 =>
   bno (gix x15 a0) fun x16 =>
   bno (x15[(a0:Int).toNat]?) fun x17 =>
   bnd (x15.set ((a0:Int).toNat) (⟨x17.id,x17.up,x17.first,x12.first,x17.weight,x17.closed⟩:aI)) fun x18 =>
   bno (x18[(a1:Int).toNat]?) fun x19 =>
   bnd (x18.set ((a1:Int).toNat) (⟨x19.id,x19.up,a0,x19.next,x19.weight,x19.closed⟩:aI)) fun x20 =>
   some (a2,a3,a4,a5,a6,x20,a8,a9)
 )

def eQ (a0:Int) (a1:Int) (a2:Int) (a3:Int) (a4:(List aJ)) (a5:Int) (a6:Int) (a7:(List aI)) (a8:Int) (a9:(List Int)):Af (Int×Int×(List aJ)×Int×Int×(List aI)×Int×(List Int)) :=
 bno (gN a0 a2 a3 a4 a5 a6 a7 a8 a9) fun x1 =>
 bno (gE a0 a1 x1.1 x1.2.1 x1.2.2.1 x1.2.2.2.1 x1.2.2.2.2.1 x1.2.2.2.2.2.1 x1.2.2.2.2.2.2.1 x1.2.2.2.2.2.2.2) fun x2 =>
 some (x2.1,x2.2.1,x2.2.2.1,x2.2.2.2.1,x2.2.2.2.2.1,x2.2.2.2.2.2.1,x2.2.2.2.2.2.2.1,x2.2.2.2.2.2.2.2)

def eF (a0:(List aJ)):Af (List aJ) :=
 aAe a0 (
  some ([]:(List aJ))
 ) (
   bno (app 24 ([]:(List aJ)) a0) fun x3 =>
   some x3
 )

def jQ (a0:bA):Af ((List aJ)×Int×Int) :=
 bno (eF a0.Cells) fun x1 =>
 some (x1,a0.Free,a0.Used)

def lK (a0:bA) (a1:Int):Af Bool :=
 bnd (decide (0≤a1)) fun x1 =>
 bnd (decide (a1<(a0.Cells.length:Int))) fun x2 =>
 bnd (x1&&x2) fun x3 =>
 bno (gd (x3 == true) (gix a0.Cells a1) default) fun x4 =>
 bnd (x3&&x4.ah) fun x5 =>
 some x5

def nV (a0:bA) (a1:Int):Af (bA×Int) :=
 bno (jQ a0) fun x1 =>
 bno (mR a0) fun x2 =>
 bnd (!decide (x2=0)) fun x3 =>
 bif x3 then (
  some ((⟨x1.1,x1.2.1,x1.2.2⟩:bA),x2)
 ) else (
   bno (lK a0 a1) fun x5 =>
   bif (!x5) then (
    some ((⟨x1.1,x1.2.1,x1.2.2⟩:bA),6)
   ) else (
     bno (gix x1.1 a1) fun x7 =>
     bno (x1.1[(a1:Int).toNat]?) fun x8 =>
     bnd (x1.1.set ((a1:Int).toNat) (⟨false,0,x1.2.1⟩:aJ)) fun x9 =>
     bnd (Ag .i64 (x1.2.2-1)) fun x10 =>
     some ((⟨x9,a1,x10⟩:bA),0)
   )
 )

def lJ (a0:Int) (a1:Int):Af Bool :=
 bnd (decide (a0=a1)) fun x1 =>
 some x1

def dR (a0:(List Int)) (a1:Int):Nat→Int→Af Int
 | 0,_=>none
 | n0 + 1,v7 =>
   bnd (decide (v7<(a0.length:Int))) fun x14 =>
   bif x14 then (
    bno (gix a0 v7) fun x16 =>
    bno (lJ x16 a1) fun x17 =>
    bif x17 then (
     some v7
    ) else (
      bnd (Ag .i64 (v7+1)) fun x19 =>
      (dR a0 a1 n0) x19
    )
   ) else (
     some (-1)
   )
def iD (a0:(List Int)) (a1:Int):Af Int :=
 dR a0 a1 fuel 0

def cR (a1:Int):Nat→(List Int)→Int→Int→Af (List Int)
 | 0,_,_,_=>none
 | n0 + 1,v17,v18,v19 =>
   bnd (decide (v19<(v17.length:Int))) fun x32 =>
   bif x32 then (
    bno (gix v17 v19) fun x34 =>
    bno (v17[(v19:Int).toNat]?) fun x35 =>
    bno (lJ x35 a1) fun x36 =>
    bif (!x36) then (
     bno (gix v17 v18) fun x38 =>
     bno (v17[(v18:Int).toNat]?) fun x39 =>
     bnd (v17.set ((v18:Int).toNat) x35) fun x40 =>
     bnd (Ag .i64 (v18+1)) fun x41 =>
     bnd (Ag .i64 (v19+1)) fun x42 =>
     (cR a1 n0) x40 x41 x42
    ) else (
      bnd (Ag .i64 (v19+1)) fun x43 =>
      (cR a1 n0) v17 v18 x43
    )
   ) else (
     bno (cut v17 0 v18) fun x44 =>
     bno (cut x44 0 v18) fun x45 =>
     some x45
   )
def dS (a0:(List Int)) (a1:Int):Af (List Int) :=
 bno (iD a0 a1) fun x1 =>
 bnd (decide (x1=(-1))) fun x2 =>
 bif x2 then (
  some a0
 ) else (
   bnd (Ag .i64 (x1+1)) fun x4 =>
   cR a1 fuel a0 x1 x4
 )

def jS (a0:Int) (v53:Int) (v63:(List Int)):Nat→Int→Int→Int→(List aJ)→Int→Int→(List aI)→Int→(List Int)→Af (Int×Int×(List aJ)×Int×Int×(List aI)×Int×(List Int))
 | 0,_,_,_,_,_,_,_,_,_=>none
 | n4+1,v92,v93,v94,v95,v96,v97,v98,v99,v100 =>
   bnd (decide (v92<(v63.length:Int))) fun x120 =>
   bif x120 then (
    bno (gix v63 v92) fun x122 =>
    bno (v63[(v92:Int).toNat]?) fun x123 =>
    bno (gix v98 a0) fun x124 =>
    chk (v98.length=64)<|bno (v98[(a0:Int).toNat]?) fun x126 =>
    bno (gix v98 x123) fun x127 =>
    bno (v98[(x123:Int).toNat]?) fun x128 =>
    bnd (Ag .i64 (x126.weight*x128.weight)) fun x129 =>
    bno (quoI .i64 x129 v53) fun x130 =>
    bnd (max x130 1) fun x131 =>
    bno (gix v98 x123) fun x132 =>
    bno (v98[(x123:Int).toNat]?) fun x133 =>
    bnd (v98.set ((x123:Int).toNat) (⟨x133.id,x133.up,x133.first,x133.next,x131,x133.closed⟩:aI)) fun x134 =>
    bno (gix x134 a0) fun x135 =>
    bno (x134[(a0:Int).toNat]?) fun x136 =>
    bno (eQ x123 x136.up v93 v94 v95 v96 v97 x134 v99 v100) fun x137 =>
    bnd (Ag .i64 (v92+1)) fun x138 =>
    (jS a0 v53 v63 n4) x138 x137.1 x137.2.1 x137.2.2.1 x137.2.2.2.1 x137.2.2.2.2.1 x137.2.2.2.2.2.1 x137.2.2.2.2.2.2.1 x137.2.2.2.2.2.2.2
   ) else (
     bno (gN a0 v93 v94 v95 v96 v97 v98 v99 v100) fun x139 =>
     bno (nV (⟨x139.2.2.1,x139.2.2.2.1,x139.2.2.2.2.1⟩:bA) a0) fun x140 =>
     chk (x139.2.2.2.2.2.1.length=64)<|bno (dS x139.2.2.2.2.2.2.2 a0) fun x142 =>
     some (x139.1,x139.2.1,x140.1.Cells,x140.1.Free,x140.1.Used,x139.2.2.2.2.2.1,x139.2.2.2.2.2.2.1,x142)
   )
def jT (a0:Int) (a1:Int) (a2:Int) (a3:(List aJ)) (a4:Int) (a5:Int) (a6:(List aI)) (a7:Int) (a8:(List Int)) (v53:Int):Nat→Int→(List Int)→Af (Int×Int×(List aJ)×Int×Int×(List aI)×Int×(List Int))
 | 0,_,_=>none
 | n3+1,v62,v63 =>
   bnd (!decide (v62=(-1))) fun x69 =>
   bif x69 then (
    bno (gix a6 v62) fun x71 =>
    bno (a6[(v62:Int).toNat]?) fun x72 =>
    bno (app 8 v63 ([v62]:(List Int))) fun x73 =>
    (jT a0 a1 a2 a3 a4 a5 a6 a7 a8 v53 n3) x72.next x73
   ) else (
     jS a0 v53 v63 fuel 0 a1 a2 a3 a4 a5 a6 a7 a8
   )
def dK (a0:Int) (v53:Int) (v152:(List Int)):Nat→Int→Int→Int→(List aJ)→Int→Int→(List aI)→Int→(List Int)→Af (Int×Int×(List aJ)×Int×Int×(List aI)×Int×(List Int))
 | 0,_,_,_,_,_,_,_,_,_=>none
 | n6+1,v181,v182,v183,v184,v185,v186,v187,v188,v189 =>
   bnd (decide (v181<(v152.length:Int))) fun x209 =>
   bif x209 then (
    bno (gix v152 v181) fun x211 =>
    bno (v152[(v181:Int).toNat]?) fun x212 =>
    bno (gix v187 a0) fun x213 =>
    chk (v187.length=64)<|bno (v187[(a0:Int).toNat]?) fun x215 =>
    bno (gix v187 x212) fun x216 =>
    bno (v187[(x212:Int).toNat]?) fun x217 =>
    bnd (Ag .i64 (x215.weight*x217.weight)) fun x218 =>
    bno (quoI .i64 x218 v53) fun x219 =>
    bnd (max x219 1) fun x220 =>
    bno (gix v187 x212) fun x221 =>
    bno (v187[(x212:Int).toNat]?) fun x222 =>
    bnd (v187.set ((x212:Int).toNat) (⟨x222.id,x222.up,x222.first,x222.next,x220,x222.closed⟩:aI)) fun x223 =>
    bno (gix x223 a0) fun x224 =>
    bno (x223[(a0:Int).toNat]?) fun x225 =>
    bno (eQ x212 x225.up v182 v183 v184 v185 v186 x223 v188 v189) fun x226 =>
    bnd (Ag .i64 (v181+1)) fun x227 =>
    (dK a0 v53 v152 n6) x227 x226.1 x226.2.1 x226.2.2.1 x226.2.2.2.1 x226.2.2.2.2.1 x226.2.2.2.2.2.1 x226.2.2.2.2.2.2.1 x226.2.2.2.2.2.2.2
   ) else (
     bno (gN a0 v182 v183 v184 v185 v186 v187 v188 v189) fun x228 =>
     bno (nV (⟨x228.2.2.1,x228.2.2.2.1,x228.2.2.2.2.1⟩:bA) a0) fun x229 =>
     chk (x228.2.2.2.2.2.1.length=64)<|bno (dS x228.2.2.2.2.2.2.2 a0) fun x231 =>
     some (x228.1,x228.2.1,x229.1.Cells,x229.1.Free,x229.1.Used,x228.2.2.2.2.2.1,x228.2.2.2.2.2.2.1,x231)
   )
def fX (a0:Int) (a1:Int) (a2:Int) (a3:(List aJ)) (a4:Int) (a5:Int) (a6:(List aI)) (a7:Int) (a8:(List Int)) (v53:Int):Nat→Int→(List Int)→Af (Int×Int×(List aJ)×Int×Int×(List aI)×Int×(List Int))
 | 0,_,_=>none
 | n5+1,v151,v152 =>
   bnd (!decide (v151=(-1))) fun x158 =>
   bif x158 then (
    bno (gix a6 v151) fun x160 =>
    bno (a6[(v151:Int).toNat]?) fun x161 =>
    bno (app 8 v152 ([v151]:(List Int))) fun x162 =>
    (fX a0 a1 a2 a3 a4 a5 a6 a7 a8 v53 n5) x161.next x162
   ) else (
     dK a0 v53 v152 fuel 0 a1 a2 a3 a4 a5 a6 a7 a8
   )
def iG (a0:Int) (a1:Int) (a2:Int) (a3:(List aJ)) (a4:Int) (a5:Int) (a6:(List aI)) (a7:Int) (a8:(List Int)) (v53:Int):Af (Int×Int×(List aJ)×Int×Int×(List aI)×Int×(List Int)) :=
 bnd (decide (a0=(-1))) fun x54 =>
 bif x54 then (
  chk (a6.length=64)<|jT a0 a1 a2 a3 a4 a5 a6 a7 a8 v53 fuel a7 ([]:(List Int))
 ) else (
   bno (gix a6 a0) fun x143 =>
   chk (a6.length=64)<|bno (a6[(a0:Int).toNat]?) fun x145 =>
   fX a0 a1 a2 a3 a4 a5 a6 a7 a8 v53 fuel x145.first ([]:(List Int))
 )
def jR (a0:Int) (a1:Int) (a2:Int) (a3:(List aJ)) (a4:Int) (a5:Int) (a6:(List aI)) (a7:Int) (a8:(List Int)):Nat→Int→Int→Af (Int×Int×(List aJ)×Int×Int×(List aI)×Int×(List Int))
 | 0,_,_=>none
 | n7+1,v242,v243 =>
   bnd (!decide (v242=(-1))) fun x251 =>
   bif x251 then (
    bno (gix a6 v242) fun x253 =>
    bno (a6[(v242:Int).toNat]?) fun x254 =>
    bno (gix a6 v242) fun x255 =>
    bno (a6[(v242:Int).toNat]?) fun x256 =>
    bnd (Ag .i64 (v243+x256.weight)) fun x257 =>
    (jR a0 a1 a2 a3 a4 a5 a6 a7 a8 n7) x254.next x257
   ) else (
     iG a0 a1 a2 a3 a4 a5 a6 a7 a8 v243
   )
def fW (a0:Int) (a1:Int) (a2:Int) (a3:(List aJ)) (a4:Int) (a5:Int) (a6:(List aI)) (a7:Int) (a8:(List Int)):Nat→Int→Int→Af (Int×Int×(List aJ)×Int×Int×(List aI)×Int×(List Int))
 | 0,_,_=>none
 | n8+1,v268,v269 =>
   bnd (!decide (v268=(-1))) fun x277 =>
   bif x277 then (
    bno (gix a6 v268) fun x279 =>
    bno (a6[(v268:Int).toNat]?) fun x280 =>
    bno (gix a6 v268) fun x281 =>
    bno (a6[(v268:Int).toNat]?) fun x282 =>
    bnd (Ag .i64 (v269+x282.weight)) fun x283 =>
    (fW a0 a1 a2 a3 a4 a5 a6 a7 a8 n8) x280.next x283
   ) else (
     iG a0 a1 a2 a3 a4 a5 a6 a7 a8 v269
   )
def iB (a0:Int) (a1:Int) (a2:Int) (a3:(List aJ)) (a4:Int) (a5:Int) (a6:(List aI)) (a7:Int) (a8:(List Int)):Af (Int×Int×(List aJ)×Int×Int×(List aI)×Int×(List Int)) :=
 bnd (decide (a0=(-1))) fun x232 =>
 bif x232 then (
  chk (a6.length=64)<|jR a0 a1 a2 a3 a4 a5 a6 a7 a8 fuel a7 0
 ) else (
   bno (gix a6 a0) fun x258 =>
   chk (a6.length=64)<|bno (a6[(a0:Int).toNat]?) fun x260 =>
   fW a0 a1 a2 a3 a4 a5 a6 a7 a8 fuel x260.first 0
 )

def nU (a0:bA) (a1:Int):Af (bA×Int×Int) :=
 bno (jQ a0) fun x1 =>
 bno (mR a0) fun x2 =>
 bnd (!decide (x2=0)) fun x3 =>
 bif x3 then (
  some ((⟨x1.1,x1.2.1,x1.2.2⟩:bA),0,x2)
 ) else (
   bnd (decide (64≤a0.Used)) fun x5 =>
   bif x5 then (
    some ((⟨x1.1,x1.2.1,x1.2.2⟩:bA),0,7)
   ) else (
     bnd (Ag .i64 (x1.2.2+1)) fun x7 =>
     bnd (decide (x1.2.1=(-1))) fun x8 =>
     bif x8 then (
      bno (app 24 x1.1 (([(⟨true,a1,0⟩:aJ)]:(List aJ)))) fun x10 =>
      some (((⟨x10,x1.2.1,x7⟩:bA),(a0.Cells.length:Int),0))
     ) else (
       bno (gix x1.1 x1.2.1) fun x11 =>
       bno (x1.1[(x1.2.1:Int).toNat]?) fun x12 =>
       bno (gix x1.1 x1.2.1) fun x13 =>
       bno (x1.1[(x1.2.1:Int).toNat]?) fun x14 =>
       bnd (x1.1.set ((x1.2.1:Int).toNat) (⟨true,a1,0⟩:aJ)) fun x15 =>
       some ((⟨x15,x12.aj,x7⟩:bA),x1.2.1,0)
     )
   )
 )

def eR (a1:Int) (a7:(List aI)):Nat→Int→Af Bool
 | 0,_=>none
 | n0 + 1,v8 =>
   bnd (!decide (v8=(-1))) fun x16 =>
   bif x16 then (
    bno (gix a7 v8) fun x18 =>
    chk (a7.length=64)<|bno (a7[(v8:Int).toNat]?) fun x20 =>
    bnd (decide (x20.up=a1)) fun x21 =>
    bif x21 then (
     some true
    ) else (
      (eR a1 a7 n0) x20.up
    )
   ) else (
     some false
   )
def kQ (a0:Int) (a1:Int) (a2:Int) (a3:Int) (a4:(List aJ)) (a5:Int) (a6:Int) (a7:(List aI)) (a8:Int) (a9:(List Int)):Af Bool :=
 eR a1 a7 fuel a0

def eH (a0:Int) (v39:(List Int)):Nat→Int→Int→Int→(List aJ)→Int→Int→(List aI)→Int→(List Int)→Af (Int×Int×(List aJ)×Int×Int×(List aI)×Int×(List Int))
 | 0,_,_,_,_,_,_,_,_,_=>none
 | n3 + 1,v59,v60,v61,v62,v63,v64,v65,v66,v67 =>
   bnd (decide (v59<(v39.length:Int))) fun x77 =>
   bif x77 then (
    bno (gix v39 v59) fun x79 =>
    bno (v39[(v59:Int).toNat]?) fun x80 =>
    bnd (!decide (x80=a0)) fun x81 =>
    bif x81 then (
     bno (eQ x80 a0 v60 v61 v62 v63 v64 v65 v66 v67) fun x83 =>
     bnd (Ag .i64 (v59+1)) fun x84 =>
     (eH a0 v39 n3) x84 x83.1 x83.2.1 x83.2.2.1 x83.2.2.2.1 x83.2.2.2.2.1 x83.2.2.2.2.2.1 x83.2.2.2.2.2.2.1 x83.2.2.2.2.2.2.2
    ) else (
      bnd (Ag .i64 (v59+1)) fun x85 =>
      (eH a0 v39 n3) x85 v60 v61 v62 v63 v64 v65 v66 v67
    )
   ) else (
     some (v60,v61,v62,v63,v64,v65,v66,v67)
   )
def fF (a0:Int) (x25:(Int×Int×(List aJ)×Int×Int×(List aI)×Int×(List Int))) (x29:(List aI)):Nat→Int→(List Int)→Af (Int×Int×(List aJ)×Int×Int×(List aI)×Int×(List Int))
 | 0,_,_=>none
 | n2+1,v38,v39 =>
   bnd (!decide (v38=(-1))) fun x45 =>
   bif x45 then (
    bno (gix x29 v38) fun x47 =>
    bno (x29[(v38:Int).toNat]?) fun x48 =>
    bno (app 8 v39 ([v38]:(List Int))) fun x49 =>
    (fF a0 x25 x29 n2) x48.next x49
   ) else (
     eH a0 v39 fuel 0 x25.1 x25.2.1 x25.2.2.1 x25.2.2.2.1 x25.2.2.2.2.1 x29 x25.2.2.2.2.2.2.1 x25.2.2.2.2.2.2.2
   )
def eG (a0:Int) (v94:(List Int)):Nat→Int→Int→Int→(List aJ)→Int→Int→(List aI)→Int→(List Int)→Af (Int×Int×(List aJ)×Int×Int×(List aI)×Int×(List Int))
 | 0,_,_,_,_,_,_,_,_,_=>none
 | n5 + 1,v114,v115,v116,v117,v118,v119,v120,v121,v122 =>
   bnd (decide (v114<(v94.length:Int))) fun x132 =>
   bif x132 then (
    bno (gix v94 v114) fun x134 =>
    bno (v94[(v114:Int).toNat]?) fun x135 =>
    bnd (!decide (x135=a0)) fun x136 =>
    bif x136 then (
     bno (eQ x135 a0 v115 v116 v117 v118 v119 v120 v121 v122) fun x138 =>
     bnd (Ag .i64 (v114+1)) fun x139 =>
     (eG a0 v94 n5) x139 x138.1 x138.2.1 x138.2.2.1 x138.2.2.2.1 x138.2.2.2.2.1 x138.2.2.2.2.2.1 x138.2.2.2.2.2.2.1 x138.2.2.2.2.2.2.2
    ) else (
      bnd (Ag .i64 (v114+1)) fun x140 =>
      (eG a0 v94 n5) x140 v115 v116 v117 v118 v119 v120 v121 v122
    )
   ) else (
     some (v115,v116,v117,v118,v119,v120,v121,v122)
   )
def fE (a0:Int) (x25:(Int×Int×(List aJ)×Int×Int×(List aI)×Int×(List Int))) (x29:(List aI)):Nat→Int→(List Int)→Af (Int×Int×(List aJ)×Int×Int×(List aI)×Int×(List Int))
 | 0,_,_=>none
 | n4+1,v93,v94 =>
   bnd (!decide (v93=(-1))) fun x100 =>
   bif x100 then (
    bno (gix x29 v93) fun x102 =>
    bno (x29[(v93:Int).toNat]?) fun x103 =>
    bno (app 8 v94 ([v93]:(List Int))) fun x104 =>
    (fE a0 x25 x29 n4) x103.next x104
   ) else (
     eG a0 v94 fuel 0 x25.1 x25.2.1 x25.2.2.1 x25.2.2.2.1 x25.2.2.2.2.1 x29 x25.2.2.2.2.2.2.1 x25.2.2.2.2.2.2.2
   )
def gQ (a0:Int) (x1:Int) (v7:Int) (v8:Bool) (v17:Int) (v18:Int) (v19:(List aJ)) (v20:Int) (v21:Int) (v22:(List aI)) (v23:Int) (v24:(List Int)):Af (Int×Int×(List aJ)×Int×Int×(List aI)×Int×(List Int)) :=
 bno (eQ a0 x1 v17 v18 v19 v20 v21 v22 v23 v24) fun x25 =>
 bno (gix x25.2.2.2.2.2.1 a0) fun x26 =>
 chk (x25.2.2.2.2.2.1.length=64)<|bno (x25.2.2.2.2.2.1[(a0:Int).toNat]?) fun x28 =>
 bnd (x25.2.2.2.2.2.1.set ((a0:Int).toNat) (⟨x28.id,x28.up,x28.first,x28.next,v7,x28.closed⟩:aI)) fun x29 =>
 bif (!v8) then (
  some (x25.1,x25.2.1,x25.2.2.1,x25.2.2.2.1,x25.2.2.2.2.1,x29,x25.2.2.2.2.2.2.1,x25.2.2.2.2.2.2.2)
 ) else (
   bnd (decide (x1=(-1))) fun x31 =>
   bif x31 then (
    fF a0 x25 x29 fuel x25.2.2.2.2.2.2.1 ([]:(List Int))
   ) else (
     bno (gix x29 x1) fun x86 =>
     bno (x29[(x1:Int).toNat]?) fun x87 =>
     fE a0 x25 x29 fuel x87.first ([]:(List Int))
   )
 )
def gR (a0:Int) (a2:Int) (a3:Int) (a4:(List aJ)) (a5:Int) (a6:Int) (a7:(List aI)) (a8:Int) (a9:(List Int)) (x1:Int) (v6:Int) (v7:Int) (v8:Bool):Af (Int×Int×(List aJ)×Int×Int×(List aI)×Int×(List Int)) :=
 bnd (!decide (x1=(-1))) fun x141 =>
 bno (gd (x141 == true) (kQ x1 a0 a2 a3 a4 a5 a6 a7 a8 a9) default) fun x142 =>
 bnd (x141&&x142) fun x143 =>
 bif x143 then (
  bno (gix a7 a0) fun x145 =>
  chk (a7.length=64)<|bno (a7[(a0:Int).toNat]?) fun x147 =>
  bno (eQ x1 x147.up a2 a3 a4 a5 a6 a7 a8 a9) fun x148 =>
  gQ a0 x1 v7 v8 x148.1 x148.2.1 x148.2.2.1 x148.2.2.2.1 x148.2.2.2.2.1 x148.2.2.2.2.2.1 x148.2.2.2.2.2.2.1 x148.2.2.2.2.2.2.2
 ) else (
   gQ a0 x1 v7 v8 a2 a3 a4 a5 a6 a7 a8 a9
 )
def iW (a0:Int) (a1:iC) (a2:Int) (a3:Int) (a4:(List aJ)) (a5:Int) (a6:Int) (a7:(List aI)) (a8:Int) (a9:(List Int)):Af (Int×Int×(List aJ)×Int×Int×(List aI)×Int×(List Int)) :=
 bno (eI a1.dep a2 a3 a4 a5 a6 a7 a8 a9) fun x1 =>
 bnd (decide (x1=(-1))) fun x149 =>
 bnd (!decide (a1.dep=0)) fun x150 =>
 bnd (x149&&x150) fun x151 =>
 bif x151 then (
  gR a0 a2 a3 a4 a5 a6 a7 a8 a9 x1 0 16 false
 ) else (
   gR a0 a2 a3 a4 a5 a6 a7 a8 a9 x1 a1.dep a1.weight a1.only
 )

def fQ (a0:Int) (a1:iC) (v10:Int) (v11:Int) (v12:(List aJ)) (v13:Int) (v14:Int) (v15:(List aI)) (v16:Int) (v17:(List Int)):Af (Int×Int×Int×(List aJ)×Int×Int×(List aI)×Int×(List Int)) :=
 bno (nU (⟨v12,v13,v14⟩:bA) a0) fun x18 =>
 bnd (!decide (x18.2.2=0)) fun x19 =>
 bif x19 then (
  some (x18.2.2,v10,v11,v12,v13,v14,v15,v16,v17)
 ) else (
   bno (gix v15 x18.2.1) fun x21 =>
   chk (v15.length=64)<|bno (v15[(x18.2.1:Int).toNat]?) fun x23 =>
   bnd (v15.set ((x18.2.1:Int).toNat) (⟨a0,0,(-1),(-1),16,false⟩:aI)) fun x24 =>
   bno (gE x18.2.1 (-1) v10 v11 x18.1.Cells x18.1.Free x18.1.Used x24 v16 v17) fun x25 =>
   bno (iW x18.2.1 a1 x25.1 x25.2.1 x25.2.2.1 x25.2.2.2.1 x25.2.2.2.2.1 x25.2.2.2.2.2.1 x25.2.2.2.2.2.2.1 x25.2.2.2.2.2.2.2) fun x26 =>
   some (0,x26.1,x26.2.1,x26.2.2.1,x26.2.2.2.1,x26.2.2.2.2.1,x26.2.2.2.2.2.1,x26.2.2.2.2.2.2.1,x26.2.2.2.2.2.2.2)
 )
def jU (a0:Int) (a1:iC) (a2:Int) (a3:Int) (a4:(List aJ)) (a5:Int) (a6:Int) (a7:(List aI)) (a8:Int) (a9:(List Int)):Af (Int×Int×Int×(List aJ)×Int×Int×(List aI)×Int×(List Int)) :=
 bno (mK a2 a3 a4 a5 a6 a7 a8 a9) fun x27 =>
 bnd (decide (a2≤x27)) fun x28 =>
 bif x28 then (
  chk (a7.length=64)<|bnd (decide ((a9.length:Int)=0)) fun x31 =>
  bif x31 then (
   some (7,a2,a3,a4,a5,a6,a7,a8,a9)
  ) else (
    bno (gix a9 0) fun x33 =>
    bno (a9[(0:Int).toNat]?) fun x34 =>
    bno (iB x34 a2 a3 a4 a5 a6 a7 a8 a9) fun x35 =>
    fQ a0 a1 x35.1 x35.2.1 x35.2.2.1 x35.2.2.2.1 x35.2.2.2.2.1 x35.2.2.2.2.2.1 x35.2.2.2.2.2.2.1 x35.2.2.2.2.2.2.2
  )
 ) else (
   fQ a0 a1 a2 a3 a4 a5 a6 a7 a8 a9
 )

def fI (a0:Int) (a1:Int) (a2:Int) (a3:Bool) (a4:Int) (a5:Int) (a6:(List aJ)) (a7:Int) (a8:Int) (a9:(List aI)) (a10:Int) (a11:(List Int)):Af (Int×Int×Int×(List aJ)×Int×Int×(List aI)×Int×(List Int)) :=
 bno (lI (⟨a1,a2,a3⟩:iC) a0) fun x1 =>
 bnd (!decide (x1=0)) fun x2 =>
 bif x2 then (
  some (x1,a4,a5,a6,a7,a8,a9,a10,a11)
 ) else (
   bno (eI a0 a4 a5 a6 a7 a8 a9 a10 a11) fun x4 =>
   bnd (!decide (x4=(-1))) fun x5 =>
   bif x5 then (
    some (13,a4,a5,a6,a7,a8,a9,a10,a11)
   ) else (
     bno (jU a0 (⟨a1,a2,a3⟩:iC) a4 a5 a6 a7 a8 a9 a10 a11) fun x7 =>
     some (x7.1,x7.2.1,x7.2.2.1,x7.2.2.2.1,x7.2.2.2.2.1,x7.2.2.2.2.2.1,x7.2.2.2.2.2.2.1,x7.2.2.2.2.2.2.2.1,x7.2.2.2.2.2.2.2.2)
   )
 )

def fJ (a0:Int) (a1:Int) (a2:Int) (a3:(List aJ)) (a4:Int) (a5:Int) (a6:(List aI)) (a7:Int) (a8:(List Int)):Af Int :=
 bnd (decide (a0=(-1))) fun x1 =>
 bif x1 then (
  some 0
 ) else (
   bno (gix a6 a0) fun x3 =>
   chk (a6.length=64)<|bno (a6[(a0:Int).toNat]?) fun x5 =>
   some x5.id
 )

def dV (a0:(List aX)):Af (List aX):=aBW (fun x=>x.ID) (fun x=>decide (0≤x.ID)&&decide (x.ID≤1048576)) a0

def fG (a0:Int) (a1:Int) (a2:(List aJ)) (a3:Int) (a4:Int) (a5:(List aI)) (a6:Int) (a7:(List Int)) (x1:(List Int)):Nat→(List aX)→Int→Af (List aX)
 | 0,_,_=>none
 | n0+1,v11,v12 =>
   bnd (decide (v12<(x1.length:Int))) fun x22 =>
   bif x22 then (
    bno (gix x1 v12) fun x24 =>
    bno (gix a5 x24) fun x25 =>
    chk (a5.length=64)<|bno (a5[(x24:Int).toNat]?) fun x27 =>
    bno (fJ x27.up a0 a1 a2 a3 a4 a5 a6 a7) fun x28 =>
    bno (app 32 v11 (([(⟨x27.id,x28,x27.weight,x27.closed⟩:aX)]:(List aX)))) fun x29 =>
    bnd (Ag .i64 (v12+1)) fun x30 =>
    (fG a0 a1 a2 a3 a4 a5 a6 a7 x1 n0) x29 x30
   ) else (
     bno (dV v11) fun x31 =>
     chk (x31.length=v11.length)<|some x31
   )
def iX (a0:Int) (a1:Int) (a2:(List aJ)) (a3:Int) (a4:Int) (a5:(List aI)) (a6:Int) (a7:(List Int)):Af (List aX) :=
 bno (oU (⟨a2,a3,a4⟩:bA)) fun x1 =>
 fG a0 a1 a2 a3 a4 a5 a6 a7 x1 fuel ([]:(List aX)) 0

def eO (a1:Int) (a2:Int) (a3:(List aJ)) (a4:Int) (a5:Int) (a6:(List aI)) (a7:Int) (a8:(List Int)):Nat→(List Int)→Int→Af (List Int)
 | 0,_,_=>none
 | n0+1,v14,v15 =>
   bnd (!decide (v15=(-1))) fun x28 =>
   bno (gd (x28 == true) (gix a6 v15) default) fun x29 =>
   chk ((x28 == true)=true→a6.length=64)<|bno (gd (x28 == true) (a6[(v15:Int).toNat]?) default) fun x31 =>
   bnd (!decide (x31.up=(-1))) fun x32 =>
   bnd (x28&&x32) fun x33 =>
   bif x33 then (
    bno (gix a6 v15) fun x35 =>
    chk (a6.length=64)<|bno (a6[(v15:Int).toNat]?) fun x37 =>
    bno (fJ x37.up a1 a2 a3 a4 a5 a6 a7 a8) fun x38 =>
    bno (app 8 v14 ([x38]:(List Int))) fun x39 =>
    (eO a1 a2 a3 a4 a5 a6 a7 a8 n0) x39 x37.up
   ) else (
     some v14
   )
def jN (a0:Int) (a1:Int) (a2:Int) (a3:(List aJ)) (a4:Int) (a5:Int) (a6:(List aI)) (a7:Int) (a8:(List Int)):Af (List Int) :=
 bno (eI a0 a1 a2 a3 a4 a5 a6 a7 a8) fun x1 =>
 eO a1 a2 a3 a4 a5 a6 a7 a8 fuel ([]:(List Int)) x1

def lD (a0:(List Int)):Af (List Int):=aBY a0

def fO (v52:(List Int)):Af (List Int) :=
 bno (lD v52) fun x53 =>
 chk (x53.length=v52.length)<|some x53
def fN (a1:Int) (a2:Int) (a3:(List aJ)) (a4:Int) (a5:Int) (a6:(List aI)) (a7:Int) (a8:(List Int)):Nat→Int→(List Int)→Af (List Int)
 | 0,_,_=>none
 | n3+1,v64,v65 =>
   bnd (!decide (v64=(-1))) fun x72 =>
   bif x72 then (
    bno (gix a6 v64) fun x74 =>
    bno (a6[(v64:Int).toNat]?) fun x75 =>
    bno (fJ v64 a1 a2 a3 a4 a5 a6 a7 a8) fun x76 =>
    bno (app 8 v65 ([x76]:(List Int))) fun x77 =>
    (fN a1 a2 a3 a4 a5 a6 a7 a8 n3) x75.next x77
   ) else (
     fO v65
   )
def fM (a1:Int) (a2:Int) (a3:(List aJ)) (a4:Int) (a5:Int) (a6:(List aI)) (a7:Int) (a8:(List Int)):Nat→Int→(List Int)→Af (List Int)
 | 0,_,_=>none
 | n4+1,v87,v88 =>
   bnd (!decide (v87=(-1))) fun x95 =>
   bif x95 then (
    bno (gix a6 v87) fun x97 =>
    bno (a6[(v87:Int).toNat]?) fun x98 =>
    bno (fJ v87 a1 a2 a3 a4 a5 a6 a7 a8) fun x99 =>
    bno (app 8 v88 ([x99]:(List Int))) fun x100 =>
    (fM a1 a2 a3 a4 a5 a6 a7 a8 n4) x98.next x100
   ) else (
     fO v88
   )
def iH (a0:Int) (a1:Int) (a2:Int) (a3:(List aJ)) (a4:Int) (a5:Int) (a6:(List aI)) (a7:Int) (a8:(List Int)):Af (List Int) :=
 bno (eI a0 a1 a2 a3 a4 a5 a6 a7 a8) fun x1 =>
 bnd (decide (x1=(-1))) fun x2 =>
 bnd (!decide (a0=0)) fun x3 =>
 bnd (x2&&x3) fun x4 =>
 bif x4 then (
  some ([]:(List Int))
 ) else (
   bnd (decide (x1=(-1))) fun x55 =>
   bif x55 then (
    chk (a6.length=64)<|fN a1 a2 a3 a4 a5 a6 a7 a8 fuel a7 ([]:(List Int))
   ) else (
     bno (gix a6 x1) fun x78 =>
     chk (a6.length=64)<|bno (a6[(x1:Int).toNat]?) fun x80 =>
     fM a1 a2 a3 a4 a5 a6 a7 a8 fuel x80.first ([]:(List Int))
   )
 )

end Go.Fn
open Go Go.IL
namespace Go.Fn
structure T_anon22 where
 c0:Int
 c1:Int
 deriving DecidableEq,Inhabited
variable [Fu]
end Go.Fn
open _root_ renaming UInt8 → Ct
open Go Go.IL
namespace Go.Fn
structure aM where
 ID:Int
 ae:Int
 af:Int
 deriving DecidableEq,Inhabited
def aH:Enc aM:=⟨⟨fun x=>.agg [.int .i64 x.ID,.int .i64 x.ae,.int .i64 x.af],3,by decide,fun _=>⟨rfl,rfl⟩⟩,fun _=>rfl⟩

structure T_anons24 where
 c0:Int
 c1:Int
 c2:Int
 deriving DecidableEq,Inhabited
structure pH where
 c0:Int
 c1:Int
 deriving DecidableEq,Inhabited
structure aG where
 aa:Int
 ab:(List aM)
 deriving DecidableEq,Inhabited
def aC:Enc aG:=⟨⟨fun x=>.agg [.int .i64 x.aa,.slice false (x.ab.map aH.d)],2,by decide,fun _=>⟨rfl,rfl⟩⟩,fun _=>rfl⟩


def lE (a0:Int) (a1:Int) (a2:Int):Af Bool :=
 bnd (decide (a1≤a0)) fun x1 =>
 bnd (decide (a0≤a2)) fun x2 =>
 bnd (x1&&x2) fun x3 =>
 some x3

def kL (a0:aM) (a1:aM) (a2:pH) (a3:Int):Af Bool :=
 bno (lE a0.ae 1 256) fun x1 =>
 bno (gd (x1 == true) (lE a1.ae 1 256) default) fun x2 =>
 bnd (x1&&x2) fun x3 =>
 bno (lE a0.af 0 1099511627776) fun x4 =>
 bno (gd (x4 == true) (lE a1.af 0 1099511627776) default) fun x5 =>
 bnd (x4&&x5) fun x6 =>
 bno (gd (x6 == true) (lE a3 0 1099511627776) default) fun x7 =>
 bnd (x6&&x7) fun x8 =>
 bnd ((!x3)||(!x8)) fun x9 =>
 bno (gd (x9 == false) (lE a2.c0 0 a0.af) default) fun x10 =>
 bnd (x9||(!x10)) fun x11 =>
 bno (gd (x11 == false) (lE a2.c1 0 a1.af) default) fun x12 =>
 bnd (x11||(!x12)) fun x13 =>
 bif x13 then (
  some false
 ) else (
   bnd (Ag .i64 (a0.af-a2.c0)) fun x15 =>
   bnd (Ag .i64 (x15*a1.ae)) fun x16 =>
   bnd (Ag .i64 (a1.af-a2.c1)) fun x17 =>
   bnd (Ag .i64 (x17*a0.ae)) fun x18 =>
   bnd (Ag .i64 (x16-x18)) fun x19 =>
   bnd (Ag .i64 (0-x19)) fun x20 =>
   bnd (max x19 x20) fun x21 =>
   bnd (Ag .i64 (a0.ae+a1.ae)) fun x22 =>
   bnd (Ag .i64 (a3*x22)) fun x23 =>
   bnd (decide (x21≤x23)) fun x24 =>
   some x24
 )

def eB (a0:(List aM)):Af (List aM) :=
 aAe a0 (
  some []
 ) (
   bno (app 24 ([]:(List aM)) a0) fun x3 =>
   some x3
 )

def gI (a0:(List aG)):Nat→(List aG)→Int→Af (List aG)
 | 0,_,_=>none
 | n0+1,v7,v8 =>
   bnd (decide (v8<(a0.length:Int))) fun x15 =>
   bif x15 then (
    bno (gix a0 v8) fun x17 =>
    bno (eB x17.ab) fun x18 =>
    bno (app 32 v7 (([(⟨x17.aa,x18⟩:aG)]:(List aG)))) fun x19 =>
    bnd (Ag .i64 (v8+1)) fun x20 =>
    (gI a0 n0) x19 x20
   ) else (
     some v7
   )
def kY (a0:(List aG)):Af (List aG) :=
 gI a0 fuel ([]:(List aG)) 0

def oM (a0:aG):Af Bool :=
 bnd (decide (24<(a0.ab.length:Int))) fun x1 =>
 some x1

def cD (a0:(List aG)):Nat→Int→Af Int
 | 0,_=>none
 | n0 + 1,v7 =>
   bnd (decide (v7<(a0.length:Int))) fun x14 =>
   bif x14 then (
    bno (gix a0 v7) fun x16 =>
    bno (oM x16) fun x17 =>
    bif x17 then (
     some v7
    ) else (
      bnd (Ag .i64 (v7+1)) fun x19 =>
      (cD a0 n0) x19
    )
   ) else (
     some (-1)
   )
def dP (a0:(List aG)):Af Int :=
 cD a0 fuel 0

def cO (a0:(List aG)):Af Bool :=
 bno (dP a0) fun x1 =>
 bnd (decide (0≤x1)) fun x2 =>
 some x2

def kO (a0:aM):Af Bool :=
 bno (lE a0.ID 1 1048576) fun x1 =>
 bno (gd (x1 == true) (lE a0.ae 1 256) default) fun x2 =>
 bnd (x1&&x2) fun x3 =>
 bno (gd (x3 == true) (lE a0.af 0 1099511627776) default) fun x4 =>
 bnd (x3&&x4) fun x5 =>
 some x5

def kZ (a0:aM):Af Bool :=
 bno (kO a0) fun x1 =>
 some (!x1)

def bV (a0:(List aM)):Nat→Int→Af Int
 | 0,_=>none
 | n0 + 1,v7 =>
   bnd (decide (v7<(a0.length:Int))) fun x14 =>
   bif x14 then (
    bno (gix a0 v7) fun x16 =>
    bno (kZ x16) fun x17 =>
    bif x17 then (
     some v7
    ) else (
      bnd (Ag .i64 (v7+1)) fun x19 =>
      (bV a0 n0) x19
    )
   ) else (
     some (-1)
   )
def dG (a0:(List aM)):Af Int :=
 bV a0 fuel 0

def cJ (a0:(List aM)):Af Bool :=
 bno (dG a0) fun x1 =>
 bnd (decide (0≤x1)) fun x2 =>
 some x2

def mB (a0:aG):Af Bool :=
 bno (lE a0.aa 0 1048576) fun x1 =>
 bno (gd ((!x1) == false) (cJ a0.ab) default) fun x2 =>
 bnd ((!x1)||x2) fun x3 =>
 some x3

def cC (a0:(List aG)):Nat→Int→Af Int
 | 0,_=>none
 | n0 + 1,v7 =>
   bnd (decide (v7<(a0.length:Int))) fun x14 =>
   bif x14 then (
    bno (gix a0 v7) fun x16 =>
    bno (mB x16) fun x17 =>
    bif x17 then (
     some v7
    ) else (
      bnd (Ag .i64 (v7+1)) fun x19 =>
      (cC a0 n0) x19
    )
   ) else (
     some (-1)
   )
def dO (a0:(List aG)):Af Int :=
 cC a0 fuel 0

def cM (a0:(List aG)):Af Bool :=
 bno (dO a0) fun x1 =>
 bnd (decide (0≤x1)) fun x2 =>
 some x2

def gA (a0:aG):Nat→Int→Af Bool
 | 0,_=>none
 | n0 + 1,v9 =>
   bnd (decide (v9<(a0.ab.length:Int))) fun x18 =>
   bif x18 then (
    bnd (Ag .i64 (v9-1)) fun x20 =>
    bno (gix a0.ab x20) fun x21 =>
    bno (gix a0.ab v9) fun x22 =>
    bnd (decide (x22.ID≤x21.ID)) fun x23 =>
    bif x23 then (
     some false
    ) else (
      bnd (Ag .i64 (v9+1)) fun x25 =>
      (gA a0 n0) x25
    )
   ) else (
     some true
   )
def mZ (a0:aG):Af Bool :=
 gA a0 fuel 1

def gK (a0:(List aG)):Nat→Int→Af Int
 | 0,_=>none
 | n1 + 1,v20 =>
   bnd (decide (v20<(a0.length:Int))) fun x33 =>
   bif x33 then (
    bno (gix a0 v20) fun x35 =>
    bnd (decide (0<v20)) fun x36 =>
    bnd (Ag .i64 (v20-1)) fun x37 =>
    bno (gd (x36 == true) (gix a0 x37) default) fun x38 =>
    bnd (decide (x35.aa≤x38.aa)) fun x39 =>
    bnd (x36&&x39) fun x40 =>
    bno (gd (x40 == false) (mZ x35) default) fun x41 =>
    bnd (x40||(!x41)) fun x42 =>
    bif x42 then (
     some 10
    ) else (
      bnd (Ag .i64 (v20+1)) fun x44 =>
      (gK a0 n1) x44
    )
   ) else (
     some 0
   )
def mG (a0:(List aG)) (v4:Bool):Af Int :=
 bif v4 then (
  some 5
 ) else (
   bno (cM a0) fun x6 =>
   bif x6 then (
    some 8
   ) else (
     gK a0 fuel 0
   )
 )
def lF (a0:(List aG)):Af Int :=
 bnd (decide (25<(a0.length:Int))) fun x45 =>
 bif x45 then (
  mG a0 x45
 ) else (
   bno (cO a0) fun x47 =>
   mG a0 x47
 )

def lL (a0:aG) (a1:(List (Int×aX))) (a2:(List (Int×Bool))) (a3:(List (Int×Bool))) (a4:Int) (a5:Int) (a6:(List aJ)) (a7:Int) (a8:Int) (a9:(List aI)) (a10:Int) (a11:(List Int)):Af Bool :=
 bnd ((mget a1 a0.aa).getD (⟨0,0,0,false⟩:aX)) fun x1 =>
 bnd ((mget a1 a0.aa).isSome) fun x2 =>
 bnd (!decide (a0.aa=0)) fun x3 =>
 bnd (x3&&(!x2)) fun x4 =>
 some x4

def bP (a0:(List aG)) (a1:(List (Int×aX))) (a2:(List (Int×Bool))) (a3:(List (Int×Bool))) (a4:Int) (a5:Int) (a6:(List aJ)) (a7:Int) (a8:Int) (a9:(List aI)) (a10:Int) (a11:(List Int)):Nat→Int→Af Int
 | 0,_=>none
 | n0 + 1,v8 =>
   bnd (decide (v8<(a0.length:Int))) fun x16 =>
   bif x16 then (
    bno (gix a0 v8) fun x18 =>
    bno (a0[(v8:Int).toNat]?) fun x19 =>
    bno (lL x19 a1 a2 a3 a4 a5 a6 a7 a8 a9 a10 a11) fun x20 =>
    bif x20 then (
     some v8
    ) else (
      bnd (Ag .i64 (v8+1)) fun x22 =>
      (bP a0 a1 a2 a3 a4 a5 a6 a7 a8 a9 a10 a11 n0) x22
    )
   ) else (
     some (-1)
   )
def dN (a0:(List aG)) (a1:(List (Int×aX))) (a2:(List (Int×Bool))) (a3:(List (Int×Bool))) (a4:Int) (a5:Int) (a6:(List aJ)) (a7:Int) (a8:Int) (a9:(List aI)) (a10:Int) (a11:(List Int)):Af Int :=
 bP a0 a1 a2 a3 a4 a5 a6 a7 a8 a9 a10 a11 fuel 0

def bO (a1:(List (Int×aX))) (a2:(List (Int×Bool))) (a3:(List (Int×Bool))) (a4:Int) (a5:Int) (a6:(List aJ)) (a7:Int) (a8:Int) (a9:(List aI)) (a10:Int) (a11:(List Int)):Nat→(List aG)→Int→Int→Af (List aG)
 | 0,_,_,_=>none
 | n0 + 1,v17,v18,v19 =>
   bnd (decide (v19<(v17.length:Int))) fun x32 =>
   bif x32 then (
    bno (gix v17 v19) fun x34 =>
    bno (v17[(v19:Int).toNat]?) fun x35 =>
    bno (lL x35 a1 a2 a3 a4 a5 a6 a7 a8 a9 a10 a11) fun x36 =>
    bif (!x36) then (
     bno (gix v17 v18) fun x38 =>
     bno (v17[(v18:Int).toNat]?) fun x39 =>
     bnd (v17.set ((v18:Int).toNat) x35) fun x40 =>
     bnd (Ag .i64 (v18+1)) fun x41 =>
     bnd (Ag .i64 (v19+1)) fun x42 =>
     (bO a1 a2 a3 a4 a5 a6 a7 a8 a9 a10 a11 n0) x40 x41 x42
    ) else (
      bnd (Ag .i64 (v19+1)) fun x43 =>
      (bO a1 a2 a3 a4 a5 a6 a7 a8 a9 a10 a11 n0) v17 v18 x43
    )
   ) else (
     bno (cut v17 0 v18) fun x44 =>
     bno (cut x44 0 v18) fun x45 =>
     some x45
   )
def cF (a0:(List aG)) (a1:(List (Int×aX))) (a2:(List (Int×Bool))) (a3:(List (Int×Bool))) (a4:Int) (a5:Int) (a6:(List aJ)) (a7:Int) (a8:Int) (a9:(List aI)) (a10:Int) (a11:(List Int)):Af (List aG) :=
 bno (dN a0 a1 a2 a3 a4 a5 a6 a7 a8 a9 a10 a11) fun x1 =>
 bnd (decide (x1=(-1))) fun x2 =>
 bif x2 then (
  some a0
 ) else (
   bnd (Ag .i64 (x1+1)) fun x4 =>
   bO a1 a2 a3 a4 a5 a6 a7 a8 a9 a10 a11 fuel a0 x1 x4
 )

def gX (a0:aG) (a1:Int):Af Int :=
 bnd (Ag .i64 (a0.aa-a1)) fun x1 =>
 some x1

def bC (a0:(List aG)) (a1:Int):Nat→Int→Int→Af (Int×Bool)
 | 0,_,_=>none
 | n0 + 1,v12,v13 =>
   bnd (decide (v12<v13)) fun x25 =>
   bif x25 then (
    bnd (Ag .i64 (v12+v13)) fun x27 =>
    bnd (Ag .u64 x27) fun x28 =>
    bno (shrI .u64 x28 1) fun x29 =>
    bnd (Ag .i64 x29) fun x30 =>
    bno (gix a0 x30) fun x31 =>
    bno (gX x31 a1) fun x32 =>
    bnd (decide (x32<0)) fun x33 =>
    bif x33 then (
     bnd (Ag .i64 (x30+1)) fun x35 =>
     (bC a0 a1 n0) x35 v13
    ) else (
      (bC a0 a1 n0) v12 x30
    )
   ) else (
     bnd (decide (v12<(a0.length:Int))) fun x36 =>
     bno (gd (x36 == true) (gix a0 v12) default) fun x37 =>
     bno (gd (x36 == true) (gX x37 a1) default) fun x38 =>
     bnd (decide (x38=0)) fun x39 =>
     bnd (x36&&x39) fun x40 =>
     some (v12,x40)
   )
def cX (a0:(List aG)) (a1:Int):Af (Int×Bool) :=
 bC a0 a1 fuel 0 (a0.length:Int)

def gL (a0:(List aG)) (a1:Int):Af (Int×Bool) :=
 bno (cX a0 a1) fun x1 =>
 some (x1.1,x1.2)

def fT (a0:Int) (a1:(List aG)) (a2:(List aG)):Af (List aG):=insS 32 a2 a0 a1

def dC (a0:(List aM)):Af (List aM) :=
 aAe a0 (
  some ([]:(List aM))
 ) (
   bno (app 24 ([]:(List aM)) a0) fun x3 =>
   some x3
 )

def eT (x1:(List aM)):Nat→(List aM)→Int→Af (List aM)
 | 0,_,_=>none
 | n0+1,v8,v9 =>
   bnd (decide (v9<(x1.length:Int))) fun x16 =>
   bif x16 then (
    bno (gix v8 v9) fun x18 =>
    bno (v8[(v9:Int).toNat]?) fun x19 =>
    bnd (v8.set ((v9:Int).toNat) (⟨x19.ID,x19.ae,0⟩:aM)) fun x20 =>
    bnd (Ag .i64 (v9+1)) fun x21 =>
    (eT x1 n0) x20 x21
   ) else (
     some v8
   )
def lH (a0:aG):Af (List aM) :=
 bno (dC a0.ab) fun x1 =>
 eT x1 fuel x1 0

def bY (a0:(List aM)) (a1:(List aM)):Nat→Int→Af Bool
 | 0,_=>none
 | n0 + 1,v10 =>
   bnd (decide (v10<(a0.length:Int))) fun x18 =>
   bif x18 then (
    bno (gix a0 v10) fun x20 =>
    bno (gix a1 v10) fun x21 =>
    bnd ((decide (x20.ID=x21.ID)&&(decide (x20.ae=x21.ae)&&(decide (x20.af=x21.af)&&true)))) fun x22 =>
    bif (!x22) then (
     some false
    ) else (
      bnd (Ag .i64 (v10+1)) fun x24 =>
      (bY a0 a1 n0) x24
    )
   ) else (
     some true
   )
def dH (a0:(List aM)) (a1:(List aM)):Af Bool :=
 bnd (!decide ((a0.length:Int)=(a1.length:Int))) fun x1 =>
 bif x1 then (
  some false
 ) else (
   bY a0 a1 fuel 0
 )

def iU (a0:aG) (a1:(List aG)):Af (List aG) :=
 bno (gL a1 a0.aa) fun x1 =>
 bif (!x1.2) then (
  bno (fT x1.1 ([a0]:(List aG)) a1) fun x3 =>
  some x3
 ) else (
   bno (gix a1 x1.1) fun x4 =>
   bno (a1[(x1.1:Int).toNat]?) fun x5 =>
   bno (lH x5) fun x6 =>
   bno (dH x6 a0.ab) fun x7 =>
   bif (!x7) then (
    bno (gix a1 x1.1) fun x9 =>
    bno (a1[(x1.1:Int).toNat]?) fun x10 =>
    bnd (a1.set ((x1.1:Int).toNat) a0) fun x11 =>
    some x11
   ) else (
     some a1
   )
 )

def eY (x2:(List aM)):Nat→Int→Int→Int→Int→Af Int
 | 0,_,_,_,_=>none
 | n0 + 1,v12,v13,v14,v15 =>
   bnd (decide (v12<(x2.length:Int))) fun x25 =>
   bif x25 then (
    bno (gix x2 v12) fun x27 =>
    bnd (Ag .i64 (x27.af*v14)) fun x28 =>
    bnd (Ag .i64 (v15*x27.ae)) fun x29 =>
    bnd (decide (x28<x29)) fun x30 =>
    bif x30 then (
     bnd (Ag .i64 (v12+1)) fun x32 =>
     (eY x2 n0) x32 x27.ID x27.ae x27.af
    ) else (
      bnd (Ag .i64 (v12+1)) fun x33 =>
      (eY x2 n0) x33 v13 v14 v15
    )
   ) else (
     some v13
   )
def jM (a0:aG):Af Int :=
 bno (gix a0.ab 0) fun x1 =>
 bno (cut a0.ab 1 (a0.ab.length:Int)) fun x2 =>
 eY x2 fuel 0 x1.ID x1.ae x1.af

def iP (v32:Int) (kk0:Int→(List (Int×aX))→(List (Int×Bool))→(List (Int×Bool))→Af ((List aG)×Int)) (x68:(List (Int×aX))) (x73:(List (Int×Bool))) (x75:(List Int)):Nat→Int→(List (Int×Bool))→Af ((List aG)×Int)
 | 0,_,_=>none
 | n1+1,v81,v82 =>
   bnd (decide (v81<(x75.length:Int))) fun x88 =>
   bif x88 then (
    bno (gix x75 v81) fun x90 =>
    bnd (mput v82 x90 true) fun x91 =>
    bnd (Ag .i64 (v81+1)) fun x92 =>
    (iP v32 kk0 x68 x73 x75 n1) x92 x91
   ) else (
     bnd (Ag .i64 (v32+1)) fun x93 =>
     kk0 x93 x68 x73 v82
   )
def gY (v33:(List (Int×aX))) (v34:(List (Int×Bool))) (v35:(List (Int×Bool))) (v137:(List aG)) (v138:Int) (kk2:(List aG)→Int→Af ((List aG)×Int)) (x176:(List Int)):Nat→Int→(List aM)→Af ((List aG)×Int)
 | 0,_,_=>none
 | n3 + 1,v186,v187 =>
   bnd (decide (v186<(x176.length:Int))) fun x197 =>
   bif x197 then (
    bno (gix x176 v186) fun x199 =>
    bnd ((mget v35 x199).getD false) fun x200 =>
    bif x200 then (
     bnd ((mget v33 x199).getD (⟨0,0,0,false⟩:aX)) fun x202 =>
     bno (app 24 v187 (([(⟨x199,x202.ae,0⟩:aM)]:(List aM)))) fun x203 =>
     bnd (Ag .i64 (v186+1)) fun x204 =>
     (gY v33 v34 v35 v137 v138 kk2 x176 n3) x204 x203
    ) else (
      bnd (Ag .i64 (v186+1)) fun x205 =>
      (gY v33 v34 v35 v137 v138 kk2 x176 n3) x205 v187
    )
   ) else (
     bno (iU (⟨v138,v187⟩:aG) v137) fun x206 =>
     bno (gL x206 v138) fun x207 =>
     bno (gix x206 x207.1) fun x208 =>
     bno (x206[(x207.1:Int).toNat]?) fun x209 =>
     bno (jM x209) fun x210 =>
     bnd ((mget v34 x210).getD false) fun x211 =>
     bif x211 then (
      some (x206,x210)
     ) else (
       kk2 x206 x210
     )
   )
def eZ (a2:Int) (a3:Int) (a4:(List aJ)) (a5:Int) (a6:Int) (a7:(List aI)) (a8:Int) (a9:(List Int)) (v33:(List (Int×aX))) (v34:(List (Int×Bool))) (v35:(List (Int×Bool))):Nat→(List aG)→Int→Af ((List aG)×Int)
 | 0,_,_=>none
 | n2+1,v137,v138 =>
   bno (iH v138 a2 a3 a4 a5 a6 a7 a8 a9) fun x176 =>
   gY v33 v34 v35 v137 v138 (eZ a2 a3 a4 a5 a6 a7 a8 a9 v33 v34 v35 n2) x176 fuel 0 ([]:(List aM))
def fU (a0:(List aG)) (a1:(List Int)) (a2:Int) (a3:Int) (a4:(List aJ)) (a5:Int) (a6:Int) (a7:(List aI)) (a8:Int) (a9:(List Int)) (x1:(List aG)) (x2:(List aX)):Nat→Int→(List (Int×aX))→(List (Int×Bool))→(List (Int×Bool))→Af ((List aG)×Int)
 | 0,_,_,_,_=>none
 | n0 + 1,v32,v33,v34,v35 =>
   bnd (decide (v32<(x2.length:Int))) fun x65 =>
   bif x65 then (
    bno (gix x2 v32) fun x67 =>
    bnd (mput v33 x67.ID x67) fun x68 =>
    bno (gd (x67.ag == false) (cS a1 x67.ID) default) fun x69 =>
    bnd (x67.ag||(!x69)) fun x70 =>
    bif x70 then (
     bnd (Ag .i64 (v32+1)) fun x72 =>
     (fU a0 a1 a2 a3 a4 a5 a6 a7 a8 a9 x1 x2 n0) x72 x68 v34 v35
    ) else (
      bnd (mput v34 x67.ID true) fun x73 =>
      bnd (mput v35 x67.ID true) fun x74 =>
      bno (jN x67.ID a2 a3 a4 a5 a6 a7 a8 a9) fun x75 =>
      iP v32 (fU a0 a1 a2 a3 a4 a5 a6 a7 a8 a9 x1 x2 n0) x68 x73 x75 fuel 0 x74
    )
   ) else (
     bno (lF a0) fun x94 =>
     bnd (!decide (x94=0)) fun x95 =>
     bnd (decide ((v34.length:Int)=0)) fun x96 =>
     bnd (x95||x96) fun x97 =>
     bif x97 then (
      some (x1,0)
     ) else (
       bno (cF x1 v33 v34 v35 a2 a3 a4 a5 a6 a7 a8 a9) fun x99 =>
       eZ a2 a3 a4 a5 a6 a7 a8 a9 v33 v34 v35 fuel x99 0
     )
   )
def lU (a0:(List aG)) (a1:(List Int)) (a2:Int) (a3:Int) (a4:(List aJ)) (a5:Int) (a6:Int) (a7:(List aI)) (a8:Int) (a9:(List Int)):Af ((List aG)×Int) :=
 bno (kY a0) fun x1 =>
 bno (iX a2 a3 a4 a5 a6 a7 a8 a9) fun x2 =>
 fU a0 a1 a2 a3 a4 a5 a6 a7 a8 a9 x1 x2 fuel 0 ([]:(List (Int×aX))) ([]:(List (Int×Bool))) ([]:(List (Int×Bool)))

def fV (x1:(List aM)):Nat→(List aM)→Int→Af (List aM)
 | 0,_,_=>none
 | n0+1,v8,v9 =>
   bnd (decide (v9<(x1.length:Int))) fun x16 =>
   bif x16 then (
    bno (gix v8 v9) fun x18 =>
    bno (v8[(v9:Int).toNat]?) fun x19 =>
    bnd (v8.set ((v9:Int).toNat) (⟨x19.ID,x19.ae,0⟩:aM)) fun x20 =>
    bnd (Ag .i64 (v9+1)) fun x21 =>
    (fV x1 n0) x20 x21
   ) else (
     some v8
   )
def kP (a0:aG):Af (List aM) :=
 bno (dC a0.ab) fun x1 =>
 fV x1 fuel x1 0

def lP (a0:aM) (a1:Int):Af Bool :=
 bnd (decide (a0.ID=a1)) fun x1 =>
 some x1

def bH (a0:(List aM)) (a1:Int):Nat→Int→Af Int
 | 0,_=>none
 | n0 + 1,v7 =>
   bnd (decide (v7<(a0.length:Int))) fun x14 =>
   bif x14 then (
    bno (gix a0 v7) fun x16 =>
    bno (lP x16 a1) fun x17 =>
    bif x17 then (
     some v7
    ) else (
      bnd (Ag .i64 (v7+1)) fun x19 =>
      (bH a0 a1 n0) x19
    )
   ) else (
     some (-1)
   )
def bD (a0:(List aM)) (a1:Int):Af Int :=
 bH a0 a1 fuel 0

def fC (a0:(List aG)):Nat→(List aG)→Int→Af (List aG)
 | 0,_,_=>none
 | n0+1,v7,v8 =>
   bnd (decide (v8<(a0.length:Int))) fun x15 =>
   bif x15 then (
    bno (gix a0 v8) fun x17 =>
    bno (eB x17.ab) fun x18 =>
    bno (app 32 v7 (([(⟨x17.aa,x18⟩:aG)]:(List aG)))) fun x19 =>
    bnd (Ag .i64 (v8+1)) fun x20 =>
    (fC a0 n0) x19 x20
   ) else (
     some v7
   )
def mY (a0:(List aG)):Af (List aG) :=
 fC a0 fuel ([]:(List aG)) 0

def fH (a1:Int) (a2:Int) (a3:(List aJ)) (a4:Int) (a5:Int) (a6:(List aI)) (a7:Int) (a8:(List Int)):Nat→(List Int)→Int→Af (List Int)
 | 0,_,_=>none
 | n0+1,v14,v15 =>
   bnd (!decide (v15=(-1))) fun x28 =>
   bno (gd (x28 == true) (gix a6 v15) default) fun x29 =>
   chk ((x28 == true)=true→a6.length=64)<|bno (gd (x28 == true) (a6[(v15:Int).toNat]?) default) fun x31 =>
   bnd (!decide (x31.up=(-1))) fun x32 =>
   bnd (x28&&x32) fun x33 =>
   bif x33 then (
    bno (gix a6 v15) fun x35 =>
    chk (a6.length=64)<|bno (a6[(v15:Int).toNat]?) fun x37 =>
    bno (fJ x37.up a1 a2 a3 a4 a5 a6 a7 a8) fun x38 =>
    bno (app 8 v14 ([x38]:(List Int))) fun x39 =>
    (fH a1 a2 a3 a4 a5 a6 a7 a8 n0) x39 x37.up
   ) else (
     some v14
   )
def jC (a0:Int) (a1:Int) (a2:Int) (a3:(List aJ)) (a4:Int) (a5:Int) (a6:(List aI)) (a7:Int) (a8:(List Int)):Af (List Int) :=
 bno (eI a0 a1 a2 a3 a4 a5 a6 a7 a8) fun x1 =>
 fH a1 a2 a3 a4 a5 a6 a7 a8 fuel ([]:(List Int)) x1

def nW (a0:aX) (a1:Int):Af Bool :=
 bnd (decide (a0.ID=a1)) fun x1 =>
 some x1

def cE (a0:(List aX)) (a1:Int):Nat→Int→Af Int
 | 0,_=>none
 | n0 + 1,v7 =>
   bnd (decide (v7<(a0.length:Int))) fun x14 =>
   bif x14 then (
    bno (gix a0 v7) fun x16 =>
    bno (nW x16 a1) fun x17 =>
    bif x17 then (
     some v7
    ) else (
      bnd (Ag .i64 (v7+1)) fun x19 =>
      (cE a0 a1 n0) x19
    )
   ) else (
     some (-1)
   )
def dX (a0:(List aX)) (a1:Int):Af Int :=
 cE a0 a1 fuel 0

def cQ (a0:(List aX)) (a1:Int):Af Bool :=
 bno (dX a0 a1) fun x1 =>
 bnd (decide (0≤x1)) fun x2 =>
 some x2

def fD (v:List aM) (i b:Int):Af (List aM) :=
 bno (gix v i) fun y1 =>
 bnd (Ag .i64 (y1.af+b)) fun y2 =>
 some (v.set i.toNat (⟨y1.ID,y1.ae,y2⟩:aM))
def gM (g:aG) (a1 a2:Int):Af (List aM) :=
 bno (bD g.ab a1) fun x1 =>
 bnd (decide (x1<0)) fun x2 =>
 bif x2 then some g.ab else
 bno (gix g.ab x1) fun x3 =>
 bnd (Ag .i64 (1099511627776-a2)) fun x4 =>
 bnd (decide (x4<x3.af)) fun x5 =>
 bif x5 then bno (kP g) fun x6=>fD x6 x1 a2
 else fD g.ab x1 a2
def fA (x11:List Int) (a2:Int):Nat→List aG→Int→Int→Af (List aG)
 | 0,_,_,_=>none
 | n0 + 1,gs,v20,v21 =>
   bnd (decide (v20<(x11.length:Int))) fun x30 =>
   bif x30 then (
    bno (gix x11 v20) fun x32 =>
    bno (x11[(v20:Int).toNat]?) fun x33 =>
    bno (gL gs x33) fun x34 =>
    bif x34.2 then (
     bno (gix gs x34.1) fun x36 =>
     bno (gM x36 v21 a2) fun x38 =>
     bnd (gs.set x34.1.toNat (⟨x36.aa,x38⟩:aG)) fun x39 =>
     bnd (Ag .i64 (v20+1)) fun x37 =>
     (fA x11 a2 n0) x39 x37 x33
    ) else (
      bnd (Ag .i64 (v20+1)) fun x37 =>
      (fA x11 a2 n0) gs x37 x33
    )
   ) else (
     some gs
   )
def lM (a0:(List aG)) (a1:Int) (a2:Int) (a3:Int) (a4:Int) (a5:(List aJ)) (a6:Int) (a7:Int) (a8:(List aI)) (a9:Int) (a10:(List Int)):Af (List aG) :=
 bno (mY a0) fun x1 =>
 bno (lF a0) fun x2 =>
 bnd (!decide (x2=0)) fun x3 =>
 bno (gd (x3 == false) (lE a2 0 1048576) default) fun x4 =>
 bnd (x3||(!x4)) fun x5 =>
 bif x5 then (
  some x1
 ) else (
   bno (jC a1 a3 a4 a5 a6 a7 a8 a9 a10) fun x7 =>
   bno (iX a3 a4 a5 a6 a7 a8 a9 a10) fun x8 =>
   bno (cQ x8 a1) fun x9 =>
   bif (!x9) then (
    some x1
   ) else (
     bno (app 8 x7 ([0]:(List Int))) fun x11 =>
     fA x11 a2 fuel x1 0 a1
   )
 )

def mS (a0:(List aG)) (a1:(List Int)) (a2:Int) (a3:Int) (a4:Int) (a5:(List aJ)) (a6:Int) (a7:Int) (a8:(List aI)) (a9:Int) (a10:(List Int)):Af ((List aG)×Int) :=
 bno (lU a0 a1 a3 a4 a5 a6 a7 a8 a9 a10) fun x1 =>
 bnd (decide (x1.2=0)) fun x2 =>
 bif x2 then (
  some (x1.1,0)
 ) else (
   bno (lM x1.1 x1.2 a2 a3 a4 a5 a6 a7 a8 a9 a10) fun x4 =>
   some (x4,x1.2)
 )

def rA (a0:aG) (a1:aG):Af Bool :=
 bnd (decide (a0.aa=a1.aa)) fun x1 =>
 bno (gd (x1 == true) (dH a0.ab a1.ab) default) fun x2 =>
 bnd (x1&&x2) fun x3 =>
 some x3

def bK (a0:(List aG)) (a1:(List aG)):Nat→Int→Af Bool
 | 0,_=>none
 | n0 + 1,v10 =>
   bnd (decide (v10<(a0.length:Int))) fun x18 =>
   bif x18 then (
    bno (gix a0 v10) fun x20 =>
    bno (gix a1 v10) fun x21 =>
    bno (rA x20 x21) fun x22 =>
    bif (!x22) then (
     some false
    ) else (
      bnd (Ag .i64 (v10+1)) fun x24 =>
      (bK a0 a1 n0) x24
    )
   ) else (
     some true
   )
def cZ (a0:(List aG)) (a1:(List aG)):Af Bool :=
 bnd (!decide ((a0.length:Int)=(a1.length:Int))) fun x1 =>
 bif x1 then (
  some false
 ) else (
   bK a0 a1 fuel 0
 )

def rM (a0:(List aG)) (a1:(List aG)):Af Bool :=
 bno (cZ a0 a1) fun x1 =>
 some x1

def jB (x11:(Int×Int×Int×(List aJ)×Int×Int×(List aI)×Int×(List Int))) (x12:(Int×Int×Int×(List aJ)×Int×Int×(List aI)×Int×(List Int))) (x13:(Int×Int×Int×(List aJ)×Int×Int×(List aI)×Int×(List Int))):Nat→(List aG)→(List Ct)→Int→Af Bool
 | 0,_,_,_=>none
 | n0+1,v23,v24,v25 =>
   bnd (decide (v25<7)) fun x35 =>
   bif x35 then (
    bno (mS v23 ([3,1,5]:(List Int)) 10 x13.2.1 x13.2.2.1 x13.2.2.2.1 x13.2.2.2.2.1 x13.2.2.2.2.2.1 x13.2.2.2.2.2.2.1 x13.2.2.2.2.2.2.2.1 x13.2.2.2.2.2.2.2.2) fun x37 =>
    bno (remI x37.2 10) fun x38 =>
    bnd (Ag .u8 x38) fun x39 =>
    bnd (Ag .u8 (48+x39)) fun x40 =>
    bno (toU8 x40) fun x41 =>
    bno (cat v24 ([x41]:(List Ct))) fun x42 =>
    bnd (Ag .i64 (v25+1)) fun x43 =>
    (jB x11 x12 x13 n0) x37.1 x42 x43
   ) else (
     bno (lU v23 ([5]:(List Int)) x13.2.1 x13.2.2.1 x13.2.2.2.1 x13.2.2.2.2.1 x13.2.2.2.2.2.1 x13.2.2.2.2.2.2.1 x13.2.2.2.2.2.2.2.1 x13.2.2.2.2.2.2.2.2) fun x44 =>
     bno (lU v23 ([9]:(List Int)) x13.2.1 x13.2.2.1 x13.2.2.2.1 x13.2.2.2.2.1 x13.2.2.2.2.2.1 x13.2.2.2.2.2.2.1 x13.2.2.2.2.2.2.2.1 x13.2.2.2.2.2.2.2.2) fun x45 =>
     bnd (decide (x11.1=0)) fun x46 =>
     bnd (decide (x12.1=0)) fun x47 =>
     bnd (x46&&x47) fun x48 =>
     bnd (decide (x13.1=0)) fun x49 =>
     bnd (x48&&x49) fun x50 =>
     bnd (decide (v24=([49,51,51,49,51,51,49]:List Ct))) fun x51 =>
     bnd (x50&&x51) fun x52 =>
     bnd (decide ((v23.length:Int)=1)) fun x53 =>
     bnd (x52&&x53) fun x54 =>
     bnd (decide (x44.2=5)) fun x55 =>
     bnd (x54&&x55) fun x56 =>
     bnd (decide ((x44.1.length:Int)=2)) fun x57 =>
     bnd (x56&&x57) fun x58 =>
     bno (gd (x58 == true) (gix x44.1 1) default) fun x59 =>
     bnd (decide (x59.aa=3)) fun x60 =>
     bnd (x58&&x60) fun x61 =>
     bnd (decide (x45.2=0)) fun x62 =>
     bnd (x61&&x62) fun x63 =>
     bno (gd (x63 == true) (rM v23 x45.1) default) fun x64 =>
     bnd (x63&&x64) fun x65 =>
     bno (gd (x65 == true) (rM v23 x44.1) default) fun x66 =>
     bnd (x65&&(!x66)) fun x67 =>
     bno (gd (x67 == true) (lF x44.1) default) fun x68 =>
     bnd (decide (x68=0)) fun x69 =>
     bnd (x67&&x69) fun x70 =>
     bno (gd (x70 == true) (lF ([(⟨(-1),[]⟩:aG)]:(List aG))) default) fun x71 =>
     bnd (decide (x71=8)) fun x72 =>
     bnd (x70&&x72) fun x73 =>
     bno (gd (x73 == true) (gix v23 0) default) fun x74 =>
     bno (gd (x73 == true) (gix x74.ab 0) default) fun x75 =>
     bno (gd (x73 == true) (gix v23 0) default) fun x76 =>
     bno (gd (x73 == true) (gix x76.ab 1) default) fun x77 =>
     bno (gd (x73 == true) (kL x75 x77 (⟨0,0⟩:pH) 10) default) fun x78 =>
     bnd (x73&&x78) fun x79 =>
     bno (gd (x79 == true) (gix v23 0) default) fun x80 =>
     bno (gd (x79 == true) (gix x80.ab 0) default) fun x81 =>
     bno (gd (x79 == true) (gix v23 0) default) fun x82 =>
     bno (gd (x79 == true) (gix x82.ab 1) default) fun x83 =>
     bno (gd (x79 == true) (kL x81 x83 (⟨0,0⟩:pH) 0) default) fun x84 =>
     bnd (x79&&(!x84)) fun x85 =>
     bnd (bif x85 then true else false) fun x86 =>
     bnd (bif x86 then true else false) fun x87 =>
     bnd (bif x87 then true else false) fun x88 =>
     some x88
   )
def lA  : Af Bool :=
 bno (nB 8 1 24) fun x1 =>
 bno (gd ((!x1) == false) (nB 2 0 8) default) fun x2 =>
 bnd ((!x1)||(!x2)) fun x3 =>
 bif x3 then (
  bnd (!decide (8=0)) fun x5 =>
  bnd (x5||true) fun x6 =>
  some false
 ) else (
   bno (tW) fun x7 =>
   bnd (!decide (0=0)) fun x8 =>
   bnd (x8||false) fun x9 =>
   bif x9 then (
    some false
   ) else (
     bno (fI 1 0 16 false 8 2 x7.Cells x7.Free x7.Used ((AI 64 (⟨0,0,0,0,0,false⟩:aI):(List aI))) (-1) []) fun x11 =>
     bno (fI 3 0 32 false x11.2.1 x11.2.2.1 x11.2.2.2.1 x11.2.2.2.2.1 x11.2.2.2.2.2.1 x11.2.2.2.2.2.2.1 x11.2.2.2.2.2.2.2.1 x11.2.2.2.2.2.2.2.2) fun x12 =>
     bno (fI 5 3 1 false x12.2.1 x12.2.2.1 x12.2.2.2.1 x12.2.2.2.2.1 x12.2.2.2.2.2.1 x12.2.2.2.2.2.2.1 x12.2.2.2.2.2.2.2.1 x12.2.2.2.2.2.2.2.2) fun x13 =>
     jB x11 x12 x13 fuel ([]:(List aG)) ([]:(List Ct)) 0
   )
 )

def eL (kk3:Int→Af Bool) (x428:((List aG)×Int)) (x431:Int) (v444:(List aG)) (v494:Int):Nat→Int→Af Bool
 | 0,_=>none
 | n4 + 1,v561 =>
   bnd (decide (v561<v494)) fun x577 =>
   bif x577 then (
    bno (gix x428.1 0) fun x579 =>
    bno (gix x579.ab v494) fun x580 =>
    bno (gix x428.1 0) fun x581 =>
    bno (gix x581.ab v561) fun x582 =>
    bno (gix v444 0) fun x583 =>
    bno (gix x583.ab v494) fun x584 =>
    bno (gix v444 0) fun x585 =>
    bno (gix x585.ab v561) fun x586 =>
    bno (kL x580 x582 (⟨x584.af,x586.af⟩:pH) x431) fun x587 =>
    bno (gd ((!x587) == false) (kL x580 x582 (⟨0,0⟩:pH) x431) default) fun x588 =>
    bnd ((!x587)||(!x588)) fun x589 =>
    bif x589 then (
     some false
    ) else (
      bnd (Ag .i64 (v561+1)) fun x591 =>
      (eL kk3 x428 x431 v444 v494 n4) x591
    )
   ) else (
     bnd (Ag .i64 (v494+1)) fun x592 =>
     kk3 x592
   )
def dM (v32:(List Int)) (v248:Int) (kk1:(List aG)→(List aG)→Int→Int→Af Bool) (x428:((List aG)×Int)) (x431:Int) (v444:(List aG)):Nat→Int→Af Bool
 | 0,_=>none
 | n3+1,v494 =>
   bnd (decide (v494<(v32.length:Int))) fun x544 =>
   bif x544 then (
    eL (dM v32 v248 kk1 x428 x431 v444 n3) x428 x431 v444 v494 fuel 0
   ) else (
     bnd (Ag .i64 (v248+1)) fun x593 =>
     kk1 x428.1 v444 x431 x593
   )
def fR (v32:(List Int)) (v248:Int) (kk1:(List aG)→(List aG)→Int→Int→Af Bool) (x428:((List aG)×Int)) (x431:Int) (v444:(List aG)):Af Bool :=
 dM v32 v248 kk1 x428 x431 v444 fuel 1
def cH (a1:(List Int)) (a2:Int) (v32:(List Int)) (v34:Int) (v35:Int) (v36:(List aJ)) (v37:Int) (v38:Int) (v39:(List aI)) (v40:Int) (v41:(List Int)):Nat→(List aG)→(List aG)→Int→Int→Af Bool
 | 0,_,_,_,_=>none
 | n1 + 1,v245,v246,v247,v248 =>
   bnd (decide (v248<(a1.length:Int))) fun x424 =>
   bif x424 then (
    bno (gix a1 v248) fun x426 =>
    bnd (Ag .i64 x426) fun x427 =>
    bno (mS v245 v32 x427 v34 v35 v36 v37 v38 v39 v40 v41) fun x428 =>
    bno (gix a1 v248) fun x429 =>
    bnd (Ag .i64 x429) fun x430 =>
    bnd (max v247 x430) fun x431 =>
    bnd (decide (x428.2=0)) fun x432 =>
    bnd (!decide ((x428.1.length:Int)=1)) fun x433 =>
    bnd (x432||x433) fun x434 =>
    bno (gd (x434 == false) (gix x428.1 0) default) fun x435 =>
    bnd (!decide ((x435.ab.length:Int)=(v32.length:Int))) fun x436 =>
    bnd (x434||x436) fun x437 =>
    bif x437 then (
     some false
    ) else (
      bnd (decide (v248=0)) fun x594 =>
      bnd (Ag .i64 a2) fun x595 =>
      bnd (decide (v248=x595)) fun x596 =>
      bnd (x594||x596) fun x597 =>
      bif x597 then (
       fR v32 v248 (cH a1 a2 v32 v34 v35 v36 v37 v38 v39 v40 v41 n1) x428 x431 x428.1
      ) else (
        fR v32 v248 (cH a1 a2 v32 v34 v35 v36 v37 v38 v39 v40 v41 n1) x428 x431 v246
      )
    )
   ) else (
     bno (lA) fun x599 =>
     some x599
   )
def eN (a0:(List Ct)) (a1:(List Int)) (a2:Int):Nat→(List Int)→Int→Int→Int→(List aJ)→Int→Int→(List aI)→Int→(List Int)→Af Bool
 | 0,_,_,_,_,_,_,_,_,_,_=>none
 | n0 + 1,v32,v33,v34,v35,v36,v37,v38,v39,v40,v41 =>
   bnd (decide (v33<(a0.length:Int))) fun x56 =>
   bif x56 then (
    bnd (Ag .i64 (2*v33)) fun x58 =>
    bnd (Ag .i64 (1+x58)) fun x59 =>
    bno (gix a0 v33) fun x60 =>
    bnd (Ag .i64 (x60.toNat:Int)) fun x61 =>
    bnd (Ag .i64 (1+x61)) fun x62 =>
    bno (fI x59 0 x62 false v34 v35 v36 v37 v38 v39 v40 v41) fun x63 =>
    bnd (!decide (x63.1=0)) fun x64 =>
    bif x64 then (
     some false
    ) else (
      bnd (Ag .i64 (2*v33)) fun x66 =>
      bnd (Ag .i64 (1+x66)) fun x67 =>
      bno (app 8 v32 ([x67]:(List Int))) fun x68 =>
      bnd (Ag .i64 (v33+1)) fun x69 =>
      (eN a0 a1 a2 n0) x68 x69 x63.2.1 x63.2.2.1 x63.2.2.2.1 x63.2.2.2.2.1 x63.2.2.2.2.2.1 x63.2.2.2.2.2.2.1 x63.2.2.2.2.2.2.2.1 x63.2.2.2.2.2.2.2.2
    )
   ) else (
     cH a1 a2 v32 v34 v35 v36 v37 v38 v39 v40 v41 fuel ([]:(List aG)) ([]:(List aG)) 0 0
   )
def iQ (a0:(List Ct)) (a1:(List Int)) (a2:Int):Af Bool :=
 bnd (decide ((a0.length:Int)<2)) fun x1 =>
 bnd (decide (8<(a0.length:Int))) fun x2 =>
 bnd (x1||x2) fun x3 =>
 bnd (decide (80<(a1.length:Int))) fun x4 =>
 bnd (x3||x4) fun x5 =>
 bif x5 then (
  bno (lA) fun x7 =>
  some x7
 ) else (
   bno (nB 24 1 24) fun x8 =>
   bno (gd ((!x8) == false) (nB 3 0 24) default) fun x9 =>
   bnd ((!x8)||(!x9)) fun x10 =>
   bif x10 then (
    bnd (!decide (8=0)) fun x12 =>
    bnd (x12||true) fun x13 =>
    some false
   ) else (
     bno (tW) fun x14 =>
     bnd (!decide (0=0)) fun x15 =>
     bnd (x15||false) fun x16 =>
     bif x16 then (
      some false
     ) else (
       eN a0 a1 a2 fuel ([]:(List Int)) 0 24 3 x14.Cells x14.Free x14.Used ((AI 64 (⟨0,0,0,0,0,false⟩:aI):(List aI))) (-1) ([]:(List Int))
     )
   )
 )
end Go.Fn
