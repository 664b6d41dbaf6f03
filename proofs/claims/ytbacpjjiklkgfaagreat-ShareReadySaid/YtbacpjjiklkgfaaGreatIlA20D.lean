/-
  A part of the proof: rules and plain facts. No condition.
-/
import Derived.Test.YtbacpjjiklkgfaaGreatIlAr
import Derived.Lib.AppendZerosOnto
import Derived.Laws.CopyRow
import Derived.Lib.Overlaps
import Derived.Lib.Bytealg
import Derived.Lib.ItoaNum
import Derived.Lib.Join
import Derived.Laws.Pointers
import Derived.LaidEqlPtr
import Derived.Lib.Builder
import Derived.Lib.UnsafeStr
import Derived.Shelf.Sort.Plain
import Derived.Shelf.Slices.In.SortNone
import Derived.Shelf.SlSortCmp.WholeK
import Derived.Shelf.SlSortCmp.NoneTotal
import Derived.MapKept
set_option linter.all false
open Go renaming Operand → Ao,Program → Bc,TypeId → Av,Value → AG
open Go.IL.D renaming one → DZ
open Go.IL.HOk renaming put → Da
open Go.IL.Rd renaming mono → Ct
open Go.IL.RdL renaming mono → AR
open Go.IL.St renaming ent → BA,get → Cb,set → Bn,setE → Bp
open Iff renaming rfl → DA
open List renaming all_eq_true → Ba,append_assoc → AH,append_nil → AW,drop_append_of_le_length → Bl,getElem?_append_left → AK,getElem?_drop → En,getElem?_eq_some_iff → Ag,getElem?_take → BW,length_append → AX,length_eq_zero_iff → Bf,length_nil → Cf,length_take → Bk,mem_of_mem_take → Dn,replicate → AF,size_toArray → Cl,take_append_drop → AY,take_append_of_le_length → AQ,take_length → CC,toArray → Cq
open Nat renaming add_mul → Bq,add_zero → Cw,le_refl → AO,min_eq_left → Cc,min_le_right → FM,mul_le_mul_right → AP,zero_add → Bi,zero_mul → CL
open _root_ renaming Option → Af,absurd → AI
open Go.RowKit (Below)
namespace Go.IL
section
variable {P:Bc} {O:bK} {N:Nat} {S S':St} {o:Oper} {t:Nat} {Q:Exit→St→Prop}
theorem tT {E:Env} {β:bC} {v:AG} {id sz off len cap:Nat} (h:Rd E β v (.rsl id sz off len cap)) :
 ∃ b p c e f,v = .slice (some ⟨b,p,none⟩) len cap∧β id=some b∧len≤cap∧0<sz∧(0<cap→p=off)∧p≤off∧E.w.heap[b]? = some (Obj.cells c e f)∧off+cap*sz≤c.size∧cap≤maxLen:=by
 cases h with
 | rsl _ _ _ _ _ _ b p h1 h2 h3 h4 c e f h5 h6 h7=>exact ⟨b,p,c,e,f,rfl,h1,h2,h3,h4.1,h4.2,h5,h6,h7⟩
theorem uH {S:St} {id t:Nat} {e:Ent} {d:D}:((S.setE id e).set t d).ent id=e:=by simp [BA,entL,Bp,Bn,aN]
theorem sT {S:St} {id t j:Nat} {e:Ent} {d:D} (h:j≠id):((S.setE id e).set t d).ent j=S.ent j:=by simp [BA,entL,Bp,Bn,aN,Ne.symm h]
theorem Rel.turn {E:Env} {β:bC} {a:Act} (h:Rel O N S E β a) {id b:Nat} {e:Av} {ds ds':List D} {d:D} (he:S.ent id = .blk e ds) (hb:β id=some b)
 (hk:∀ vs sp,E.w.heap[b]? = some (.cells (Cq (vs++sp)) e (0,0))→RdL E β vs ds→∃ vs' sp',vs'++sp'=vs++sp∧RdL E β vs' ds') (hd:Rd E β (a.tmps.getD t undef) d) :
 Rel O N ((S.setE id (.blk e ds')).set t d) E β a:=by
 have hent:=h.h.ent id
 rw [he] at hent
 obtain ⟨vs,sp,h1,h2,h3,h4⟩:=pB hent hb
 obtain ⟨vs',sp',h5,h6⟩:=hk vs sp h2 h4
 have held:∀ j,(((S.setE id (.blk e ds')).set t d).ent j).held=(S.ent j).held:=fun j=>by
  by_cases hj:j=id
  · subst hj; rw [uH,he]; rfl
  · rw [sT hj]
 refine ⟨h.n,h.nd,?_,fun s=>?_⟩
 · refine { h.h with ent:=fun j=>?_,inj:=fun i j k hi hj=>h.h.inj i j k (held i ▸ hi) (held j ▸ hj) }
   by_cases hj:j=id
   · subst hj; rw [uH]; exact .inr ⟨b,vs',sp',hb,h1,by rw [h5]; exact h2,h3,h6⟩
   · rw [sT hj]; exact h.h.ent j
 · by_cases hst:t=s
   · subst hst; simpa [Cb,Bn,aN] using hd
   · have:=h.sl s
     simpa [Cb,Bn,Bp,aN,hst] using this
theorem Rel.opened {E:Env} {β:bC} {a:Act} (h:Rel O N S E β a) {id sz n:Nat} {e:Av} {ds:List D} (hS:S.get t = .osl id sz n) (he:S.ent id = .blk e ds) (hl:ds.length=n*sz) :
 (n=0∧Rel O N (S.set t .nils) E β a)∨∃ cap,n≤cap∧cap≤maxLen∧Rel O N ((S.setE id (.blk e (ds++AF ((cap-n)*sz) .dead))).set t (.rsl id sz 0 n cap)) E β a:=by
 have h1:=h.sl t
 rw [hS] at h1
 generalize hv:a.tmps.getD t undef=v at h1
 cases h1 with
 | nosl =>
   left
   refine ⟨rfl,h.n,h.nd,?_,fun s=>?_⟩
   · exact h.h
   · by_cases hst:t=s
     · subst hst; simp only [Cb,Bn,aN,if_true]; rw [hv]; exact .nils _
     · have:=h.sl s
       simpa [Cb,Bn,aN,hst] using this
 | osl _ _ b _ cap _ hb hc hsz c e' f hcap hcs hcm =>
   right
   refine ⟨cap,hc,hcm,h.turn he hb (fun vs sp hh hvs=>?_) ?_⟩
   · rw [hh] at hcap; cases hcap
     have hvl:=hvs.length
     have hle:(cap-n)*sz≤sp.length:=by
      simp only [Cl,AX,hvl,hl] at hcs
      have:cap*sz=n*sz+(cap-n)*sz:=by rw [←Bq]; congr 1; omega
      omega
     refine ⟨vs++sp.take ((cap-n)*sz),sp.drop ((cap-n)*sz),by rw [AH,AY],hvs.append ?_⟩
     have:=qX E β (sp.take ((cap-n)*sz))
     rwa [Bk,Cc hle] at this
   · rw [hv]; exact .rsl _ _ _ _ _ _ b 0 hb hc hsz ⟨fun _=>rfl,AO _⟩ c e' f hcap (by rw [Bi]; exact hcs) hcm
theorem Rel.closed {E:Env} {β:bC} {a:Act} (h:Rel O N S E β a) {id sz n cap:Nat} {e:Av} {ds j:List D} (hS:S.get t = .rsl id sz 0 n cap) (he:S.ent id = .blk e (ds++j)) (hl:ds.length=n*sz) :
 Rel O N ((S.setE id (.blk e ds)).set t (.osl id sz n)) E β a:=by
 have h1:=h.sl t
 rw [hS] at h1
 obtain ⟨b,p,c,e',f,hv,hb,hc,hsz,hp,hp',hcap,hcs,hcm⟩:=tT h1
 refine h.turn he hb (fun vs sp hh hvs=>?_) ?_
 · refine ⟨vs.take ds.length,vs.drop ds.length++sp,by rw [←AH,AY],?_⟩
   have:=hvs.take ds.length
   rwa [AQ (AO _),CC] at this
 · rw [hv]
   have:p=0:=by omega
   subst this
   exact .osl _ _ b n cap sz hb hc hsz c e' f hcap (by omega) hcm
theorem aCr {c:Code} (t:Nat) {id sz n:Nat} {e:Av} {ds:List D} (hS:S.get t = .osl id sz n) (he:S.ent id = .blk e ds) (hl:ds.length=n*sz) (h0:n=0→IWP P O N c (S.set t .nils) Q)
 (h1:∀ cap,n≤cap→cap≤maxLen→IWP P O N c ((S.setE id (.blk e (ds++AF ((cap-n)*sz) .dead))).set t (.rsl id sz 0 n cap)) Q):IWP P O N c S Q:=by
 intro E β a hr
 rcases hr.opened hS he hl with ⟨h2,h3⟩ | ⟨cap,h2,h3,h4⟩
 · exact h0 h2 E β a h3
 · exact h1 cap h2 h3 E β a h4
theorem yB {c:Code} (t:Nat) {id sz n cap:Nat} {e:Av} {ds j:List D} (hS:S.get t = .rsl id sz 0 n cap) (he:S.ent id = .blk e (ds++j)) (hl:ds.length=n*sz) (h:IWP P O N c ((S.setE id (.blk e ds)).set t (.osl id sz n)) Q):IWP P O N c S Q :=
 fun E β a hr=>h E β a (hr.closed hS he hl)
theorem aE6 {ops:Array Oper} {c:List Oper} (t:Nat) {id sz n cap:Nat} {e:Av} {ds j:List D} (hS:S.get t = .rsl id sz 0 n cap) (he:S.ent id = .blk e (ds++j)) (hl:ds.length=n*sz) (h:ILS P O N ops c ((S.setE id (.blk e ds)).set t (.osl id sz n)) Q):ILS P O N ops c S Q :=
 fun E β a hr=>h E β a (hr.closed hS he hl)
theorem aCB {T e:Av} {x:Ao} {id sz off len cap:Nat} {n:Int} (ho:o.op = .call { callee:=.builtin .cap,args:=#[x],argTypes:=#[T] }) (hd:o.dst=some t) (ht:t<N) (hu:P.underlying T=some (.slice e))
 (hx:SV S x (.rsl id sz off len cap)) (hn:(cap:Int)=n):IOp P O N o S (S.set t (.int .i64 n)) :=
 gZ hd ht fun E β a hr=>⟨.int .i64 n,by
  subst hn
  obtain ⟨b,p,c,e',f,hv,_⟩:=tT (hx.rd hr)
  simp [execOp,ho,resolve,invoke,builtin,Builtin.cap_,run_underlying hu,hv,goInt],.int _ _ _⟩
theorem aB7 {T e:Av} {x:Ao} {id sz off len cap:Nat} {n:Int} (ho:o.op = .call { callee:=.builtin .len,args:=#[x],argTypes:=#[T] }) (hd:o.dst=some t) (ht:t<N) (hu:P.underlying T=some (.slice e))
 (hx:SV S x (.rsl id sz off len cap)) (hn:(len:Int)=n):IOp P O N o S (S.set t (.int .i64 n)) :=
 gZ hd ht fun E β a hr=>⟨.int .i64 n,by
  subst hn
  obtain ⟨b,p,c,e',f,hv,_⟩:=tT (hx.rd hr)
  simp [execOp,ho,resolve,invoke,builtin,Builtin.len_,run_underlying hu,hv,goInt],.int _ _ _⟩
theorem aBr {E:Env} {β:bC} {a:Act} (hr:Rel O N S E β a) {len cap:Nat} {lo hi mx:Af Ao} {l h m:Int} (hlo:uQ S 0 lo l) (hhi:uQ S len hi h) (hmx:uQ S cap mx m) (hs:mx.isSome=true→hi.isSome=true) (h0:0≤l) (h1:l≤h) (h2:h≤m) (h3:m≤cap) :
 (Instr.sliceBounds true len cap (lo.map a.eval) (hi.map a.eval) (mx.map a.eval)).run P E.w = .ok (l.toNat,h.toNat,m.toNat) E.w:=by
 have e1:0≤h:=by omega
 have e0:0≤m:=by omega
 have e2:l≤(h.toNat:Int):=by omega
 have e3:h≤(m.toNat:Int):=by omega
 have m1:max h 0=h:=Int.max_eq_left e1
 have m2:max m 0=m:=Int.max_eq_left e0
 cases mx with
 | none =>
   have hmx:m=cap:=hmx
   subst hmx
   cases lo with
   | none =>
     have hlo:l=0:=hlo
     subst hlo
     cases hi with
     | none=>have hhi:h=len:=hhi; subst hhi; simp [Instr.sliceBounds]
     | some y=>obtain ⟨k,hy⟩:=hhi; simp [Instr.sliceBounds,Instr.sliceBound,jF (hy.rd hr),asIntOf,e1,h2]
   | some x =>
     obtain ⟨k,hx⟩:=hlo
     cases hi with
     | none=>have hhi:h=len:=hhi; subst hhi; simp [Instr.sliceBounds,Instr.sliceBound,jF (hx.rd hr),asIntOf,h0,h1]
     | some y=>obtain ⟨k',hy⟩:=hhi; simp [Instr.sliceBounds,Instr.sliceBound,jF (hx.rd hr),jF (hy.rd hr),asIntOf,h0,e1,e2,h2,m1,h1]
 | some z =>
   obtain ⟨kz,hz⟩:=hmx
   cases hi with
   | none=>exact AI (hs rfl) (by simp)
   | some y =>
     obtain ⟨k',hy⟩:=hhi
     cases lo with
     | none =>
       have hlo:l=0:=hlo
       subst hlo
       simp [Instr.sliceBounds,Instr.sliceBound,jF (hy.rd hr),jF (hz.rd hr),asIntOf,e0,e1,e3,h3,m2,h2]
     | some x =>
       obtain ⟨k,hx⟩:=hlo
       simp [Instr.sliceBounds,Instr.sliceBound,jF (hx.rd hr),jF (hy.rd hr),jF (hz.rd hr),asIntOf,h0,e0,e1,e2,e3,h3,m1,m2,h1,h2]
theorem iM {T e:Av} {x:Ao} {lo hi mx:Af Ao} {id sz off len cap:Nat} {l h m:Int} {z:Af AG} {bytes:Nat} {d:D} (ho:o.op = .slice T x lo hi mx) (hd:o.dst=some t) (ht:t<N) (hu:P.underlying T=some (.slice e)) (hi':TI P e z sz bytes)
 (hx:SV S x (.rsl id sz off len cap)) (hlo:uQ S 0 lo l) (hhi:uQ S len hi h) (hmx:uQ S cap mx m) (hs:mx.isSome=true→hi.isSome=true) (h0:0≤l) (h1:l≤h) (h2:h≤m) (h3:m≤cap)
 (hdd:D.rsl id sz (off+l.toNat*sz) (h.toNat-l.toNat) (m.toNat-l.toNat)=d):IOp P O N o S (S.set t d) :=
 gZ hd ht fun E β a hr=>by
  subst hdd
  obtain ⟨b,p,c,e',f,hv,hb,hlc,hsz,hp,hp',hcap,hcs,hcm⟩:=tT (hx.rd hr)
  have hbd:=aBr (P:=P) hr hlo hhi hmx hs h0 h1 h2 h3
  have hmc:m.toNat≤cap:=by omega
  have hlm:l.toNat≤m.toNat:=by omega
  have hfit:off+l.toNat*sz+(m.toNat-l.toNat)*sz≤c.size:=by
   have:l.toNat*sz+(m.toNat-l.toNat)*sz≤cap*sz:=by rw [←Bq]; exact AP _ (by omega)
   omega
  refine ⟨.slice (if m.toNat=l.toNat then some ⟨b,p,none⟩ else some ⟨b,p+l.toNat*sz,none⟩) (h.toNat-l.toNat) (m.toNat-l.toNat),?_,?_⟩
  · simp only [execOp,ho,hv,Instr.sliceAt,Instr.slice,Sem.run_bind,run_underlying hu,Result.andThen_ok,hbd,hi'.run_size,Sem.run_pure]
    split <;> simp [lF]
  · split
    · rename_i hml
      exact .rsl _ _ _ _ _ _ b p hb (by omega) hsz ⟨fun h=>by omega,by omega⟩ c e' f hcap hfit (by omega)
    · rename_i hml
      have hpo:=hp (by omega)
      exact .rsl _ _ _ _ _ _ b _ hb (by omega) hsz ⟨fun _=>by rw [hpo],by omega⟩ c e' f hcap hfit (by omega)
theorem aED {y:Ao} {id sz off len cap:Nat} {e:Av} {ds:List D} (hy:SV S y (.rsl id sz off len cap)) (he:S.ent id = .blk e ds) (hl:off+len*sz≤ds.length):∀ E β a,Rel O N S E β a→Src E β (a.eval y) len ((ds.drop off).take (len*sz)):=by
 intro E β a hr
 obtain ⟨b,p,c,e',f,hv,hb,hlc,hsz,hp,hp',hcap,hcs,hcm⟩:=tT (hy.rd hr)
 have hent:=hr.h.ent id
 rw [he] at hent
 obtain ⟨vs,sp,_,hh,_,hvs⟩:=pB hent hb
 by_cases h0:len=0
 · subst h0; exact .inl ⟨.inr ⟨_,_,hv⟩,rfl,by simp⟩
 · have hpo:=hp (by omega)
   subst hpo
   have hvl:=hvs.length
   refine .inr ⟨b,p,cap,(vs.drop p).take (len*sz),hv,fun j u hj=>?_,(hvs.drop p).take _⟩
   rw [lF,cell_of_row _ _ _ _ _ _ hh]
   rw [BW] at hj
   split at hj
   · rename_i hjl
     rw [En] at hj
     have hlt:=(Ag.1 hj).1
     simpa [AK hlt] using hj
   · cases hj
theorem aDQ {vs us sp:List AG} {off:Nat} (h:off+us.length≤vs.length):((vs++sp).take off++us++(vs++sp).drop (off+us.length))=(vs.take off++us++vs.drop (off+us.length))++sp:=by
 rw [AQ (by omega),Bl h]; simp
theorem aCe {E:Env} {β:bC} {a:Act} (hr:Rel O N S E β a) {id b off:Nat} {e:Av} {ds es:List D} {vs us sp:List AG} (he:S.ent id = .blk e ds) (hb:β id=some b) (hown:O.own b) (hh:E.w.heap[b]? = some (.cells (Cq (vs++sp)) e (0,0))) (hX:∀ o,E.X b o)
 (hl:RdL E β vs ds) (hc:RdL E β us es) (hn:off+es.length≤ds.length) :
 ∃ E':Env,E'.w=E.w.setRow b ((vs++sp).take off++us++(vs++sp).drop (off+us.length)).toArray∧E'.X=E.X∧E.le E'∧Rel O N (S.setE id (.blk e (gL ds off es))) E' β a:=by
 have hvl:=hl.length
 have hul:=hc.length
 have e1:=aDQ (sp:=sp) (show off+us.length≤vs.length by omega)
 let E':Env:=⟨E.w.setRow b ((vs++sp).take off++us++(vs++sp).drop (off+us.length)).toArray,E.X⟩
 have hs:Step O E E' b:=⟨rfl,rfl,rfl,by simp [E'],by simpa [E'] using cX hh,hown,fun k _ hk=>setRow_other _ _ _ _ hk,fun _ _ _=>DA,fun _ h=>by rw [hh] at h; cases h⟩
 have hle:E.le E':=hs.le (fun o v _ h2=>AI (hX o) h2) (fun c e' f h3=>by
  rw [hh] at h3; cases h3
  exact ⟨_,_,setRow_heap _ _ _ _ _ _ hh,by rw [e1]; simp; omega⟩)
 refine ⟨E',rfl,rfl,hle,hr.n,hr.nd.step hs,?_,fun s=>Ct hle (bC.le.refl _) (hr.sl s)⟩
 refine Da hr.h hs hle (bC.le.refl _) ?_ ?_ hb ?_ (fun _ _=>trivial)
 · intro j hj; left; exact ⟨by simp [BA,entL,Bp,aN,Ne.symm hj],rfl⟩
 · intro j hj hheld hbj
   have:(S.ent j).held=true:=by simpa [BA,entL,Bp,aN,Ne.symm hj] using hheld
   exact hj (hr.h.inj j id b this (by rw [he]; rfl) hbj hb)
 · simp only [BA,entL,Bp,aN,if_true]
   refine ⟨_,sp,by rw [←e1]; exact setRow_heap _ _ _ _ _ _ hh,hX,?_⟩
   rw [gL,←hul]
   exact AR hle (bC.le.refl _) (((hl.take off).append hc).append (hl.drop _))
theorem yR {es:List D} (h:es.all DZ=true) (k:Nat):(es.take k).all DZ=true:=by
 rw [Ba] at h ⊢
 exact fun x hx=>h x (Dn hx)
theorem aFX {T T2 e:Av} {x y:Ao} {id sz off len cap m:Nat} {e':Av} {ds es ds':List D} {z:Af AG} {bytes:Nat} {k:Int} (ho:o.op = .call { callee:=.builtin .copy,args:=#[x,y],argTypes:=#[T,T2] }) (hd:o.dst=some t) (ht:t<N)
 (hu:P.underlying T=some (.slice e)) (hi:TI P e z sz bytes) (he:S.ent id = .blk e' ds) (hy:∀ E β a,Rel O N S E β a→Src E β (a.eval y) m es) (hes:es.length=m*sz) (hone:(es.take (min m len*sz)).all DZ=true)
 (hfit:off+len*sz≤ds.length) (hk:((min m len:Nat):Int)=k) (hds:gL ds off (es.take (min m len*sz))=ds'):∀ E β a,Rel O N S E β a→Rd E β (a.eval x) (.rsl id sz off len cap)→∀ (next:Act→World→Prop) Q,(∀ E' β' a',Rel O N ((S.setE id (.blk e' ds')).set t (.int .i64 k)) E' β' a'→next a' E'.w)→o.wp P a E.w next Q:=by
 intro E β a hr hxr next Q hn
 subst hk hds
 obtain ⟨b,p,c,e'',f,hv,hb,hlc,hsz,hp,hp',hcap,hcs,hcm⟩:=tT hxr
 have hent:=hr.h.ent id
 rw [he] at hent
 obtain ⟨vs,sp,hown,hh,hX,hvs⟩:=pB hent hb
 obtain ⟨i,hi1,hi2,hi3,hi4⟩:=hi.at
 have hvl:=hvs.length
 have hrun0:∀ r,(Builtin.copy_ #[T,T2] o.type #[a.eval x,a.eval y]).run P E.w=r→(execOp a.eval o).run P E.w=r.andThen fun v w'=>.ok (.value v) w':=fun r hr'=>by
  simp [execOp,ho,resolve,invoke,builtin,hr']
 have key:∀ us:List AG,RdL E β us (es.take (min m len*sz))→(0<min m len→p=off)→(Builtin.copy_ #[T,T2] o.type #[a.eval x,a.eval y]).run P E.w = .ok (goInt ((min m len:Nat):Int)) (E.w.setRow b ((vs++sp).take p++us++(vs++sp).drop (p+us.length)).toArray) →
  o.wp P a E.w next Q:=by
  intro us hus hpo hra
  unfold Oper.wp
  rw [hrun0 _ hra]
  have hul:=hus.length
  rw [Bk,hes] at hul
  have hmin:min (min m len*sz) (m*sz)=min m len*sz:=Cc (AP _ (Nat.min_le_left _ _))
  rw [hmin] at hul
  have hle2:min m len*sz≤len*sz:=AP _ (FM _ _)
  have hlt:(es.take (min m len*sz)).length=min m len*sz:=by rw [Bk,hes,hmin]
  have heq:E.w.setRow b ((vs++sp).take p++us++(vs++sp).drop (p+us.length)).toArray=E.w.setRow b ((vs++sp).take off++us++(vs++sp).drop (off+us.length)).toArray:=by
   by_cases h0:0<min m len
   · rw [hpo h0]
   · have:us=[]:=Bf.1 (by rw [hul,show min m len=0 by omega,CL])
     subst this
     simp
  rw [heq]
  obtain ⟨E',h1,h2,h3,h4⟩:=aCe hr he hb hown hh hX hvs hus (off:=off) (by rw [hlt]; omega)
  simp only [Result.andThen_ok,Oper.upon,hd]
  rw [←h1]
  have:=h4.set ht (v:=goInt ((min m len:Nat):Int)) (d:=.int .i64 ((min m len:Nat):Int)) (by unfold goInt; exact .int _ _ _)
  exact hn E' β _ this
 have none_:m=0∨len=0→∀ yo sc,a.eval y = .slice yo m sc→o.wp P a E.w next Q:=by
  intro h0 yo sc hyv
  have hm0:min m len=0:=by omega
  refine key [] (by rw [hm0,CL]; exact .nil _) (fun h=>by omega) ?_
  have e1:E.w.setRow b ((vs++sp).take p++[]++(vs++sp).drop (p+([]:List AG).length)).toArray=E.w:=by
   simp only [AW,Cf,Cw,AY]
   exact setRow_self _ _ _ _ _ hh
  rw [e1,hm0,hv,hyv]
  have hl0:∀ q:Addr,(loadCells q 0).run P E.w = .ok #[] E.w:=fun q=>by simpa using run_loadCells_list (P:=P) E.w q [] (by simp)
  have hmn:Nat.min m len=0:=hm0
  cases yo <;> simp [Builtin.copy_,run_underlying hu,Builtin.lenOf,Builtin.firstCells,hi.run_size,hmn,storeCells,hl0]
 rcases hy E β a hr with ⟨hyv,hm0,he0⟩ | ⟨yb,yoff,ycap,us,hyv,hyr,hus⟩
 · subst hm0
   rcases hyv with hyv | ⟨ad,sc,hyv⟩
   · exact none_ (.inl rfl) _ _ hyv
   · exact none_ (.inl rfl) _ _ hyv
 · by_cases h0:m=0∨len=0
   · exact none_ h0 _ _ hyv
   · have hmin:min m len*sz≤m*sz:=AP _ (Nat.min_le_left _ _)
     have hle2:min m len*sz≤len*sz:=AP _ (FM _ _)
     have hul:us.length=m*sz:=by rw [hus.length,hes]
     have hpo:=hp (by omega)
     have hus':=hus.take (min m len*sz)
     have hlt:(us.take (min m len*sz)).length=min m len*sz:=by rw [Bk,hul]; omega
     refine key _ hus' (fun _=>hpo) ?_
     have hl:=run_loadCells_list (P:=P) E.w ⟨yb,yoff,none⟩ (us.take (min m len*sz)) (fun j u hj=>by
      rw [BW] at hj
      split at hj
      · exact hyr j u hj
      · cases hj)
     have hst:=run_storeCells_at P b p e' (us.take (min m len*sz)) 0 (vs++sp).toArray E.w hh (by simp; omega) (xG hus' hone)
     simp only [Cw] at hst
     rw [hv,hyv]
     have hmm:Nat.min m len=min m len:=rfl
     rw [hlt] at hl hst ⊢
     simp [Builtin.copy_,run_underlying hu,Builtin.lenOf,Builtin.firstCells,hi.run_size,hmm,hl,hst]
theorem qH {T T2 e:Av} {x y:Ao} {id sz off len cap m:Nat} {e':Av} {ds es ds':List D} {z:Af AG} {bytes:Nat} {k:Int} (ho:o.op = .call { callee:=.builtin .copy,args:=#[x,y],argTypes:=#[T,T2] }) (hd:o.dst=some t) (ht:t<N)
 (hu:P.underlying T=some (.slice e)) (hi:TI P e z sz bytes) (hx:SV S x (.rsl id sz off len cap)) (he:S.ent id = .blk e' ds) (hy:∀ E β a,Rel O N S E β a→Src E β (a.eval y) m es) (hes:es.length=m*sz) (hone:(es.take (min m len*sz)).all DZ=true)
 (hfit:off+len*sz≤ds.length) (hk:((min m len:Nat):Int)=k) (hds:gL ds off (es.take (min m len*sz))=ds'):IOp P O N o S ((S.setE id (.blk e' ds')).set t (.int .i64 k)) :=
 fun E β a hr next Q hn=>aFX ho hd ht hu hi he hy hes hone hfit hk hds E β a hr (hx.rd hr) next Q hn
end
end Go.IL
open _root_.Array renaming getD_eq_getD_getElem? → BF,getElem?_eq_some_iff → Cr,getElem?_setIfInBounds_ne → Bg,getElem?_setIfInBounds_self → BV,length_toList → Fg,size_append → DM
open Go renaming FuncId → BZ
open Go.IL.D renaming flat → Ad
open List renaming getElem?_cons_zero → CX,getElem?_eq_getElem → AL,getElem?_toArray → Cy,length_pos_iff → Fe,length_replicate → Cm,mem_map → Am
open Nat renaming lt_irrefl → BO
open Option renaming getD_some → CI
open _root_ renaming if_pos → Ay
open Go.RowKit (Below)
namespace Go.IL
section
variable {P:Bc} {O:bK} {N:Nat} {S S':St} {o:Oper} {t:Nat} {Q:Exit→St→Prop}
theorem aBU {T tn e:Av} {x y:Ao} {z:AG} {id sz l cap k bytes:Nat} {ki kn:IntKind} {n:Int} {ds:List D} (id':Nat)
 (ho:o.op = .call { callee:=.builtin .append,args:=#[x,y],argTypes:=#[T,tn] }) (hd:o.dst=some t) (ht:t<N)
 (hu:P.underlying T=some (.slice e)) (htn:P.underlying tn=some (.int kn)) (hi:TI P e (some z) sz bytes) (hz:z.cells.size=sz)
 (hx:SV S x (.rsl id sz 0 l cap)) (he:S.ent id = .blk e ds) (hfr:S.ent id' = .fresh) (hy:SV S y (.int ki n)) (hn:n=(k:Int)) (hk:0<k) (hl:l*sz≤ds.length)
 (hg:cap<l+k) (hm:l+k≤maxLen) (hb:(l+k)*bytes≤140737488355328) :
 IOp P O N o S ((S.setE id' (.blk e (ds.take (l*sz)++AF (k*sz) .dead))).set t (.osl id' sz (l+k))):=by
 intro E β a hr next Q hnx
 subst hn
 obtain ⟨b,p,c,e'',f,hv,hb',hlc,hsz,hp,hp',hcap,hcs,hcm⟩:=tT (hx.rd hr)
 have hp0:p=0:=by omega
 subst hp0
 have hent:=hr.h.ent id
 rw [he] at hent
 obtain ⟨vs,sp,hown,hh,hX,hvs⟩:=pB hent hb'
 obtain ⟨i,hi1,hi2,hi3,hi4⟩:=hi.at
 have hvl:=hvs.length
 have hfre:β id'=none:=by have:=hr.h.ent id'; rw [hfr] at this; exact this
 have hold:(Builtin.firstCells i.size l (.slice (some ⟨b,0,none⟩) l cap)).run P E.w.drew = .ok (vs.take (l*sz)).toArray E.w.drew:=by
  refine run_firstCells_some (P:=P) E.w.drew i.size l ⟨b,0,none⟩ l cap (vs.take (l*sz)) (by rw [Bk,hi3]; omega) fun j u hj=>?_
  rw [lF,Bi]
  have h1:E.w.drew.cell? ⟨b,j,none⟩=E.w.cell? ⟨b,j,none⟩:=rfl
  rw [h1,cell_of_row _ _ _ _ _ _ hh]
  rw [BW] at hj
  split at hj
  · have hlt:=(Ag.1 hj).1
    simpa [AK hlt] using hj
  · cases hj
 have hkb:k*i.bytes≤281474976710656:=by
  have:k*i.bytes≤(l+k)*i.bytes:=AP _ (by omega)
  rw [hi4] at this ⊢; omega
 have hra:=Go.Lib.run_append_grow_zeros (P:=P) E.w T tn o.type e i z ki kn hu htn hi1 hi2 (some ⟨b,0,none⟩) l cap (vs.take (l*sz)) hold k hk (by rw [hi3]; exact hsz) hg (by simp [maxLen] at hm; omega) hkb (growslice_fits (by omega) (by rw [hi4]; exact hb))
 have hyv:=jF (hy.rd hr)
 have hrun:(execOp a.eval o).run P E.w=((Builtin.append_ #[T,tn] o.type #[a.eval x,a.eval y]).run P E.w).andThen fun v w'=>.ok (.value v) w':=by
  simp [execOp,ho,resolve,invoke,builtin]
 unfold Oper.wp
 rw [hrun,hv,hyv,hra]
 simp only [Result.andThen_ok,Oper.upon,hd]
 let C:Array AG:=(vs.take (l*sz)).toArray++Builtin.zeroCells z.cells k++Builtin.zeroCells z.cells (grownCap E.w (l+k) cap e-(l+k))
 let E':Env:=⟨E.w.drew.alloc (.cells C e),fun b o=>b=E.w.heap.size∨E.X b o⟩
 let β':bC:=fun j=>if j=id' then some E.w.heap.size else β j
 have hβ:β.le β':=fun j b hj=>by
  by_cases hji:j=id'
  · subst hji; rw [hfre] at hj; cases hj
  · simp [β',hji,hj]
 have hs:Step O E E' E.w.heap.size :=
  ⟨rfl,rfl,rfl,by simp [E'],by simp [E'],.inl hr.h.size,fun k hk _=>heap_alloc_old E.w.drew _ hk,fun k o hk=>by simp [E',hk],fun _ h=>BO _ (cX h)⟩
 have hle:E.le E':=hs.le (fun o v h1 _=>by have:=World.block_lt_of_cell? _ _ h1; simp at this) (fun c e f h1=>by have:=cX h1; simp at this)
 have hnew:E'.w.heap[E.w.heap.size]? = some (.cells C e (0,0)):=heap_alloc_new E.w.drew _
 have hts:t<a.tmps.size:=hr.n ▸ ht
 refine hnx E' β' _ ⟨by simp [Act.put,hr.n],hr.nd.step hs,?_,fun s=>?_⟩
 · refine Da hr.h hs hle hβ ?_ ?_ (id:=id') (by simp [β']) ?_ (fun _ _=>trivial)
   · intro j hj; left; constructor
     · simp [BA,entL,Bp,Bn,aN,Ne.symm hj]
     · simp [β',hj]
   · intro j hj hheld hbj
     have:(S.ent j).held=true:=by simpa [BA,entL,Bp,Bn,aN,Ne.symm hj] using hheld
     have:=hr.h.held_lt this hbj
     omega
   · simp only [BA,entL,Bp,Bn,aN,if_true]
     refine ⟨vs.take (l*sz)++(Builtin.zeroCells z.cells k).toList,(Builtin.zeroCells z.cells (grownCap E.w (l+k) cap e-(l+k))).toList,by rw [hnew]; simp [C],fun o=>.inl rfl,(AR hle hβ (hvs.take _)).append ?_⟩
     have:=qX E' β' (Builtin.zeroCells z.cells k).toList
     rwa [show (Builtin.zeroCells z.cells k).toList.length=k*sz by rw [Fg,size_zeroCells,hz]] at this
 · by_cases hst:t=s
   · subst hst
     simp only [Act.put,Cb,Bn,aN,if_true,BF,BV,hts,CI]
     refine .osl _ _ E.w.heap.size _ (grownCap E.w (l+k) cap e) sz (by simp [β']) (grownCap_ge _ _ _ _) hsz _ _ _ hnew ?_ (grownCap_le_maxLen _ _ _ _ hm)
     have h1:=grownCap_ge E.w (l+k) cap e
     simp only [C,DM,Cl,size_zeroCells,hz,Bk]
     rw [Cc (by omega),←Bq,←Bq]
     exact AP _ (by omega)
   · have:=Ct hle hβ (hr.sl s)
     simpa [Act.put,Cb,Bn,Bp,aN,hst,Bg] using this
theorem aAo {T e:Av} {x:Ao} {z:AG} {id sz off len cap bytes:Nat} {e':Av} {ds ds':List D} (ho:o.op = .call { callee:=.builtin .clear,args:=#[x],argTypes:=#[T] }) (hd:o.dst=none)
 (hu:P.underlying T=some (.slice e)) (hi:TI P e (some z) sz bytes) (hz:z.cells.size=sz) (hz1:z.cells.toList.all Value.oneCell'=true) (hx:SV S x (.rsl id sz off len cap)) (he:S.ent id = .blk e' ds) (hfit:off+len*sz≤ds.length)
 (hds:gL ds off (AF (len*sz) .dead)=ds'):IOp P O N o S (S.setE id (.blk e' ds')):=by
 intro E β a hr next Q hn
 subst hds
 obtain ⟨b,p,c,e'',f,hv,hb,hlc,hsz,hp,hp',hcap,hcs,hcm⟩:=tT (hx.rd hr)
 have hent:=hr.h.ent id
 rw [he] at hent
 obtain ⟨vs,sp,hown,hh,hX,hvs⟩:=pB hent hb
 obtain ⟨i,hi1,hi2,hi3,hi4⟩:=hi.at
 have hvl:=hvs.length
 have hrun0:∀ r,(Builtin.clear_ #[T] o.type #[a.eval x]).run P E.w=r→(execOp a.eval o).run P E.w=r.andThen fun v w'=>.ok (.value v) w':=fun r hr'=>by
  simp [execOp,ho,resolve,invoke,builtin,hr']
 have key:∀ us:List AG,us.length=len*sz→(Builtin.clear_ #[T] o.type #[a.eval x]).run P E.w = .ok (.tuple #[]) (E.w.setRow b ((vs++sp).take off++us++(vs++sp).drop (off+us.length)).toArray)→o.wp P a E.w next Q:=by
  intro us hul hra
  unfold Oper.wp
  rw [hrun0 _ hra]
  have hus:=qX E β us
  rw [hul] at hus
  obtain ⟨E',h1,h2,h3,h4⟩:=aCe hr he hb hown hh hX hvs hus (off:=off) (by rw [Cm]; exact hfit)
  simp only [Result.andThen_ok,Oper.upon,hd,Act.put]
  rw [←h1]
  exact hn E' β _ h4
 by_cases h0:len=0
 · subst h0
   refine key [] (by simp) ?_
   have e1:E.w.setRow b ((vs++sp).take off++[]++(vs++sp).drop (off+([]:List AG).length)).toArray=E.w:=by
    simp only [AW,Cf,Cw,AY]
    exact setRow_self _ _ _ _ _ hh
   rw [e1,hv]
   simp [Builtin.clear_,run_underlying hu]
 · have hpo:=hp (by omega)
   have hl:(Builtin.zeroCells z.cells len).toList.length=len*sz:=by rw [Fg,size_zeroCells,hz]
   refine key (Builtin.zeroCells z.cells len).toList hl ?_
   have hone:∀ v∈(Builtin.zeroCells z.cells len).toList,v.oneCell'=true:=by
    intro v hv
    rw [Ba] at hz1
    simp only [Builtin.zeroCells,Array.toList_map,Am] at hv
    obtain ⟨j,_,rfl⟩:=hv
    have hlt:j % z.cells.size<z.cells.size:=Nat.mod_lt _ (by rw [hz]; exact hsz)
    rw [getElem!_pos z.cells (j % z.cells.size) hlt]
    exact hz1 _ (by simp)
   have hst:=run_storeCells_at P b p e' (Builtin.zeroCells z.cells len).toList 0 (vs++sp).toArray E.w hh (by rw [hl]; simp; omega) hone
   simp only [Cw] at hst
   rw [hv]
   subst hpo
   cases len with
   | zero=>exact AI rfl h0
   | succ len=>simp [Builtin.clear_,run_underlying hu,zeroValue,typeInfo,hi1,hi2,hst]
theorem aCA {f:BZ} {g:Array AG→Sem AG} {xs:List Ao} {ts:Array Av} {d:D} (ho:o.op = .call { callee:=.value (.func f),args:=xs.toArray,argTypes:=ts }) (hd:o.dst=some t) (ht:t<N)
 (hc:aA2 P f g) (hg:∀ (E:Env) β a,Rel O N S E β a→∃ v,(g (xs.map a.eval).toArray).run P E.w = .ok v E.w∧Rd E β v d):IOp P O N o S (S.set t d) :=
 gZ hd ht fun E β a hr=>by
  obtain ⟨fn,h1,h2,h3,h4,h5⟩:=hc
  obtain ⟨v,hv,hrd⟩:=hg E β a hr
  exact ⟨v,by simp [execOp,ho,resolve,Deferred.ofValue,Act.eval,invoke,run_callFunc_extern h1 h2 h3 h4 h5,hv,Result.andThen],hrd⟩
theorem aBR {f:BZ} {T tr e:Av} {x y:Ao} {ts:Array Av} {l:List D} {full:Bool} {id sz off len cap:Nat} {e':Av} {ds:List D} {z:Af AG} {bytes:Nat} (ho:o.op = .call { callee:=.value (.func f),args:=#[x,y],argTypes:=ts }) (hd:o.dst=some t) (ht:t<N)
 (hc:aA2 P f (Extern.SlicesOverlaps.overlaps #[T,T] #[tr])) (hu:P.underlying T=some (.slice e)) (hi:TI P e z sz bytes) (hx:SV S x (.slice full l)) (hne:l≠[]) (hy:SV S y (.rsl id sz off len cap)) (he:S.ent id = .blk e' ds) (hlen:ds≠[]):IOp P O N o S (S.set t (.bool false)):=by
 refine aCA (xs:=[x,y]) ho hd ht hc fun E β a hr=>?_
 obtain ⟨b,p,c,e'',f',hv,hb,hlc,hsz,hp,hp',hcap,hcs,hcm⟩:=tT (hy.rd hr)
 have hent:=hr.h.ent id
 rw [he] at hent
 obtain ⟨vs,sp,hown,hh,hX,hvs⟩:=pB hent hb
 refine ⟨.bool false,?_,.bool _ _⟩
 show (Extern.SlicesOverlaps.overlaps #[T,T] #[tr] #[a.eval x,a.eval y]).run P E.w = .ok (.bool false) E.w
 · skip
   rcases qD (hx.rd hr) with ⟨hev,rfl⟩ | ⟨yb,yoff,ycap,ysz,us,hev,hyc,_,hyz,hysp,hyrow,hus⟩ | ⟨ad,ycap,hev,rfl⟩
   · exact AI rfl hne
   rotate_left
   · exact AI rfl hne
   · -- a cell of the list
     have hpos:0<us.length:=by
      rw [hus.length]
      obtain ⟨d,r,rfl⟩:=List.exists_cons_of_ne_nil hne
      have:=hyz d (by simp)
      simp [Ad,this]; omega
     have hcell:=hyrow 0 us[0] (AL hpos)
     rw [Cw] at hcell
     have hbne:yb≠b:=by rintro rfl; exact hcell.2 (hX _)
     have hybk:∃ cs te fe,E.w.heap[yb]? = some (.cells cs te fe)∧0<cs.size:=by
      have h6:=hcell.1
      unfold World.cell? at h6
      simp only at h6
      split at h6
      · rename_i cs te fe hhb
        refine ⟨cs,te,fe,hhb,?_⟩
        have h7:cs[yoff]? = some us[0]:=by simpa using h6
        have:=(Cr.1 h7).1
        omega
      · cases h6
     obtain ⟨cs,te,fe,hyh,hys⟩:=hybk
     rw [hev,hv]
     have g1:(yb != b)=true:=by simpa using hbne
     have g2:(yb == b)=false:=by simpa using hbne
     have f1:E.w.frozen? ⟨b,p,none⟩=false:=by simp [World.frozen?,hh]
     have f2:E.w.frozen? ⟨b,(vs++sp).length,none⟩=false:=by simp [World.frozen?,hh]
     have s1:E.w.shape? b=some (e',(vs++sp).length):=by simp [World.shape?,hh]
     have s2:E.w.shape? yb=some (te,cs.size):=by simp [World.shape?,hyh]
     change Sem.run P (α:=AG) (do
      let some t := (#[T, T] : Array Av)[0]? | stuck "slices.overlaps: no parameter types"
      let .slice elem ← underlying t | stuck "slices.overlaps: slice type expected"
      let size ←sizeOf elem
      match (some (⟨yb,yoff,none⟩:Addr):Af Addr),(some (⟨b,p,none⟩:Addr):Af Addr) with
      | some a,some b =>
        if l.length=0∨len=0∨size=0 then pure (Value.bool false)
        else if a.block != b.block&&(←frozen a)&&(←frozen b) then unsupported .addressObserved
        else do
         if a.block != b.block then do
          noView a; noView b
          if ← mayBeOne a b then return Value.bool ((← choose (.extern "sameAddr.stringBytes" 2)) == 1)
         pure (Value.bool (a.block == b.block&&a.off<b.off+len*size&&b.off<a.off+l.length*size))
      | _,_=>pure (Value.bool false)) E.w=_
     by_cases h0:l.length=0∨len=0∨sz=0
     · simp only [Sem.run_bind,Cy,run_underlying hu,Result.andThen_ok,hi.run_size,CX]
       rw [Ay h0]; rfl
     · obtain ⟨q,hq⟩:∃ q,cs.size=q+1:=⟨cs.size-1,by omega⟩
       rw [hq] at s2
       obtain ⟨u,hu1⟩:∃ u,(vs++sp).length=u+1:=⟨(vs++sp).length-1,by
        have:=hvs.length
        have h8:0<ds.length:=Fe.2 hlen
        simp; omega⟩
       rw [hu1] at s1 f2
       cases hfz:E.w.frozen? ⟨yb,yoff,none⟩ <;> cases hfe:E.w.frozen? ⟨yb,q+1,none⟩ <;>
       simp [run_underlying hu,hi.run_size,h0,g1,g2,frozen,noView,viewAt,mayBeOne,stringish,shape,Sem.run,s1,s2,f1,f2,hfz,hfe]
end
end Go.IL
open Go.IntKind renaming wrap → Al
open List renaming drop_length → FN,drop_of_length_le → BU,nil_append → BM,take_of_length_le → BT
open Go.RowKit (Below)
namespace Go.IL
def insS {α:Type} (b:Nat) (l:List α) (i:Int) (vs:List α):Af (List α) :=
 if 0≤i∧i≤(l.length:Int)∧l.length+vs.length≤9223372036854775807∧(l.length+vs.length)*b≤140737488355328 then some (l.take i.toNat++vs++l.drop i.toNat) else none
theorem insS_e {α:Type} {b:Nat} {l vs r:List α} {i:Int} (h:insS b l i vs=some r):∃ k:Nat,i=(k:Int)∧k≤l.length∧l.length+vs.length≤maxLen∧(l.length+vs.length)*b≤140737488355328∧l.take k++vs++l.drop k=r:=by
 unfold insS at h
 split at h
 · rename_i hh
   obtain ⟨h1,h2,h3,h4⟩:=hh
   exact ⟨i.toNat,by omega,by omega,by unfold maxLen; omega,h4,Option.some.inj h⟩
 · cases h
theorem insS_ok {α:Type} {b:Nat} {l vs:List α} {i:Int} (h0:0≤i) (h1:i≤(l.length:Int)) (h2:l.length+vs.length≤9223372036854775807) (h3:(l.length+vs.length)*b≤140737488355328):insS b l i vs=some (l.take i.toNat++vs++l.drop i.toNat):=Ay ⟨h0,h1,h2,h3⟩
section
variable {α:Type} (f:Enc0 α)
theorem Enc0.flat_take (l:List α) (k:Nat):(Ad (l.map f.d)).take (k*f.sz)=Ad ((l.take k).map f.d):=by
 by_cases hk:k≤l.length
 · have h1:=f.flat_append (l.take k) (l.drop k)
   rw [AY] at h1
   have h2:(Ad ((l.take k).map f.d)).length=k*f.sz:=by rw [f.flat_len,Bk,Cc hk]
   rw [←h1,AQ (by rw [h2]; exact AO _),←h2,CC]
 · rw [BT (l:=l) (by omega),BT (by rw [f.flat_len]; exact AP _ (by omega))]
theorem Enc0.flat_drop (l:List α) (k:Nat):(Ad (l.map f.d)).drop (k*f.sz)=Ad ((l.drop k).map f.d):=by
 by_cases hk:k≤l.length
 · have h1:=f.flat_append (l.take k) (l.drop k)
   rw [AY] at h1
   have h2:(Ad ((l.take k).map f.d)).length=k*f.sz:=by rw [f.flat_len,Bk,Cc hk]
   rw [←h1,←h2,Bl (AO _),FN,BM]
 · rw [BU (l:=l) (by omega),BU (by rw [f.flat_len]; exact AP _ (by omega))]; rfl
end
theorem rO {A B C D':List D} {off:Nat} (h:A.length=off) (hl:B.length=C.length):gL (A++B++D') off C=A++C++D':=by
 subst h
 unfold gL
 have e1:(A++B++D').take A.length=A:=by rw [AH,AQ (AO _),CC]
 have e2:(A++B++D').drop (A.length+C.length)=D':=by
  rw [←hl,←AX,Bl (AO _),FN,BM]
 rw [e1,e2]
theorem aE4 {X Y V J:List D} {a m:Nat} (ha:X.length=a) (hv:V.length=m) (hj:m≤J.length) :
 gL (gL (X++Y++J) (a+m) Y) a V=X++V++Y++J.drop m:=by
 -- first the tail goes up
 have e1:∃ U W,X++Y++J=(X++U)++W++J.drop m∧U.length=m∧W.length=Y.length:=by
  have hUW:=AY m (Y++J.take m)
  have h1:X++Y++J=X++(Y++J.take m)++J.drop m:=by rw [AH X (Y++_),AH Y,AY,AH]
  refine ⟨(Y++J.take m).take m,(Y++J.take m).drop m,?_,by simp; omega,by simp; omega⟩
  rw [h1,AH X (List.take m (Y++List.take m J)),hUW]
 obtain ⟨U,W,e1,e2,e3⟩:=e1
 rw [e1,rO (by simp [ha,e2]) e3]
 have e4:X++U++Y++J.drop m=X++U++(Y++J.drop m):=by rw [AH (X++U)]
 rw [e4,rO ha (by rw [e2,hv]),AH (X++V)]
theorem ins_new {X V Y Z J:List D} {a m:Nat} (ha:X.length=a) (hv:V.length=m) (hz:Z.length=m+Y.length) :
 gL (gL (X++Z++J) a V) (a+m) Y=X++V++Y++J:=by
 have e1:X++Z++J=X++Z.take m++(Z.drop m++J):=by
  rw [AH X,AH X (Z.take m),←AH (Z.take m),AY]
 rw [e1,rO ha (by simp; omega)]
 have e2:X++V++(Z.drop m++J)=X++V++Z.drop m++J:=by rw [AH (X++V)]
 rw [e2,rO (by simp [ha,hv]) (by simp; omega)]
theorem yZ {l c:List D} {o:Nat} (h:o+c.length≤l.length):(gL l o c).length=l.length:=by unfold gL; simp; omega
theorem wN {a b:Nat} (h:a+b≤maxLen):Al .i64 ((a:Int)+(b:Int))=((a+b:Nat):Int):=by
 unfold maxLen at h; rw [aGt (by omega) (by omega)]; omega
theorem wS {a b:Nat} (h:b≤a) (h1:a≤maxLen):Al .i64 ((a:Int)-(b:Int))=((a-b:Nat):Int):=by
 unfold maxLen at h1; rw [aGt (by omega) (by omega)]; omega
end Go.IL
open Int renaming le_refl → DP
open List renaming length_drop → BQ
open Nat renaming le_add_right → CZ
open Option renaming map_none → Eg,map_some → DH
open Go.RowKit (Below)
namespace Go.IL
section
variable {P:Bc} {O:bK} {N:Nat} {S S':St} {o:Oper} {t:Nat} {Q:Exit→St→Prop}
theorem Rel.same {E:Env} {β:bC} {a:Act} (h:Rel O N S E β a) (h1:∀ s,S'.get s=S.get s) (h2:∀ j,S'.ent j=S.ent j):Rel O N S' E β a:=by
 have h3:S'.ent=S.ent:=funext h2
 exact ⟨h.n,h.nd,h3 ▸ h.h,fun s=>(h1 s).symm ▸ h.sl s⟩
theorem Rel.kill {E:Env} {β:bC} {a:Act} (h:Rel O N S E β a) (t:Nat):Rel O N (S.set t .dead) E β a:=by
 refine ⟨h.n,h.nd,h.h,fun s=>?_⟩
 by_cases hst:t=s
 · subst hst; simp only [Cb,Bn,aN,if_true]; exact .dead _ _
 · have:=h.sl s
   simpa [Cb,Bn,aN,hst] using this
theorem aAv {S:St} {id:Nat} {e:Ent}:(S.setE id e).ent id=e:=by simp [BA,entL,Bp,aN]
theorem yN {S:St} {id j:Nat} {e:Ent} (h:j≠id):(S.setE id e).ent j=S.ent j:=by simp [BA,entL,Bp,aN,Ne.symm h]
theorem Rel.shrunk {E:Env} {β:bC} {a:Act} (h:Rel O N S E β a) {id:Nat} {e:Av} {ds ds' j:List D} (he:S.ent id = .blk e ds) (hd:ds=ds'++j):Rel O N (S.setE id (.blk e ds')) E β a:=by
 subst hd
 have hent:=h.h.ent id
 rw [he] at hent
 have held:∀ j,((S.setE id (.blk e ds')).ent j).held=(S.ent j).held:=fun j=>by
  by_cases hj:j=id
  · subst hj; rw [aAv,he]; rfl
  · rw [yN hj]
 refine ⟨h.n,h.nd,{ h.h with ent:=fun k=>?_,inj:=fun i j k hi hj=>h.h.inj i j k (held i ▸ hi) (held j ▸ hj) },h.sl⟩
 by_cases hk:k=id
 · subst hk
   rw [aAv]
   rcases hent with ⟨h1,h2⟩ | ⟨b,vs,sp,h1,h2,h3,h4,h5⟩
   · exact .inl ⟨h1,(List.append_eq_nil_iff.1 h2).1⟩
   · refine .inr ⟨b,vs.take ds'.length,vs.drop ds'.length++sp,h1,h2,by rw [←AH,AY]; exact h3,h4,?_⟩
     have:=h5.take ds'.length
     rwa [AQ (AO _),CC] at this
 · rw [yN hk]; exact h.h.ent k
theorem aDq {α:Type} (f:Enc0 α) (l:List α) (k:Nat):Ad (l.map f.d)=Ad ((l.take k).map f.d)++Ad ((l.drop k).map f.d):=by
 rw [f.flat_append,AY]
theorem zU {α:Type} (f:Enc0 α) {T e e':Av} {x y:Ao} {z:Af AG} {bytes id n:Nat} {l r:List α} {k:IntKind} {h:Int} (ho:o.op = .slice T x none (some y) none) (hd:o.dst=some t) (ht:t<N)
 (hu:P.underlying T=some (.slice e)) (hi:TI P e z f.sz bytes) (hx:SV S x (.osl id f.sz n)) (he:S.ent id = .blk e' (Ad (l.map f.d))) (hn:l.length≤n) (hy:SV S y (.int k h)) (hc:cut l 0 h=some r) :
 IOp P O N o S ((S.setE id (.blk e' (Ad (r.map f.d)))).set t (.osl id f.sz r.length)):=by
 obtain ⟨⟨_,h0,h1⟩,hr'⟩:=aGe hc
 have hr2:l.take h.toNat=r:=by simpa using hr'
 have hrl:r.length=h.toNat:=by rw [←hr2,Bk]; omega
 have key:IOp P O N o S (S.set t (.osl id f.sz r.length)):=gZ hd ht fun E β a hr=>by
  have hhi:uQ S (n:Int) (some y) h:=⟨_,hy⟩
  have hlo:uQ S 0 none 0:=rfl
  have h1:=hx.rd hr
  generalize hv:a.eval x=v at h1
  cases h1 with
  | nosl =>
    have hb:=qM (P:=P) hr (isS:=true) hlo hhi (DP 0) h0 (by omega) (AO _)
    have e1:h.toNat=0:=by omega
    refine ⟨.slice none 0 0,?_,by rw [hrl,e1]; exact .nosl _ _ _⟩
    simp only [Eg,DH] at hb
    simp [execOp,ho,hv,Instr.sliceAt,Instr.slice,run_underlying hu,hb,hi.run_size,e1]
  | osl _ _ b _ cap _ hb' hc' hsz c e2 f2 hcap hcs hcm =>
    have hb:=qM (P:=P) hr (isS:=true) hlo hhi (DP 0) h0 (by omega) hc'
    simp only [Eg,DH] at hb
    refine ⟨.slice (some ⟨b,0,none⟩) h.toNat cap,?_,by rw [hrl]; exact .osl _ _ b _ cap _ hb' (by omega) hsz c e2 f2 hcap hcs hcm⟩
    simp [execOp,ho,hv,Instr.sliceAt,Instr.slice,run_underlying hu,hb,hi.run_size,Addr.add]
 intro E β a hr next Q hn'
 refine key E β a hr next Q fun E' β' a' hr'=>hn' E' β' a' ?_
 exact hr'.shrunk (ds':=Ad (r.map f.d)) (j:=Ad ((l.drop h.toNat).map f.d)) he (by rw [←hr2]; exact aDq f l _)
theorem zB {T e:Av} {x y:Ao} {z:Af AG} {size bytes:Nat} {k:IntKind} (ho:o.op = .slice T x (some y) none none) (hd:o.dst=some t) (ht:t<N)
 (hu:P.underlying T=some (.slice e)) (hi:TI P e z size bytes) (hx:SV S x .nils) (hy:SV S y (.int k 0)):IOp P O N o S (S.set t .nils) :=
 gZ hd ht fun E β a hr=>by
  have h1:=hx.rd hr
  generalize hv:a.eval x=v at h1
  cases h1
  refine ⟨.slice none 0 0,?_,.nils _⟩
  simp [execOp,ho,hv,Instr.sliceAt,Instr.slice,run_underlying hu,hi.run_size,Instr.sliceBounds,Instr.sliceBound,jF (hy.rd hr),asIntOf]
theorem zC {T e:Av} {x:Ao} (ho:o.op = .call { callee:=.builtin .clear,args:=#[x],argTypes:=#[T] }) (hd:o.dst=none)
 (hu:P.underlying T=some (.slice e)) (hx:SV S x .nils):IOp P O N o S S:=by
 intro E β a hr next Q hn
 have h1:=hx.rd hr
 generalize hv:a.eval x=v at h1
 cases h1
 have:(execOp a.eval o).run P E.w = .ok (.value (.tuple #[])) E.w:=by
  simp [execOp,ho,resolve,invoke,builtin,hv,Builtin.clear_,run_underlying hu]
 unfold Oper.wp
 rw [this]
 simp only [Oper.upon,hd,Act.put]
 exact hn E β _ hr
theorem yL {α:Type} (f:Enc0 α) {ops:Array Oper} {o1 o2:Oper} {c:List Oper} {T e e':Av} {y:Ao} {z:AG} {bytes id n t1 tx:Nat} {l r:List α} {k:IntKind} {i:Int} (g1:nP o1=true) (g2:nP o2=true)
 (ho1:o1.op = .slice T (.tmp tx) (some y) none none) (hd1:o1.dst=some t1) (ht:t1<N) (ho2:o2.op = .call { callee:=.builtin .clear,args:=#[.tmp t1],argTypes:=#[T] }) (hd2:o2.dst=none)
 (hu:P.underlying T=some (.slice e)) (hi:TI P e (some z) f.sz bytes) (hz:z.cells.size=f.sz) (hz1:z.cells.toList.all Value.oneCell'=true) (hx:S.get tx = .osl id f.sz n) (he:S.ent id = .blk e' (Ad (l.map f.d))) (hn:l.length=n)
 (hy:∀ S1:St,(∀ s,tx≠s→S1.get s=S.get s)→SV S1 y (.int k i)) (hc:cut l 0 i=some r) (K:ILS P O N ops c (((S.setE id (.blk e' (Ad (r.map f.d)))).set tx .dead).set t1 .dead) Q):ILS P O N ops (o1::o2::c) S Q:=by
 obtain ⟨⟨_,h0,h1⟩,hr'⟩:=aGe hc
 have hr2:l.take i.toNat=r:=by simpa using hr'
 have hfl:=f.flat_len l
 intro E β a hr
 rcases hr.opened hx he (by rw [hfl,hn]) with ⟨hn0,h3⟩ | ⟨cap,hc1,hc2,h3⟩
 · have hl0:l=[]:=Bf.1 (by omega)
   subst hl0
   obtain rfl:i=0:=by simp at h1; omega
   obtain rfl:r=[]:=by simpa using hr2.symm
   refine aB g1 (zB ho1 hd1 ht hu hi (sv (d:=.nils) (by simp [St.op,Cb,Bn,aN])) (hy _ fun s hs=>by simp [Cb,Bn,aN,hs])) (aB g2 (zC ho2 hd2 hu (sv (d:=.nils) (by simp [St.op,Cb,Bn,aN]))) ?_) E β a h3
   intro E' β' a' h4
   refine K E' β' a' (((h4.kill tx).kill t1).same (fun s=>?_) (fun j=>?_))
   · by_cases h6:t1=s <;> by_cases h7:tx=s <;> simp [Cb,Bn,Bp,aN,h6,h7]
   · simp only [BA,entL,Bn,Bp,aN]
     split
     · rename_i h5; subst h5; exact he.symm
     · rfl
 · have hyS:=hy ((S.setE id (.blk e' (Ad (l.map f.d)++AF ((cap-n)*f.sz) .dead))).set tx (.rsl id f.sz 0 n cap)) fun s hs=>by simp [Cb,Bn,Bp,aN,hs]
   have hin:i.toNat≤n:=by omega
   have hmul:i.toNat*f.sz+(n-i.toNat)*f.sz=n*f.sz:=by rw [←Bq]; congr 1; omega
   refine aB g1 (iM (id:=id) (off:=0) (len:=n) (cap:=cap) (sz:=f.sz) (l:=i) (h:=n) (m:=cap) (d:=.rsl id f.sz (i.toNat*f.sz) (n-i.toNat) (cap-i.toNat)) ho1 hd1 ht hu hi (sv (d:=.rsl _ _ _ _ _) (by simp [St.op,Cb,Bn,aN])) ⟨_,hyS⟩ rfl rfl (by simp) h0 (by omega) (by omega) (by omega) (by simp))
    (aB g2 (aAo (e':=e') (ds:=Ad (l.map f.d)++AF ((cap-n)*f.sz) D.dead) ho2 hd2 hu hi hz hz1 (sv (d:=.rsl id f.sz (i.toNat*f.sz) (n-i.toNat) (cap-i.toNat)) (by simp [St.op,Cb,Bn,aN])) (by simp [BA,entL,Bn,Bp,aN]) (by rw [AX,hfl,hn,hmul]; exact CZ _ _) rfl) ?_) E β a h3
   intro E' β' a' h4
   have h5:=h4.shrunk (id:=id) (e:=e') (ds':=Ad (r.map f.d)) (j:=AF ((n-i.toNat)*f.sz) .dead++(Ad (l.map f.d)++AF ((cap-n)*f.sz) D.dead).drop (n*f.sz)) aAv (by
    unfold gL
    rw [Cm,hmul,AQ (by rw [hfl,hn]; exact AP _ hin),f.flat_take,hr2,AH])
   refine K E' β' a' (((h5.kill tx).kill t1).same (fun s=>?_) (fun j=>?_))
   · by_cases h6:t1=s <;> by_cases h7:tx=s <;> simp [Cb,Bn,Bp,aN,h6,h7]
   · simp only [BA,entL,Bn,Bp,aN]; repeat' split <;> rfl
theorem aBn {b:Frame} {a:Act} {k:List Item} {cs:List Frame} {w:World} {c:Code}:step P (lone (b.atR a (.code (.scope c)::k)) cs w) = .next (lone (b.atR a (.code c :: .inScope c::k)) cs w) :=
 step_lone_go (by simp [stepG,stepG.exec,Frame.atR])
theorem aAL {b:Frame} {a:Act} {k:List Item} {cs:List Frame} {w:World} {c:Code}:step P (lone (b.atR a (.inScope c::k)) cs w) = .next (lone (b.atR a k) cs w) :=
 step_lone_go (by simp [stepG,stepG.exec,Frame.atR])
theorem aG9 {α:Type} {l r:List α} {a b:Int} (h:cut l a b=some r):r.length≤l.length:=by
 obtain ⟨_,hr⟩:=aGe h
 rw [←hr,BQ,Bk]; omega
end
end Go.IL
open Bool renaming and_eq_true → Az,or_false → CD
open Go.IL.D renaming refsInL → AE,renL → BB
open Go.IL.Ent renaming held → DE,held_ren → BN
open Go.IL.Env.le renaming refl → Ca
open Go.IL.RdL renaming ren → Co,renp → DG
open List renaming map_cons → Aj,map_map → BK,mem_cons → Ax,mem_cons_of_mem → Br,mem_cons_self → BX,mem_range → DR,range → By
open Nat renaming ble → Bb,ble_eq → BR,blt → DO,blt_eq → BL,le_of_ble_eq_true → Dh,le_trans → BE,lt_of_lt_of_le → BC
open Prod renaming fst → CA
open _root_ renaming if_neg → Aq
open Go.RowKit (Below)
namespace Go.IL
section
variable {P:Bc} {O:bK} {N:Nat} {S S':St} {o:Oper} {t:Nat} {Q:Exit→St→Prop}
structure HandM (S:St) (k:Nat) (A:List Nat) (H0:List (Nat×Ent)):Prop where
 nd:A.Nodup
 cov:A.all (fun i=>(H0.map fun x=>sig k A x.1).contains i)=true
 ents:∀ x∈H0,fA A x.1=true∧x.2.held=true∧S.ent (sig k A x.1)=x.2.ren (sig k A)∧x.2.refsIn (fA A)=true
def pZ (m:Nat) (A:List Nat) (i:Nat):Bool:=DO i m||fA A i
theorem aDh {f:BZ} {ds ds':List D} {r r':D} {H0 H1 H2:List (Nat×Ent)} (k m:Nat) (A:List Nat) (hd:o.dst=some t) (ht:t<N)
 (h:∀ E β a,Rel O N S E β a→∃ vs:List AG,(execOp a.eval o).run P E.w = .ok (.enter f vs.toArray) E.w∧RdL E β vs ds') (hds:BB (sig k A) ds=ds') (hp:AE (fA A) ds=true)
 (hkm:k+m≤1000) (hfr:∀ j,j<m→S.ent (k+j) = .fresh) (hh:HandM S k A H0) (hf:FnH P f ds H0 r H1) (hrr:r.ren (sig k A)=r') (hrp:r.refsIn (pZ m A)=true) (hH1:∀ x∈H1,pZ m A x.1=true∧x.2.refsIn (pZ m A)=true)
 (hH2:uO k A H0 H1 S.H=H2):IOp P O N o S (Bn ⟨S.sl,H2⟩ t r'):=by
 intro E β a hr next Q hn
 obtain ⟨vs,hrun,hv⟩:=h E β a hr
 unfold Oper.wp
 rw [hrun]
 simp only [Oper.upon,hd]
 subst hds hrr hH2
 let βc:bC:=fun i=>if fA A i=true then β (sig k A i) else none
 have hβc:∀ id,fA A id=true→βc id=β (sig k A id):=fun id hid=>by simp [βc,hid]
 have hvc:RdL E βc vs ds:=Co hβc ds hv hp
 have h0:∀ i,(entL H0 i).held=true→fA A i=true∧S.ent (sig k A i)=(entL H0 i).ren (sig k A)∧(entL H0 i).refsIn (fA A)=true:=fun i hi=>by
  have h1:=hh.ents _ (qT hi)
  exact ⟨h1.1,h1.2.2.1,h1.2.2.2⟩
 have hcall:HOk ⟨E.w,E.X,kS βc H0,βc,none,fun _=>[],fun _=>0,fun _=>[],fun _=>(#[],.skip,.skip),E.w.heap.size⟩ E βc (entL H0):={
  tab:=hr.h.good.tab,os:=rfl,tape:=rfl,output:=rfl,size:=AO _,mbs:=AO _,block:=fun _ _ _=>rfl,xlt:=hr.h.xlt,xold:=fun _ _ _ _=>DA,le:=Ca _
  gid:=fun i b hi=>by
   by_cases hg:fA A i=true
   · simp only [fA,Az,BR] at hg; exact hg.1
   · simp [βc,hg] at hi
  given:=fun _ _ hi=>hi
  ent := fun i=>by
   cases hhe:(entL H0 i).held with
   | true =>
     obtain ⟨h1,h2,h3⟩:=h0 i hhe
     have he:=hr.h.ent (sig k A i)
     rw [h2] at he
     have hown:∀ b,βc i=some b→(⟨E.w,E.X,kS βc H0,βc,none,fun _=>[],fun _=>0,fun _=>[],fun _=>(#[],.skip,.skip),E.w.heap.size⟩:bK).own b:=fun b hb=>.inr ⟨i,hhe,hb⟩
     cases hE:entL H0 i with
     | none=>trivial
     | fresh=>rw [hE] at hhe; cases hhe
     | blk e es =>
       rw [hE] at he h3
       rcases he with ⟨g1,g2⟩ | ⟨b,ws,sp,g1,g2,g3,g4,g5⟩
       · exact .inl ⟨(hβc i h1).trans g1,pD g2⟩
       · exact .inr ⟨b,ws,sp,(hβc i h1).trans g1,hown b ((hβc i h1).trans g1),g3,g4,Co hβc es g5 h3⟩
     | tail e sz n =>
       rw [hE] at he
       rcases he with ⟨g1,g2⟩ | ⟨b,c,g1,g2,g3,g4⟩
       · exact .inl ⟨(hβc i h1).trans g1,g2⟩
       · exact .inr ⟨b,c,(hβc i h1).trans g1,hown b ((hβc i h1).trans g1),g3,g4⟩
     | loop lk es st pe =>
       rw [hE] at h3; cases h3
     | mp ks es =>
       rw [hE] at he h3
       obtain ⟨b,xs,cl,g1,g2,g3,g4,g5,g6⟩:=he
       exact ⟨b,xs,cl,(hβc i h1).trans g1,hown b ((hβc i h1).trans g1),g3,g4,g5,Co hβc es g6 h3⟩
     | kept n es=>rw [hE] at hhe; cases hhe
   | false =>
     cases hE:entL H0 i with
     | none=>trivial
     | fresh =>
       show βc i=none
       by_cases hm:i∈H0.map (·.1)
       · obtain ⟨e,h1,h2⟩:=iJ (z:=defE i) hm
         have h3:=hh.ents _ h1
         have:entL H0 i=e:=h2
         rw [hE] at this; rw [←this] at h3; exact AI h3.2.1 (by simp [DE])
       · have:entL H0 i=defE i:=iE hm
         rw [hE] at this
         unfold defE at this
         split at this
         · cases this
         · rename_i hlt
           have:¬ fA A i=true:=by simp only [fA,Az,BR]; omega
           simp [βc,this]
     | blk=>rw [hE] at hhe; cases hhe
     | tail=>rw [hE] at hhe; cases hhe
     | loop=>rw [hE] at hhe; cases hhe
     | mp=>rw [hE] at hhe; cases hhe
     | kept n es =>
       exfalso
       by_cases hm:i∈H0.map (·.1)
       · obtain ⟨e,h1,h2⟩:=iJ (z:=defE i) hm
         have h3:=hh.ents _ h1
         have:entL H0 i=e:=h2
         rw [hE] at this; rw [←this] at h3; exact AI h3.2.1 (by simp [DE])
       · have:entL H0 i=defE i:=iE hm
         rw [hE] at this
         unfold defE at this
         split at this <;> cases this
  inj:=fun i j b hi hj h1 h2=>by
   obtain ⟨a1,a2,_⟩:=h0 i hi
   obtain ⟨b1,b2,_⟩:=h0 j hj
   have h1:β (sig k A i)=some b:=(hβc i a1).symm.trans h1
   have h2:β (sig k A j)=some b:=(hβc j b1).symm.trans h2
   exact wZ hh.nd a1 b1 (hr.h.inj _ _ b (by rw [a2,BN]; exact hi) (by rw [b2,BN]; exact hj) h1 h2) }
 refine (hf E βc vs hr.h.good hcall.gid hcall hvc).mono ?_
 rintro e w' ⟨v,rfl,E',β',rfl,hok,hrd⟩
 -- old blocks that were not handed over
 have hfoot:∀ b,kS βc H0 b→∃ i,fA A i=true∧(S.ent (sig k A i)).held=true∧β (sig k A i)=some b:=fun b ⟨i,hi,hb⟩=>by
  obtain ⟨h1,h2,_⟩:=h0 i hi
  exact ⟨i,h1,by rw [h2,BN]; exact hi,by rw [←hβc i h1]; exact hb⟩
 have hfown:∀ b,kS βc H0 b→O.own b:=fun b hb=>by
  obtain ⟨i,_,h2,h3⟩:=hfoot b hb
  have he:=hr.h.ent (sig k A i)
  exact hr.h.own h2 h3
 have hcown:∀ b,(⟨E.w,E.X,kS βc H0,βc,none,fun _=>[],fun _=>0,fun _=>[],fun _=>(#[],.skip,.skip),E.w.heap.size⟩:bK).own b→O.own b:=fun b hb=>by
  rcases hb with hb | hb
  · exact .inl (BE hr.h.size hb)
  · exact hfown b hb
 have hfrE:∀ i,k≤i∧i<k+m→S.ent i = .fresh:=fun i h1=>by
  have:=hfr (i-k) (by omega)
  rwa [show k+(i-k)=i by omega] at this
 have hfresh:∀ i,k≤i→i<k+m→β i=none:=fun i h1 h2=>by
  have he:=hr.h.ent i
  rw [hfrE i ⟨h1,h2⟩] at he; exact he
 let βn:bC:=fun i=>if k≤i∧i<k+m then β' (i-k) else if i∈A then β' (1000+A.idxOf i) else β i
 have hAk:∀ i,i∈A→¬ (k≤i∧i<k+m):=fun i hi hki=>by
  have h1:=Ba.1 hh.cov i hi
  obtain ⟨x,hx,hxe⟩:=Am.1 (by simpa using h1:i∈H0.map (fun x=>sig k A x.1))
  have h2:=hh.ents x hx
  rw [hxe,hfrE i hki] at h2
  have h3:(x.2.ren (sig k A)).held=true:=by rw [BN]; exact h2.2.1
  rw [←h2.2.2.1] at h3; cases h3
 have hnA:∀ i,i∈A→βn i=β' (1000+A.idxOf i):=fun i hi=>by simp [βn,hAk i hi,hi]
 have hnO:∀ i,i ∉ A→¬ (k≤i∧i<k+m)→βn i=β i:=fun i h1 h2=>by simp [βn,h1,h2]
 have hβ1:β.le βn:=fun i b hi=>by
  by_cases hki:k≤i∧i<k+m
  · rw [hfresh i hki.1 hki.2] at hi; cases hi
  · by_cases hA:i∈A
    · rw [hnA i hA]
      obtain ⟨h1,h2⟩:=rX (k:=k) hA
      exact hok.given _ _ (((hβc _ h1).trans (by rw [h2])).trans hi)
    · rw [hnO i hA hki]; exact hi
 have hβ2:∀ i,pZ m A i=true→βn (sig k A i)=β' i:=fun i hi=>by
  by_cases hg:fA A i=true
  · rw [hnA _ (mS hg),xA hh.nd hg]
  · simp only [pZ,hg,CD,BL] at hi
    have h2:¬ 1000≤i:=by omega
    have h1:sig k A i=k+i:=by simp [sig,h2]
    rw [h1]
    simp [βn,hi]
 have hle:E.le E':=hok.le
 -- the entries behind the call
 have hkey1:∀ i,pZ m A i=true→∀ j,pZ m A j=true→sig k A i=sig k A j→i=j:=fun i hi j hj hij=>by
  by_cases hgi:fA A i=true
  · by_cases hgj:fA A j=true
    · exact wZ hh.nd hgi hgj hij
    · exfalso
      simp only [pZ,hgj,CD,BL] at hj
      have h2:sig k A j=k+j:=by simp [sig,show ¬1000≤j by omega]
      exact hAk _ (mS (k:=k) hgi) (by rw [hij,h2]; omega)
  · by_cases hgj:fA A j=true
    · exfalso
      simp only [pZ,hgi,CD,BL] at hi
      have h2:sig k A i=k+i:=by simp [sig,show ¬1000≤i by omega]
      exact hAk _ (mS (k:=k) hgj) (by rw [←hij,h2]; omega)
    · simp only [pZ,hgi,hgj,CD,BL] at hi hj
      simp only [sig,show ¬1000≤i by omega,show ¬1000≤j by omega,if_false] at hij
      omega
 have hent:∀ i,(Bn ⟨S.sl,uO k A H0 H1 S.H⟩ t (r.ren (sig k A))).ent i =
  if i∈H1.map (fun x=>sig k A x.1) then (look (defE i) i (H1.map fun x=>(sig k A x.1,x.2.ren (sig k A)))) else if i∈H0.map (fun x=>sig k A x.1) then .none else S.ent i:=fun i=>by
  simp only [BA,entL,Bn,uO,oC,BK]
  have e1:(CA ∘ fun x:Nat×Ent=>(sig k A x.1,x.2.ren (sig k A)))=fun x=>sig k A x.1:=rfl
  have e2:(CA ∘ fun x:Nat×Ent=>(sig k A x.1,Ent.none))=fun x=>sig k A x.1:=rfl
  rw [e1,e2]
  split
  · rfl
  · split
    · rename_i h1 h2
      obtain ⟨e,h3,h4⟩:=iJ (z:=defE i) (l:=H0.map fun x=>(sig k A x.1,Ent.none)) (by rw [BK,e2]; exact h2)
      rw [h4]
      obtain ⟨x,_,hx⟩:=Am.1 h3
      cases hx; rfl
    · rfl
 have hlook1:∀ j,pZ m A j=true→j∈H1.map (·.1)→look (defE (sig k A j)) (sig k A j) (H1.map fun x=>(sig k A x.1,x.2.ren (sig k A)))=(entL H1 j).ren (sig k A):=by
  intro j hj
  unfold entL
  have aux:∀ (z z':Ent) (l:List (Nat×Ent)),(∀ x∈l,pZ m A x.1=true)→j∈l.map (·.1)→look z (sig k A j) (l.map fun x=>(sig k A x.1,x.2.ren (sig k A)))=(look z' j l).ren (sig k A):=by
   intro z z' l
   induction l with
   | nil=>intro _ h; simp at h
   | cons x l ih =>
     obtain ⟨i,e⟩:=x
     intro hl hm
     simp only [Aj,aN]
     by_cases hij:i=j
     · subst hij; rw [Ay rfl,Ay rfl]
     · rw [Aq (fun h=>hij (hkey1 i (hl (i,e) BX) j hj h)),Aq hij]
       refine ih (fun x hx=>hl x (Br _ hx)) ?_
       simp only [Aj,Ax] at hm
       rcases hm with h | h
       · exact AI h.symm hij
       · exact h
  exact aux _ _ H1 (fun x hx=>(hH1 x hx).1)
 have hH1r:∀ j,j∈H1.map (·.1)→pZ m A j=true∧(entL H1 j).refsIn (pZ m A)=true:=fun j hj=>by
  obtain ⟨e,h1,h2⟩:=iJ (z:=defE j) hj
  have h3:=hH1 _ h1
  exact ⟨h3.1,by rw [show entL H1 j=e from h2]; exact h3.2⟩
 have cases1:∀ i,i∈H1.map (fun x=>sig k A x.1)→∃ j,j∈H1.map (·.1)∧pZ m A j=true∧i=sig k A j:=fun i hi=>by
  obtain ⟨x,hx,rfl⟩:=Am.1 hi
  exact ⟨x.1,Am.2 ⟨x,hx,rfl⟩,(hH1 x hx).1,rfl⟩
 -- an entry that was not handed over
 have hold:∀ i,i ∉ H1.map (fun x=>sig k A x.1)→i ∉ H0.map (fun x=>sig k A x.1)→(S.ent i).held=true→∀ b,β i=some b→βn i=some b∧b<E.w.heap.size∧¬ kS βc H0 b:=fun i h1 h2 h3 b hb=>by
  refine ⟨hβ1 i b hb,?_,?_⟩
  · exact hr.h.lt h3 hb
  · rintro ⟨j,hj,hbj⟩
    obtain ⟨g1,g2,_⟩:=h0 j hj
    have:i=sig k A j:=hr.h.inj i (sig k A j) b h3 (by rw [g2,BN]; exact hj) hb (by rw [←hβc j g1]; exact hbj)
    exact h2 (Am.2 ⟨_,qT hj,this.symm⟩)
 have hcov:∀ i,i∈A→i∈H0.map (fun x=>sig k A x.1):=fun i hi=>by
  have:=Ba.1 hh.cov i hi
  simpa using this
 have hold':∀ i,i ∉ H0.map (fun x=>sig k A x.1)→S.ent i ≠ .fresh→βn i=β i:=fun i h0 hf=>by
  refine hnO i (fun hA=>h0 (hcov i hA)) (fun hki=>hf ?_)
  exact hfrE i hki
 refine hn E' βn _ ⟨by simp [Act.put,hr.n],hr.nd.mono (fun b hx=>(hok.block b (cX hx) (fun hf=>by obtain ⟨i,_,h2,h3⟩:=hfoot b hf; exact hr.h.nodef h2 h3 _ hx)).trans hx),?_,?_⟩
 · exact {
    tab:=hr.h.tab,os:=hok.os.trans hr.h.os,tape:=hok.tape.trans hr.h.tape,output:=hok.output.trans hr.h.output,size:=BE hr.h.size hok.size,mbs:=hr.h.mbs
    block:=fun j hj hf=>by
     have hnf:¬ kS βc H0 j:=fun h=>by
      rcases hfown j h with h1 | h1
      · omega
      · exact hf h1
     exact (hok.block j (BC hj hr.h.size) hnf).trans (hr.h.block j hj hf)
    xlt:=hok.xlt
    xold:=fun b o hb hf=>by
     have hnf:¬ kS βc H0 b:=fun h=>by
      rcases hfown b h with h1 | h1
      · omega
      · exact hf h1
     exact (hok.xold b o (BC hb hr.h.size) hnf).trans (hr.h.xold b o hb hf)
    le:=hr.h.le.trans hle
    gid:=hr.h.gid
    given:=fun i b hi=>hβ1 i b (hr.h.given i b hi)
    ent := fun i=>by
     rw [hent i]
     by_cases hi1:i∈H1.map (fun x=>sig k A x.1)
     · rw [Ay hi1]
       obtain ⟨j,hj,hbj,rfl⟩:=cases1 i hi1
       rw [hlook1 j hbj hj]
       have he:=hok.ent j
       have hrf:=(hH1r j hj).2
       have hb2:=hβ2 j hbj
       cases hE:entL H1 j with
       | none=>trivial
       | fresh=>rw [hE] at he; exact hb2.trans he
       | blk e es =>
         rw [hE] at he hrf
         rcases he with ⟨g1,g2⟩ | ⟨b,ws,sp,g1,g2,g3,g4,g5⟩
         · exact .inl ⟨hb2.trans g1,by rw [g2]; rfl⟩
         · exact .inr ⟨b,ws,sp,hb2.trans g1,hcown b g2,g3,g4,DG (fun id b hid hb=>(hβ2 id hid).trans hb) g5 hrf⟩
       | tail e sz n =>
         rw [hE] at he
         rcases he with ⟨g1,g2⟩ | ⟨b,c,g1,g2,g3,g4⟩
         · exact .inl ⟨hb2.trans g1,g2⟩
         · exact .inr ⟨b,c,hb2.trans g1,hcown b g2,g3,g4⟩
       | loop lk es st pe =>
         rw [hE] at hrf; cases hrf
       | mp ks es =>
         rw [hE] at he hrf
         obtain ⟨b,xs,cl,g1,g2,g3,g4,g5,g6⟩:=he
         exact ⟨b,xs,cl,hb2.trans g1,hcown b g2,g3,g4,g5,DG (fun id b hid hb=>(hβ2 id hid).trans hb) g6 hrf⟩
       | kept n es=>rw [hE] at hrf; cases hrf
     · rw [Aq hi1]
       by_cases hi0:i∈H0.map (fun x=>sig k A x.1)
       · rw [Ay hi0]; trivial
       · rw [Aq hi0]
         have he:=hr.h.ent i
         have hnb:∀ b,(S.ent i).held=true→β i=some b→βn i=some b∧E'.w.heap[b]? = E.w.heap[b]? ∧ ∀ o,(E'.X b o↔E.X b o):=fun b hhe hb=>by
          obtain ⟨g1,g2,g3⟩:=hold i hi1 hi0 hhe b hb
          exact ⟨g1,hok.block b g2 g3,fun o=>hok.xold b o g2 g3⟩
         cases hE:S.ent i with
         | none=>trivial
         | fresh =>
           rw [hE] at he
           show βn i=none
           by_cases hki:k≤i∧i<k+m
           · -- a fresh name of the callee's that is told by nothing
             have hbi:i-k ∉ H1.map (·.1):=fun hm=>by
              have hbb:=(hH1r _ hm).1
              refine hi1 ?_
              obtain ⟨x,hx,hxe⟩:=Am.1 hm
              refine Am.2 ⟨x,hx,?_⟩
              have hx':x.1=i-k:=hxe
              rw [hx']
              simp only [sig,show ¬1000≤i-k by omega,if_false]
              omega
             have h3:=hok.ent (i-k)
             have h4:entL H1 (i-k)=defE (i-k):=iE hbi
             rw [h4,defE,Aq (by omega)] at h3
             simp only [βn,hki,and_self,if_true]
             exact h3
           · rw [hnO i (fun hA=>hi0 (hcov i hA)) hki]; exact he
         | blk e es =>
           rw [hE] at he
           rcases he with ⟨g1,g2⟩ | ⟨b,ws,sp,g1,g2,g3,g4,g5⟩
           · exact .inl ⟨(hold' i hi0 (by rw [hE]; exact fun h=>by cases h)).trans g1,g2⟩
           · obtain ⟨f1,f2,f3⟩:=hnb b (by rw [hE]; rfl) g1
             exact .inr ⟨b,ws,sp,f1,g2,f2.trans g3,fun o=>(f3 o).2 (g4 o),AR hle hβ1 g5⟩
         | tail e sz n =>
           rw [hE] at he
           rcases he with ⟨g1,g2⟩ | ⟨b,c,g1,g2,g3,g4⟩
           · exact .inl ⟨(hold' i hi0 (by rw [hE]; exact fun h=>by cases h)).trans g1,g2⟩
           · obtain ⟨f1,f2,f3⟩:=hnb b (by rw [hE]; rfl) g1
             exact .inr ⟨b,c,f1,g2,f2.trans g3,fun o ho=>(f3 o).2 (g4 o ho)⟩
         | loop lk es st pe =>
           rw [hE] at he
           obtain ⟨b,q,g1,g2,g3,g4,g5,g6,g7,g8,g9,g10⟩:=he
           obtain ⟨f1,f2,f3⟩:=hnb b (by rw [hE]; rfl) g1
           exact ⟨b,q,f1,g2,f2.trans g3,fun o=>(f3 o).2 (g4 o),g5,g6,g7,g8,g9,g10.1,AR hle hβ1 g10.2⟩
         | mp ks es =>
           rw [hE] at he
           obtain ⟨b,xs,cl,g1,g2,g3,g4,g5,g6⟩:=he
           obtain ⟨f1,f2,f3⟩:=hnb b (by rw [hE]; rfl) g1
           exact ⟨b,xs,cl,f1,g2,f2.trans g3,fun o=>(f3 o).2 (g4 o),g5,AR hle hβ1 g6⟩
         | kept n es =>
           rw [hE] at he
           exact ⟨AR hle hβ1 he.1,fun c hc=>(hok.block c (cX (he.2 c hc)) (fun hf=>by obtain ⟨i,_,h2,h3⟩:=hfoot c hf; exact hr.h.nodef h2 h3 _ (he.2 c hc))).trans (he.2 c hc)⟩
    inj := fun i j b hi hj hbi hbj=>by
     rw [hent i] at hi
     rw [hent j] at hj
     have hone:∀ i,i∈H1.map (fun x=>sig k A x.1)→(look (defE i) i (H1.map fun x=>(sig k A x.1,x.2.ren (sig k A)))).held=true→βn i=some b→∃ a,(entL H1 a).held=true∧β' a=some b∧i=sig k A a∧pZ m A a=true:=fun i hm hh hb=>by
      obtain ⟨a,ha,hba,rfl⟩:=cases1 i hm
      rw [hlook1 a hba ha,BN] at hh
      exact ⟨a,hh,(hβ2 a hba).symm.trans hb,rfl,hba⟩
     have hown1:∀ a,(entL H1 a).held=true→β' a=some b→E.w.heap.size≤b∨kS βc H0 b:=fun a hh hb=>by
      exact hok.own hh hb
     have hto:∀ i,i ∉ H0.map (fun x=>sig k A x.1)→(S.ent i).held=true→βn i=some b→β i=some b:=fun i h0 hh hb=>by
      rw [←hold' i h0 (fun h=>by rw [h] at hh; cases hh)]; exact hb
     have hmix:∀ i j,i∈H1.map (fun x=>sig k A x.1)→(look (defE i) i (H1.map fun x=>(sig k A x.1,x.2.ren (sig k A)))).held=true→βn i=some b→j ∉ H1.map (fun x=>sig k A x.1)→j ∉ H0.map (fun x=>sig k A x.1)→(S.ent j).held=true→βn j=some b→False:=fun i j h1 h2 h3 h4 h5 h6 h7=>by
      obtain ⟨a,ha,hb,_⟩:=hone i h1 h2 h3
      obtain ⟨_,f2,f3⟩:=hold j h4 h5 h6 b (hto j h5 h6 h7)
      rcases hown1 a ha hb with h | h
      · omega
      · exact f3 h
     by_cases hi1:i∈H1.map (fun x=>sig k A x.1)
     · rw [Ay hi1] at hi
       by_cases hj1:j∈H1.map (fun x=>sig k A x.1)
       · rw [Ay hj1] at hj
         obtain ⟨a,ha,hab,rfl,_⟩:=hone i hi1 hi hbi
         obtain ⟨c,hc,hcb,rfl,_⟩:=hone j hj1 hj hbj
         rw [hok.inj a c b ha hc hab hcb]
       · rw [Aq hj1] at hj
         by_cases hj0:j∈H0.map (fun x=>sig k A x.1)
         · rw [Ay hj0] at hj; cases hj
         · rw [Aq hj0] at hj
           exact (hmix i j hi1 hi hbi hj1 hj0 hj hbj).elim
     · rw [Aq hi1] at hi
       by_cases hi0:i∈H0.map (fun x=>sig k A x.1)
       · rw [Ay hi0] at hi; cases hi
       · rw [Aq hi0] at hi
         by_cases hj1:j∈H1.map (fun x=>sig k A x.1)
         · rw [Ay hj1] at hj
           exact (hmix j i hj1 hj hbj hi1 hi0 hi hbi).elim
         · rw [Aq hj1] at hj
           by_cases hj0:j∈H0.map (fun x=>sig k A x.1)
           · rw [Ay hj0] at hj; cases hj
           · rw [Aq hj0] at hj
             exact hr.h.inj i j b hi hj (hto i hi0 hi hbi) (hto j hj0 hj hbj) }
 · intro s
   have hts:t<a.tmps.size:=hr.n ▸ ht
   by_cases hst:t=s
   · subst hst
     have h1:=Rd.renp (p:=pZ m A) (fun id b hid hb=>(hβ2 id hid).trans hb) hrd hrp
     simpa [Act.put,Cb,Bn,aN,hts] using h1
   · have:=Ct hle hβ1 (hr.sl s)
     simpa [Act.put,Cb,Bn,aN,hst,Bg] using this

theorem pU {f:BZ} {xs:List Ao} {ts:Array Av} {ds ds':List D} {r r':D} {H0 H1 U:List (Nat×Ent)} (k m:Nat) (A:List Nat) (ho:o.op = .call { callee:=.value (.func f),args:=xs.toArray,argTypes:=ts }) (hd:o.dst=some t) (ht:t<N)
 (hc:aY P f) (hx:SVs S xs ds') (hds:BB (sig k A) ds=ds') (hp:AE (fA A) ds=true) (hkm:Bb (k+m) 1000=true) (hfr:∀ e∈(By m).map (fun j=>S.ent (k+j)),e = .fresh)
 (hh:HandM S k A H0) (hf:FnH P f ds H0 r H1) (hrr:r.ren (sig k A)=r') (hrp:r.refsIn (pZ m A)=true) (hH1:∀ x∈H1,pZ m A x.1=true∧x.2.refsIn (pZ m A)=true)
 (hU:(H1.map fun x=>(sig k A x.1,x.2.ren (sig k A)))++(H0.map fun x=>(sig k A x.1,Ent.none))=U):IOp P O N o S ⟨(t,r')::S.sl,U++S.H⟩:=by
 have h:=aDh (P:=P) (O:=O) (N:=N) (S:=S) (o:=o) (t:=t) (f:=f) (ds:=ds) (ds':=ds') (r:=r) (r':=r') (H0:=H0) (H1:=H1) (H2:=U++S.H) k m A hd ht (fun E β a hr=>⟨xs.map a.eval,by
  simp [execOp,ho,resolve,Deferred.ofValue,Act.eval,invoke,iB hc],hx.rd hr⟩) hds hp (Dh hkm) (fun j hj=>hfr _ (Am.2 ⟨j,DR.2 hj,rfl⟩)) hh hf hrr hrp hH1 (by rw [←hU,uO,AH])
 exact h
end
end Go.IL
namespace Go.IL
section
variable {P:Bc} {O:bK} {N:Nat} {S S':St} {o:Oper} {t:Nat} {Q:Exit→St→Prop}

end
end Go.IL
open Go.RowKit (Below)
namespace Go.IL
section
variable {P:Bc} {O:bK} {N:Nat} {S S':St} {o:Oper} {t:Nat} {Q:Exit→St→Prop}
end
end Go.IL
open Bool renaming or_true → EN
namespace Go.IL
theorem M.{u} {α : Sort u} {a : α} : a = a := rfl
def dd_ : Nat → List D → List D
  | 0, l => l
  | n + 1, l => .dead :: dd_ n l
theorem sj_ {α : Type} {a b : α} (h : some a = some b) : a = b := Option.some.inj h
section
variable {P:Bc} {O:bK} {N:Nat} {S S':St} {o:Oper} {t:Nat} {Q:Exit→St→Prop}
theorem lb {a b:Nat} (h:Bb (a+1) b=true):a<b:=Dh h
theorem svI {x:Ao} {k:IntKind} {n:Int} (h:S.op x = .int k n):SV S x (.int k n):=sv h
theorem svB {x:Ao} {n:Bool} (h:S.op x = .bool n):SV S x (.bool n):=sv h
theorem svR {x:Ao} {i j:Nat} (h:S.op x = .ref i j):SV S x (.ref i j):=sv h
theorem svL {x:Ao} {f:Bool} {l:List D} (h:S.op x = .slice f l):SV S x (.slice f l):=sv h
theorem svA {x:Ao} (l:List D) (h:S.op x = .agg l):SV S x (.agg l):=sv h
theorem svcI {x:Ao} {b:Bool} {k:IntKind} {n:Int} (h:S.op x = .cnd b (.int k n)) (hb:b=true):SV S x (.int k n):=svc h hb
theorem svcB {x:Ao} {b n:Bool} (h:S.op x = .cnd b (.bool n)) (hb:b=true):SV S x (.bool n):=svc h hb
theorem svcR {x:Ao} {b:Bool} {i j:Nat} (h:S.op x = .cnd b (.ref i j)) (hb:b=true):SV S x (.ref i j):=svc h hb
theorem svcL {x:Ao} {b:Bool} {f:Bool} {l:List D} (h:S.op x = .cnd b (.slice f l)) (hb:b=true):SV S x (.slice f l):=svc h hb
theorem svcA {x:Ao} {b:Bool} (l:List D) (h:S.op x = .cnd b (.agg l)) (hb:b=true):SV S x (.agg l):=svc h hb
theorem mvI {x:Ao} {k:IntKind} {n:Int} (ho:o.op = .move x) (hd:o.dst=some t) (ht:Bb (t+1) N=true) (hx:S.op x = .int k n):IOp P O N o S (S.set t (.int k n)):=bN ho hd (lb ht) (sv hx)
theorem mvB {x:Ao} {n:Bool} (ho:o.op = .move x) (hd:o.dst=some t) (ht:Bb (t+1) N=true) (hx:S.op x = .bool n):IOp P O N o S (S.set t (.bool n)):=bN ho hd (lb ht) (sv hx)
theorem mvR {x:Ao} {i j:Nat} (ho:o.op = .move x) (hd:o.dst=some t) (ht:Bb (t+1) N=true) (hx:S.op x = .ref i j):IOp P O N o S (S.set t (.ref i j)):=bN ho hd (lb ht) (sv hx)
theorem mvL {x:Ao} {f:Bool} {l:List D} (ho:o.op = .move x) (hd:o.dst=some t) (ht:Bb (t+1) N=true) (hx:S.op x = .slice f l):IOp P O N o S (S.set t (.slice f l)):=bN ho hd (lb ht) (sv hx)
theorem asI {x:Ao} {k:IntKind} {n:Int} (ho:o.op = .assign x) (hd:o.dst=some t) (ht:Bb (t+1) N=true) (hx:S.op x = .int k n):IOp P O N o S (S.set t (.int k n)):=bP ho hd (lb ht) (sv hx)
theorem asB {x:Ao} {n:Bool} (ho:o.op = .assign x) (hd:o.dst=some t) (ht:Bb (t+1) N=true) (hx:S.op x = .bool n):IOp P O N o S (S.set t (.bool n)):=bP ho hd (lb ht) (sv hx)
def LA (P:Bc) (T:Av) (u:TypeDesc) (z:Af AG) (size bytes:Nat) (g:Bool):Prop:=P.underlying T=some u∧iU P T=g∧TI P T z size bytes∧0<size
theorem LA.mk {T:Av} {u:TypeDesc} {z:Af AG} {size bytes:Nat} {g:Bool} (h1:P.underlying T=some u) (h2:iU P T=g) (h3:TI P T z size bytes) (h4:0<size):LA P T u z size bytes g:=⟨h1,h2,h3,h4⟩
theorem lra {T:Av} {x:Ao} {u:TypeDesc} {z:Af AG} {size bytes:Nat} {id off:Nat} {e:Av} {ds:List D} (cs:List D) (l:LA P T u z size bytes true) (ho:o.op = .load T x) (hd:o.dst=some t) (ht:Bb (t+1) N=true)
 (hx:S.op x = .ref id off) (he:S.ent id = .blk e ds) (hn:off+size≤ds.length) (hdd:(ds.drop off).take size=cs):IOp P O N o S (S.set t (.agg cs)):=lR ho hd (lb ht) l.1 l.2.1 l.2.2.1 l.2.2.2 (sv hx) he hn hdd
theorem lrL {T:Av} {x:Ao} {u:TypeDesc} {z:Af AG} {size bytes:Nat} {id off:Nat} {e:Av} {ds r:List D} {f:Bool} {m:List D} (l:LA P T u z size bytes false) (ho:o.op = .load T x) (hd:o.dst=some t) (ht:Bb (t+1) N=true)
 (hx:S.op x = .ref id off) (he:S.ent id = .blk e ds) (hn:off+size≤ds.length) (hdd:ds.drop off = .slice f m::r):IOp P O N o S (S.set t (.slice f m)):=iN ho hd (lb ht) l.1 l.2.1 l.2.2.1 l.2.2.2 (sv hx) he hn hdd
theorem rva {x:Nat} {T:Av} {id off:Nat} {e:Av} {ds cs:List D} {u:TypeDesc} {z:Af AG} {size bytes:Nat} (l:LA P T u z size bytes true) (hx:S.get x = .ref id off) (he:S.ent id = .blk e ds)
 (hn:off+size≤ds.length) (hd:(ds.drop off).take size=cs):ResV P S (.cell x T) (.agg cs):=resv_a hx he l.1 l.2.1 l.2.2.1 l.2.2.2 hn hd
theorem stA {T:Av} {x y:Ao} {z:Af AG} {size bytes:Nat} {id off:Nat} {e:Av} {ds:List D} (c ds':List D) (hi:TI P T z size bytes) (ho:o.op = .store T x y) (hd:o.dst=none)
 (hx:S.op x = .ref id off) (he:S.ent id = .blk e ds) (hy:S.op y = .agg c) (hb:(D.agg c).boxable=true) (hsz:(D.agg c).cells.length=size) (h1:(D.agg c).cells.all DZ=true)
 (hn:off+size≤ds.length) (hds:gL ds off (D.agg c).cells=ds'):IOp P O N o S (S.setE id (.blk e ds')):=eO ho hd hi (sv hx) he (sv hy) hb hsz h1 hn hds
theorem faR {T:Av} {x:Ao} {i:Nat} {fs:Array Field} {F:Field} {z:Af AG} {size bytes:Nat} {id off:Nat} (off':Nat) (ho:o.op = .fieldAddr T x i) (hd:o.dst=some t) (ht:Bb (t+1) N=true)
 (hu:P.underlying T=some (.struct fs)) (hf:fs[i]? = some F) (hi:TI P F.type z size bytes) (hs:0<size) (hx:S.op x = .ref id off) (ho':off+F.offset=off'):IOp P O N o S (S.set t (.ref id off')) :=
 fI ho hd (lb ht) hu hf hi hs (sv hx) ho'
theorem svaI {n:Node} {S0:St} {s:Nat} {k:IntKind} {m:Int} (hA:sA n S S0) (hm:n.rs.elem s=true) (h:S0.get s = .int k m):SV S (.tmp s) (.int k m):=sv (agr hA hm h)
theorem svaB {n:Node} {S0:St} {s:Nat} {m:Bool} (hA:sA n S S0) (hm:n.rs.elem s=true) (h:S0.get s = .bool m):SV S (.tmp s) (.bool m):=sv (agr hA hm h)
theorem svaR {n:Node} {S0:St} {s i j:Nat} (hA:sA n S S0) (hm:n.rs.elem s=true) (h:S0.get s = .ref i j):SV S (.tmp s) (.ref i j):=sv (agr hA hm h)
theorem svaL {n:Node} {S0:St} {s:Nat} {f:Bool} {l:List D} (hA:sA n S S0) (hm:n.rs.elem s=true) (h:S0.get s = .slice f l):SV S (.tmp s) (.slice f l):=sv (agr hA hm h)
theorem svaA {n:Node} {S0:St} {s:Nat} (l:List D) (hA:sA n S S0) (hm:n.rs.elem s=true) (h:S0.get s = .agg l):SV S (.tmp s) (.agg l):=sv (agr hA hm h)
theorem AllW.s {ρ:Nat→Nat} {t:Nat} {d:D} {l:List (Nat×D)} (h:S.get t=d.ren ρ) (hr:d.refsIn S'.okn=true) (k:AllW (SlW S S' ρ) l):AllW (SlW S S' ρ) ((t,d)::l):=.cons (.same h hr) k
theorem AllW.sames {ρ:Nat→Nat}:∀ {l:List (Nat×D)},l.map (fun p=>S.get p.1)=l.map (fun p=>p.2.ren ρ)→(l.all fun p=>p.2.refsIn S'.okn)=true→AllW (SlW S S' ρ) l
 | [],_,_=>.nil
 | (t,d)::l,h,hr=>by
   simp only [Aj,List.cons.injEq] at h
   simp only [List.all_cons,Az] at hr
   exact .cons (.same h.1 hr.1) (AllW.sames h.2 hr.2)
end
theorem SubL.k {d:D} {ds ds':List D} (t:SubL ds ds'):SubL (d::ds) (d::ds'):=.cons (.refl d) t
theorem SubL.k4 {a b c d:D} {ds ds':List D} (t:SubL ds ds'):SubL (a::b::c::d::ds) (a::b::c::d::ds'):=.k (.k (.k (.k t)))
theorem FDL.k {S:St} {d:D} {ds ds':List D} (t:FDL S ds ds'):FDL S (d::ds) (d::ds'):=.cons (.refl d) t
theorem FDL.k4 {S:St} {a b c d:D} {ds ds':List D} (t:FDL S ds ds'):FDL S (a::b::c::d::ds) (a::b::c::d::ds'):=.k (.k (.k (.k t)))
theorem SubL.all:∀ (l:List D),SubL l l
 | []=>.nil
 | d::l=>.cons (.refl d) (SubL.all l)
theorem FDL.all {S:St} (l:List D):FDL S l l:=qI l
theorem or_tt {a b:Bool} (h:(a||true)=b):b=true:=by rw [←h,EN]
end Go.IL
open Prod renaming snd → De
open _root_ renaming congrArg → AJ
namespace Go.IL
section
variable {P:Bc} {O:bK} {N:Nat} {S S':St} {o:Oper} {t:Nat} {Q:Exit→St→Prop}
theorem gG {ops:Array Oper} {l:List Oper} {j tj:Nat} {want b:Bool} {d:D} (h:(o.guard,(ops[j]?).bind (·.dst),S.get tj,o.dst,rC o.op,Bb (t+1) N)=(some (j,want),some tj,.bool b,some t,true,true))
 (x:(b == want)=true→IOp P O N o S (S.set t d)) (k:ILS P O N ops l (S.set t (.cnd (b == want) d)) Q):ILS P O N ops (o::l) S Q:=by
 simp only [Prod.mk.injEq] at h
 obtain ⟨h1,h2,h3,h4,h5,h6⟩:=h
 exact oR h1 h2 (.one h3) (by rw [h4,h5]) (lb h6) x k
theorem tFa {T:Av} {x:Ao} {i:Nat} {fs:Array Field} {F:Field} {z:Af AG} {size bytes:Nat} {id off:Nat} (off':Nat) (hu:P.underlying T=some (.struct fs)) (h:(o.op,o.dst,Bb (t+1) N,fs[i]?)=(.fieldAddr T x i,some t,true,some F)) (hi:TI P F.type z size bytes)
 (h2:(Bb (0+1) size,S.op x,off+F.offset)=(true,.ref id off,off')):IOp P O N o S (S.set t (.ref id off')):=by
 simp only [Prod.mk.injEq] at h h2
 exact faR off' h.1 h.2.1 h.2.2.1 hu h.2.2.2 hi (lb h2.1) h2.2.1 h2.2.2
theorem tLd {T:Av} {x:Ao} {u:TypeDesc} {z:Af AG} {size bytes:Nat} {id off:Nat} {e:Av} {ds r:List D} {d:D} (hu:P.underlying T=some u) (hg:iU P T=false) (hi:TI P T z size bytes)
 (h:(o.op,o.dst,Bb (t+1) N,Bb (0+1) size,S.op x,S.ent id,Bb (off+size) ds.length,ds.drop off)=(.load T x,some t,true,true,.ref id off,.blk e ds,true,d::r)):IOp P O N o S (S.set t d):=by
 simp only [Prod.mk.injEq] at h
 exact iN h.1 h.2.1 (lb h.2.2.1) hu hg hi (lb h.2.2.2.1) (svR h.2.2.2.2.1) h.2.2.2.2.2.1 (nle h.2.2.2.2.2.2.1) h.2.2.2.2.2.2.2
theorem tLc {T:Av} {x:Ao} {u:TypeDesc} {z:Af AG} {size bytes:Nat} {id off:Nat} {e:Av} {ds r:List D} {d:D} {b:Bool} (hu:P.underlying T=some u) (hg:iU P T=false) (hi:TI P T z size bytes)
 (h:(o.op,o.dst,Bb (t+1) N,Bb (0+1) size,S.op x,S.ent id,Bb (off+size) ds.length,ds.drop off)=(.load T x,some t,true,true,.cnd b (.ref id off),.blk e ds,true,d::r)) (hb:b=true):IOp P O N o S (S.set t d):=by
 simp only [Prod.mk.injEq] at h
 exact iN h.1 h.2.1 (lb h.2.2.1) hu hg hi (lb h.2.2.2.1) (svcR h.2.2.2.2.1 hb) h.2.2.2.2.2.1 (nle h.2.2.2.2.2.2.1) h.2.2.2.2.2.2.2
theorem tSt {T:Av} {x y:Ao} {z:Af AG} {size bytes:Nat} {id off:Nat} {e:Av} {ds:List D} (c ds':List D) (hi:TI P T z size bytes)
 (h:(o.op,o.dst,S.op x,S.ent id,S.op y,(D.agg c).boxable,(D.agg c).cells.length,(D.agg c).cells.all DZ,Bb (off+size) ds.length,gL ds off (D.agg c).cells)=(.store T x y,none,.ref id off,.blk e ds,.agg c,true,size,true,true,ds')):IOp P O N o S (S.setE id (.blk e ds')):=by
 simp only [Prod.mk.injEq] at h
 exact stA c ds' hi h.1 h.2.1 h.2.2.1 h.2.2.2.1 h.2.2.2.2.1 h.2.2.2.2.2.1 h.2.2.2.2.2.2.1 h.2.2.2.2.2.2.2.1 (nle h.2.2.2.2.2.2.2.2.1) h.2.2.2.2.2.2.2.2.2
theorem tLr {T:Av} {x:Ao} {u:TypeDesc} {z:Af AG} {size bytes:Nat} {id off:Nat} {e:Av} {ds:List D} (cs:List D) (l:LA P T u z size bytes true)
 (h:(o.op,o.dst,Bb (t+1) N,S.op x,S.ent id,Bb (off+size) ds.length,(ds.drop off).take size)=(.load T x,some t,true,.ref id off,.blk e ds,true,cs)):IOp P O N o S (S.set t (.agg cs)):=by
 simp only [Prod.mk.injEq] at h
 exact lra cs l h.1 h.2.1 h.2.2.1 h.2.2.2.1 h.2.2.2.2.1 (nle h.2.2.2.2.2.1) h.2.2.2.2.2.2
theorem tAs {x:Ao} (d:D) (h:(o.op,o.dst,Bb (t+1) N,S.op x)=(.assign x,some t,true,d)):IOp P O N o S (S.set t d):=by
 simp only [Prod.mk.injEq] at h
 exact bP h.1 h.2.1 (lb h.2.2.1) (sv h.2.2.2)
theorem tBx {e:Av} {x:Ao} {cs:List D} (c:List D) (id:Nat) (h:(o.op,o.dst,Bb (t+1) N,S.ent id,S.op x,(D.agg c).boxable,(D.agg c).cells)=(.box e x,some t,true,.fresh,.agg c,true,cs)):IOp P O N o S ((S.setE id (.blk e cs)).set t (.ref id 0)):=by
 simp only [Prod.mk.injEq] at h
 exact jJ id h.1 h.2.1 (lb h.2.2.1) h.2.2.2.1 (svA c h.2.2.2.2.1) h.2.2.2.2.2.1 h.2.2.2.2.2.2
theorem tI {x:Ao} {k:IntKind} {n:Int} (h:(o.op,o.dst,Bb (t+1) N,S.op x)=(.move x,some t,true,.int k n)):IOp P O N o S (S.set t (.int k n)):=by
 simp only [Prod.mk.injEq] at h
 exact mvI h.1 h.2.1 h.2.2.1 h.2.2.2
theorem tB {x:Ao} {n:Bool} (h:(o.op,o.dst,Bb (t+1) N,S.op x)=(.move x,some t,true,.bool n)):IOp P O N o S (S.set t (.bool n)):=by
 simp only [Prod.mk.injEq] at h
 exact mvB h.1 h.2.1 h.2.2.1 h.2.2.2
theorem tAI {x:Ao} {k:IntKind} {n:Int} (h:(o.op,o.dst,Bb (t+1) N,S.op x)=(.assign x,some t,true,.int k n)):IOp P O N o S (S.set t (.int k n)):=by
 simp only [Prod.mk.injEq] at h
 exact asI h.1 h.2.1 h.2.2.1 h.2.2.2
theorem tAB {x:Ao} {n:Bool} (h:(o.op,o.dst,Bb (t+1) N,S.op x)=(.assign x,some t,true,.bool n)):IOp P O N o S (S.set t (.bool n)):=by
 simp only [Prod.mk.injEq] at h
 exact asB h.1 h.2.1 h.2.2.1 h.2.2.2
theorem tMv {x:Ao} (d:D) (h:(o.op,o.dst,Bb (t+1) N,S.op x)=(.move x,some t,true,d)):IOp P O N o S (S.set t d):=by
 simp only [Prod.mk.injEq] at h
 exact bN h.1 h.2.1 (lb h.2.2.1) (sv h.2.2.2)
theorem tEx {x:Ao} {i:Nat} {cs:List D} {d:D} (h:(o.op,o.dst,Bb (t+1) N,S.op x,cs[i]?)=(.extract x i,some t,true,.tuple cs,some d)):IOp P O N o S (S.set t d):=by
 simp only [Prod.mk.injEq] at h
 exact hM h.1 h.2.1 (lb h.2.2.1) (sv h.2.2.2.1) h.2.2.2.2
theorem tCm {op:BinOp} {xt yt:Av} {x y:Ao} {k:IntKind} {a b:Int} {c c':Bool} (h:(o.op,o.dst,Bb (t+1) N,S.op x,S.op y,int2 op k a b)=(.binOp op xt x y yt,some t,true,.int k a,.int k b,some (.bool c))) (hc:c=c'):IOp P O N o S (S.set t (.bool c')):=by
 simp only [Prod.mk.injEq] at h
 exact gY h.1 h.2.1 (lb h.2.2.1) (svI h.2.2.2.1) (svI h.2.2.2.2.1) h.2.2.2.2.2 hc
theorem tCg {op:BinOp} {xt yt:Av} {x y:Ao} {k:IntKind} {a b:Int} {c c' g:Bool} (h:(o.op,o.dst,Bb (t+1) N,S.op x,S.op y,int2 op k a b)=(.binOp op xt x y yt,some t,true,.cnd g (.int k a),.int k b,some (.bool c))) (hb:g=true) (hc:c=c'):IOp P O N o S (S.set t (.bool c')):=by
 simp only [Prod.mk.injEq] at h
 exact gY h.1 h.2.1 (lb h.2.2.1) (svcI h.2.2.2.1 hb) (svI h.2.2.2.2.1) h.2.2.2.2.2 hc
theorem tCh {op:BinOp} {xt yt:Av} {x y:Ao} {k:IntKind} {a b:Int} {c c' g:Bool} (h:(o.op,o.dst,Bb (t+1) N,S.op x,S.op y,int2 op k a b)=(.binOp op xt x y yt,some t,true,.cnd g (.int k a),.cnd g (.int k b),some (.bool c))) (hb:g=true) (hc:c=c'):IOp P O N o S (S.set t (.bool c')):=by
 simp only [Prod.mk.injEq] at h
 exact gY h.1 h.2.1 (lb h.2.2.1) (svcI h.2.2.2.1 hb) (svcI h.2.2.2.2.1 hb) h.2.2.2.2.2 hc
theorem tOr {c x y:Ao} {b z r:Bool} (h:(o.op,o.dst,Bb (t+1) N,S.op c,S.op x,S.op y)=(.pick c x y,some t,true,.bool b,.bool true,.cnd (b == false) (.bool z))) (hr:(b||z)=r):IOp P O N o S (S.set t (.bool r)):=by
 simp only [Prod.mk.injEq] at h
 exact aB3 h.1 h.2.1 (lb h.2.2.1) (svB h.2.2.2.1) h.2.2.2.2.1 h.2.2.2.2.2 hr
theorem tAn {c x y:Ao} {b z r:Bool} (h:(o.op,o.dst,Bb (t+1) N,S.op c,S.op x,S.op y)=(.pick c x y,some t,true,.bool b,.cnd (b == true) (.bool z),.bool false)) (hr:(b&&z)=r):IOp P O N o S (S.set t (.bool r)):=by
 simp only [Prod.mk.injEq] at h
 exact lJ h.1 h.2.1 (lb h.2.2.1) (svB h.2.2.2.1) h.2.2.2.2.1 h.2.2.2.2.2 hr
theorem dMv {ops:Array Oper} {i:Nat} {S0:St} {rs ri:List Nat} {s:Nat} {d:D} (h:(ops[i]?,nP o,o.op,o.dst,Bb (t+1) N,rs.elem s,S0.get s)=(some o,true,.move (.tmp s),some t,true,true,d)):LOp P O N ops i S0 ⟨rs,ri,[(t,d)],[]⟩:=by
 simp only [Prod.mk.injEq] at h
 exact lop h.1 h.2.1 fun S hA=>bN h.2.2.1 h.2.2.2.1 (lb h.2.2.2.2.1) (sv (agr hA h.2.2.2.2.2.1 h.2.2.2.2.2.2))
theorem dFa {ops:Array Oper} {i:Nat} {S0:St} {rs ri:List Nat} {T:Av} {s:Nat} {k:Nat} {fs:Array Field} {F:Field} {z:Af AG} {size bytes:Nat} {id off:Nat} (off':Nat) (hu:P.underlying T=some (.struct fs)) (h:(ops[i]?,nP o,o.op,o.dst,Bb (t+1) N,fs[k]?)=(some o,true,.fieldAddr T (.tmp s) k,some t,true,some F)) (hi:TI P F.type z size bytes)
 (h2:(Bb (0+1) size,rs.elem s,S0.get s,off+F.offset)=(true,true,.ref id off,off')):LOp P O N ops i S0 ⟨rs,ri,[(t,.ref id off')],[]⟩:=by
 simp only [Prod.mk.injEq] at h h2
 exact lop h.1 h.2.1 fun S hA=>fI h.2.2.1 h.2.2.2.1 (lb h.2.2.2.2.1) hu h.2.2.2.2.2 hi (lb h2.1) (sv (agr hA h2.2.1 h2.2.2.1)) h2.2.2.2
theorem dLd {ops:Array Oper} {i:Nat} {S0:St} {rs ri:List Nat} {T:Av} {s:Nat} {u:TypeDesc} {z:Af AG} {size bytes:Nat} {id off:Nat} {e:Av} {ds r:List D} {d:D} (hu:P.underlying T=some u) (hg:iU P T=false) (hi:TI P T z size bytes)
 (h:(ops[i]?,nP o,o.op,o.dst,Bb (t+1) N,Bb (0+1) size,rs.elem s,S0.get s,ri.elem id,S0.ent id,Bb (off+size) ds.length,ds.drop off)=(some o,true,.load T (.tmp s),some t,true,true,true,.ref id off,true,.blk e ds,true,d::r)):LOp P O N ops i S0 ⟨rs,ri,[(t,d)],[]⟩:=by
 simp only [Prod.mk.injEq] at h
 obtain ⟨h1,h2,h3,h4,h5,h6,h7,h8,h9,h10,h11,h12⟩:=h
 exact lop h1 h2 fun S hA=>iN h3 h4 (lb h5) hu hg hi (lb h6) (sv (agr hA h7 h8)) (agi hA h9 h10) (nle h11) h12
theorem dLa {ops:Array Oper} {i:Nat} {S0:St} {rs ri:List Nat} {T:Av} {s:Nat} {u:TypeDesc} {z:Af AG} {size bytes:Nat} {id off:Nat} {e:Av} {ds cs:List D} (hu:P.underlying T=some u) (hg:iU P T=true) (hi:TI P T z size bytes)
 (h:(ops[i]?,nP o,o.op,o.dst,Bb (t+1) N,Bb (0+1) size,rs.elem s,S0.get s,ri.elem id,S0.ent id,Bb (off+size) ds.length,(ds.drop off).take size)=(some o,true,.load T (.tmp s),some t,true,true,true,.ref id off,true,.blk e ds,true,cs)):LOp P O N ops i S0 ⟨rs,ri,[(t,.agg cs)],[]⟩:=by
 simp only [Prod.mk.injEq] at h
 obtain ⟨h1,h2,h3,h4,h5,h6,h7,h8,h9,h10,h11,h12⟩:=h
 exact lop h1 h2 fun S hA=>lR h3 h4 (lb h5) hu hg hi (lb h6) (sv (agr hA h7 h8)) (agi hA h9 h10) (nle h11) h12
theorem dSt {ops:Array Oper} {i:Nat} {S0:St} {rs ri:List Nat} {T:Av} {s v:Nat} {z:Af AG} {size bytes:Nat} {id off:Nat} {e:Av} {ds ds':List D} (c:List D) (hi:TI P T z size bytes)
 (h:(ops[i]?,nP o,o.op,o.dst,rs.elem s,S0.get s,ri.elem id,S0.ent id,rs.elem v,S0.get v,(D.agg c).boxable,(D.agg c).cells.length,(D.agg c).cells.all DZ,Bb (off+size) ds.length,gL ds off (D.agg c).cells)=(some o,true,.store T (.tmp s) (.tmp v),none,true,.ref id off,true,.blk e ds,true,.agg c,true,size,true,true,ds')):LOp P O N ops i S0 ⟨rs,ri,[],[(id,.blk e ds')]⟩:=by
 simp only [Prod.mk.injEq] at h
 obtain ⟨h1,h2,h3,h4,h5,h6,h7,h8,h9,h10,h11,h12,h13,h14,h15⟩:=h
 exact lop h1 h2 fun S hA=>eO h3 h4 hi (sv (agr hA h5 h6)) (agi hA h7 h8) (sv (agr hA h9 h10)) h11 h12 h13 (nle h14) h15
theorem gD {ops:Array Oper} {i:Nat} {S0:St} {rs ri:List Nat} {d:D} {j tj:Nat} {want b:Bool} (h:(ops[i]?,o.guard,(ops[j]?).bind (·.dst),o.dst,rC o.op,Bb (t+1) N,rs.elem tj,S0.get tj)=(some o,some (j,want),some tj,some t,true,true,true,.bool b))
 (x:∀ S,sA ⟨rs,ri,[(t,.cnd (b == want) d)],[]⟩ S S0→(b == want)=true→IOp P O N o S (S.set t d)):LOp P O N ops i S0 ⟨rs,ri,[(t,.cnd (b == want) d)],[]⟩:=by
 simp only [Prod.mk.injEq] at h
 obtain ⟨h1,h2,h3,h4,h5,h6,h7,h8⟩:=h
 exact lopg h1 h2 h3 (by rw [h4,h5]) (lb h6) (fun S hA=>grd1 hA h7 h8) x
theorem aQ {α:Type} {c:Ao} {x y:Code} {b:Bool} {A B r:α} (h:(bif b then A else B)=r) (hc:S.op c = .bool b) (h1:A=r→IWP P O N x S Q) (h2:B=r→IWP P O N y S Q):IWP P O N (.cond c x y) S Q :=
 kN hc (fun k=>h1 (zG h k)) (fun k=>h2 (yQ h k))
theorem eoo {α β ρ:Type} {e:Af α} {f:α→Af β} {q:α→β→Af ρ} {r:ρ} (h:bno (e) (fun x=>bno (f x) (q x))=some r):∃ x,e=some x∧∃ y,f x=some y∧q x y=some r:=by
 obtain ⟨x,h0,h⟩:=bV h
 obtain ⟨y,h1,h⟩:=bV h
 exact ⟨x,h0,y,h1,h⟩
theorem eod {α β ρ:Type} {e:Af α} {f:α→β} {q:α→β→Af ρ} {r:ρ} (h:bno (e) (fun x=>bnd (f x) (q x))=some r):∃ x,e=some x∧∃ y,f x=y∧q x y=some r:=by
 obtain ⟨x,h0,h⟩:=bV h
 obtain ⟨y,h1,h⟩:=bS h
 exact ⟨x,h0,y,h1,h⟩
theorem edo {α β ρ:Type} {e:α} {f:α→Af β} {q:α→β→Af ρ} {r:ρ} (h:bnd (e) (fun x=>bno (f x) (q x))=some r):∃ x,e=x∧∃ y,f x=some y∧q x y=some r:=by
 obtain ⟨x,h0,h⟩:=bS h
 obtain ⟨y,h1,h⟩:=bV h
 exact ⟨x,h0,y,h1,h⟩
theorem edd {α β ρ:Type} {e:α} {f:α→β} {q:α→β→Af ρ} {r:ρ} (h:bnd (e) (fun x=>bnd (f x) (q x))=some r):∃ x,e=x∧∃ y,f x=y∧q x y=some r:=by
 obtain ⟨x,h0,h⟩:=bS h
 obtain ⟨y,h1,h⟩:=bS h
 exact ⟨x,h0,y,h1,h⟩
theorem eooo {α β γ ρ:Type} {e:Af α} {f:α→Af β} {g:α→β→Af γ} {q:α→β→γ→Af ρ} {r:ρ} (h:bno (e) (fun x=>bno (f x) (fun y=>bno (g x y) (q x y)))=some r):∃ x,e=some x∧∃ y,f x=some y∧∃ z,g x y=some z∧q x y z=some r:=by
 obtain ⟨x,h0,h⟩:=bV h
 obtain ⟨y,h1,h⟩:=bV h
 obtain ⟨z,h2,h⟩:=bV h
 exact ⟨x,h0,y,h1,z,h2,h⟩
theorem eood {α β γ ρ:Type} {e:Af α} {f:α→Af β} {g:α→β→γ} {q:α→β→γ→Af ρ} {r:ρ} (h:bno (e) (fun x=>bno (f x) (fun y=>bnd (g x y) (q x y)))=some r):∃ x,e=some x∧∃ y,f x=some y∧∃ z,g x y=z∧q x y z=some r:=by
 obtain ⟨x,h0,h⟩:=bV h
 obtain ⟨y,h1,h⟩:=bV h
 obtain ⟨z,h2,h⟩:=bS h
 exact ⟨x,h0,y,h1,z,h2,h⟩
theorem eodo {α β γ ρ:Type} {e:Af α} {f:α→β} {g:α→β→Af γ} {q:α→β→γ→Af ρ} {r:ρ} (h:bno (e) (fun x=>bnd (f x) (fun y=>bno (g x y) (q x y)))=some r):∃ x,e=some x∧∃ y,f x=y∧∃ z,g x y=some z∧q x y z=some r:=by
 obtain ⟨x,h0,h⟩:=bV h
 obtain ⟨y,h1,h⟩:=bS h
 obtain ⟨z,h2,h⟩:=bV h
 exact ⟨x,h0,y,h1,z,h2,h⟩
theorem eodd {α β γ ρ:Type} {e:Af α} {f:α→β} {g:α→β→γ} {q:α→β→γ→Af ρ} {r:ρ} (h:bno (e) (fun x=>bnd (f x) (fun y=>bnd (g x y) (q x y)))=some r):∃ x,e=some x∧∃ y,f x=y∧∃ z,g x y=z∧q x y z=some r:=by
 obtain ⟨x,h0,h⟩:=bV h
 obtain ⟨y,h1,h⟩:=bS h
 obtain ⟨z,h2,h⟩:=bS h
 exact ⟨x,h0,y,h1,z,h2,h⟩
theorem edoo {α β γ ρ:Type} {e:α} {f:α→Af β} {g:α→β→Af γ} {q:α→β→γ→Af ρ} {r:ρ} (h:bnd (e) (fun x=>bno (f x) (fun y=>bno (g x y) (q x y)))=some r):∃ x,e=x∧∃ y,f x=some y∧∃ z,g x y=some z∧q x y z=some r:=by
 obtain ⟨x,h0,h⟩:=bS h
 obtain ⟨y,h1,h⟩:=bV h
 obtain ⟨z,h2,h⟩:=bV h
 exact ⟨x,h0,y,h1,z,h2,h⟩
theorem edod {α β γ ρ:Type} {e:α} {f:α→Af β} {g:α→β→γ} {q:α→β→γ→Af ρ} {r:ρ} (h:bnd (e) (fun x=>bno (f x) (fun y=>bnd (g x y) (q x y)))=some r):∃ x,e=x∧∃ y,f x=some y∧∃ z,g x y=z∧q x y z=some r:=by
 obtain ⟨x,h0,h⟩:=bS h
 obtain ⟨y,h1,h⟩:=bV h
 obtain ⟨z,h2,h⟩:=bS h
 exact ⟨x,h0,y,h1,z,h2,h⟩
theorem eddo {α β γ ρ:Type} {e:α} {f:α→β} {g:α→β→Af γ} {q:α→β→γ→Af ρ} {r:ρ} (h:bnd (e) (fun x=>bnd (f x) (fun y=>bno (g x y) (q x y)))=some r):∃ x,e=x∧∃ y,f x=y∧∃ z,g x y=some z∧q x y z=some r:=by
 obtain ⟨x,h0,h⟩:=bS h
 obtain ⟨y,h1,h⟩:=bS h
 obtain ⟨z,h2,h⟩:=bV h
 exact ⟨x,h0,y,h1,z,h2,h⟩
theorem eddd {α β γ ρ:Type} {e:α} {f:α→β} {g:α→β→γ} {q:α→β→γ→Af ρ} {r:ρ} (h:bnd (e) (fun x=>bnd (f x) (fun y=>bnd (g x y) (q x y)))=some r):∃ x,e=x∧∃ y,f x=y∧∃ z,g x y=z∧q x y z=some r:=by
 obtain ⟨x,h0,h⟩:=bS h
 obtain ⟨y,h1,h⟩:=bS h
 obtain ⟨z,h2,h⟩:=bS h
 exact ⟨x,h0,y,h1,z,h2,h⟩
abbrev nd1 (rs:List Nat) (t:Nat) (d:D):Node:=⟨rs,[],[(t,d)],[]⟩
abbrev nd2 (rs ri:List Nat) (t:Nat) (d:D):Node:=⟨rs,ri,[(t,d)],[]⟩
theorem cFa {ops:Array Oper} {ll:List Oper} {T:Av} {x:Ao} {i:Nat} {fs:Array Field} {F:Field} {z:Af AG} {size bytes:Nat} {id off:Nat} (off':Nat) (hu:P.underlying T=some (.struct fs)) (h:(nP o,o.op,o.dst,Bb (t+1) N,fs[i]?)=(true,.fieldAddr T x i,some t,true,some F)) (hi:TI P F.type z size bytes) (h2:(Bb (0+1) size,S.op x,off+F.offset)=(true,.ref id off,off')) (q:ILS P O N ops ll (S.set t (.ref id off')) Q):ILS P O N ops (o::ll) S Q :=
 aB (AJ CA h) (tFa off' hu (AJ De h) hi h2) q
theorem cLd {ops:Array Oper} {ll:List Oper} {T:Av} {x:Ao} {u:TypeDesc} {z:Af AG} {size bytes:Nat} {id off:Nat} {e:Av} {ds r:List D} {d:D} (hu:P.underlying T=some u) (hg:iU P T=false) (hi:TI P T z size bytes) (h:(nP o,o.op,o.dst,Bb (t+1) N,Bb (0+1) size,S.op x,S.ent id,Bb (off+size) ds.length,ds.drop off)=(true,.load T x,some t,true,true,.ref id off,.blk e ds,true,d::r)) (q:ILS P O N ops ll (S.set t d) Q):ILS P O N ops (o::ll) S Q :=
 aB (AJ CA h) (tLd hu hg hi (AJ De h)) q
theorem cSt {ops:Array Oper} {ll:List Oper} {T:Av} {x y:Ao} {z:Af AG} {size bytes:Nat} {id off:Nat} {e:Av} {ds:List D} (c ds':List D) (hi:TI P T z size bytes) (h:(nP o,o.op,o.dst,S.op x,S.ent id,S.op y,(D.agg c).boxable,(D.agg c).cells.length,(D.agg c).cells.all DZ,Bb (off+size) ds.length,gL ds off (D.agg c).cells)=(true,.store T x y,none,.ref id off,.blk e ds,.agg c,true,size,true,true,ds')) (q:ILS P O N ops ll (S.setE id (.blk e ds')) Q):ILS P O N ops (o::ll) S Q :=
 aB (AJ CA h) (tSt c ds' hi (AJ De h)) q
theorem cLr {ops:Array Oper} {ll:List Oper} {T:Av} {x:Ao} {u:TypeDesc} {z:Af AG} {size bytes:Nat} {id off:Nat} {e:Av} {ds:List D} (cs:List D) (l:LA P T u z size bytes true) (h:(nP o,o.op,o.dst,Bb (t+1) N,S.op x,S.ent id,Bb (off+size) ds.length,(ds.drop off).take size)=(true,.load T x,some t,true,.ref id off,.blk e ds,true,cs)) (q:ILS P O N ops ll (S.set t (.agg cs)) Q):ILS P O N ops (o::ll) S Q :=
 aB (AJ CA h) (tLr cs l (AJ De h)) q
theorem cAs {ops:Array Oper} {ll:List Oper} {x:Ao} (d:D) (h:(nP o,o.op,o.dst,Bb (t+1) N,S.op x)=(true,.assign x,some t,true,d)) (q:ILS P O N ops ll (S.set t d) Q):ILS P O N ops (o::ll) S Q :=
 aB (AJ CA h) (tAs d (AJ De h)) q
theorem cBx {ops:Array Oper} {ll:List Oper} {e:Av} {x:Ao} {cs:List D} (c:List D) (id:Nat) (h:(nP o,o.op,o.dst,Bb (t+1) N,S.ent id,S.op x,(D.agg c).boxable,(D.agg c).cells)=(true,.box e x,some t,true,.fresh,.agg c,true,cs)) (q:ILS P O N ops ll ((S.setE id (.blk e cs)).set t (.ref id 0)) Q):ILS P O N ops (o::ll) S Q :=
 aB (AJ CA h) (tBx c id (AJ De h)) q
theorem cI {ops:Array Oper} {ll:List Oper} {x:Ao} {k:IntKind} {n:Int} (h:(nP o,o.op,o.dst,Bb (t+1) N,S.op x)=(true,.move x,some t,true,.int k n)) (q:ILS P O N ops ll (S.set t (.int k n)) Q):ILS P O N ops (o::ll) S Q :=
 aB (AJ CA h) (tI (AJ De h)) q
theorem cB {ops:Array Oper} {ll:List Oper} {x:Ao} {n:Bool} (h:(nP o,o.op,o.dst,Bb (t+1) N,S.op x)=(true,.move x,some t,true,.bool n)) (q:ILS P O N ops ll (S.set t (.bool n)) Q):ILS P O N ops (o::ll) S Q :=
 aB (AJ CA h) (tB (AJ De h)) q
theorem cAI {ops:Array Oper} {ll:List Oper} {x:Ao} {k:IntKind} {n:Int} (h:(nP o,o.op,o.dst,Bb (t+1) N,S.op x)=(true,.assign x,some t,true,.int k n)) (q:ILS P O N ops ll (S.set t (.int k n)) Q):ILS P O N ops (o::ll) S Q :=
 aB (AJ CA h) (tAI (AJ De h)) q
theorem cAB {ops:Array Oper} {ll:List Oper} {x:Ao} {n:Bool} (h:(nP o,o.op,o.dst,Bb (t+1) N,S.op x)=(true,.assign x,some t,true,.bool n)) (q:ILS P O N ops ll (S.set t (.bool n)) Q):ILS P O N ops (o::ll) S Q :=
 aB (AJ CA h) (tAB (AJ De h)) q
theorem cMv {ops:Array Oper} {ll:List Oper} {x:Ao} (d:D) (h:(nP o,o.op,o.dst,Bb (t+1) N,S.op x)=(true,.move x,some t,true,d)) (q:ILS P O N ops ll (S.set t d) Q):ILS P O N ops (o::ll) S Q :=
 aB (AJ CA h) (tMv d (AJ De h)) q
theorem cEx {ops:Array Oper} {ll:List Oper} {x:Ao} {i:Nat} {cs:List D} {d:D} (h:(nP o,o.op,o.dst,Bb (t+1) N,S.op x,cs[i]?)=(true,.extract x i,some t,true,.tuple cs,some d)) (q:ILS P O N ops ll (S.set t d) Q):ILS P O N ops (o::ll) S Q :=
 aB (AJ CA h) (tEx (AJ De h)) q
theorem cCm {ops:Array Oper} {ll:List Oper} {op:BinOp} {xt yt:Av} {x y:Ao} {k:IntKind} {a b:Int} {c c':Bool} (h:(nP o,o.op,o.dst,Bb (t+1) N,S.op x,S.op y,int2 op k a b)=(true,.binOp op xt x y yt,some t,true,.int k a,.int k b,some (.bool c))) (hc:c=c') (q:ILS P O N ops ll (S.set t (.bool c')) Q):ILS P O N ops (o::ll) S Q :=
 aB (AJ CA h) (tCm (AJ De h) hc) q
theorem cOr {ops:Array Oper} {ll:List Oper} {c x y:Ao} {b z r:Bool} (h:(nP o,o.op,o.dst,Bb (t+1) N,S.op c,S.op x,S.op y)=(true,.pick c x y,some t,true,.bool b,.bool true,.cnd (b == false) (.bool z))) (hr:(b||z)=r) (q:ILS P O N ops ll (S.set t (.bool r)) Q):ILS P O N ops (o::ll) S Q :=
 aB (AJ CA h) (tOr (AJ De h) hr) q
theorem cAn {ops:Array Oper} {ll:List Oper} {c x y:Ao} {b z r:Bool} (h:(nP o,o.op,o.dst,Bb (t+1) N,S.op c,S.op x,S.op y)=(true,.pick c x y,some t,true,.bool b,.cnd (b == true) (.bool z),.bool false)) (hr:(b&&z)=r) (q:ILS P O N ops ll (S.set t (.bool r)) Q):ILS P O N ops (o::ll) S Q :=
 aB (AJ CA h) (tAn (AJ De h) hr) q
end
end Go.IL
namespace Go.IL
section
variable {P:Bc} {O:bK} {N:Nat} {S S':St} {o:Oper} {t:Nat}
end
end Go.IL
namespace Go.IL
section
variable {P:Bc} {O:bK} {N:Nat} {S S':St} {o:Oper} {t:Nat}
theorem zM {T e:Av} (h:P.underlying T=some (.pointer e)):P.underlying T=some (.pointer (P.pointee T)):=by
 unfold Program.pointee; rw [h]
theorem aEb {E:Env} {β:bC} {a:Act} {y:Ao} (hr:Rel O N S E β a) (hy:SV S y .nilp):a.eval y = .pointer none:=by
 have:=hy.rd hr
 generalize a.eval y=v at this
 cases this; rfl
theorem aEI {T e:Av} {p:Af Addr} (hu:P.underlying T=some (.pointer e)) (w:World) (neq:Bool):(binOp (if neq then .neq else .eql) T (.pointer p) (.pointer none)).run P w = .ok (.bool (if neq then !p.isNone else p.isNone)) w:=by
 cases neq
 · exact run_eql_pointer_nil w T p (zM hu)
 · exact run_neq_pointer_nil w T p (zM hu)
theorem uD {T T2 e:Av} {x y:Ao} {neq r:Bool} (ho:o.op = .binOp (if neq then .neq else .eql) T x y T2) (hd:o.dst=some t) (ht:t<N) (hu:P.underlying T=some (.pointer e))
 (hx:∀ E β a,Rel O N S E β a→∃ p,a.eval x = .pointer p∧(if neq then !p.isNone else p.isNone)=r) (hy:SV S y .nilp):IOp P O N o S (S.set t (.bool r)) :=
 gZ hd ht fun E β a hr=>by
  obtain ⟨p,hp,hq⟩:=hx E β a hr
  have hyv:=aEb hr hy
  have h1:=aEI (p:=p) hu E.w neq
  rw [hq] at h1
  exact ⟨_,by simp [execOp,ho,hp,hyv,eqGuard,h1],.bool _ _⟩
theorem oU {T T2 e:Av} {x y:Ao} {id off:Nat} (ho:o.op = .binOp .eql T x y T2) (hd:o.dst=some t) (ht:t<N) (hu:P.underlying T=some (.pointer e)) (hx:SV S x (.ref id off)) (hy:SV S y .nilp):IOp P O N o S (S.set t (.bool false)) :=
 uD (neq:=false) ho hd ht hu (fun E β a hr=>by obtain ⟨b,_,h⟩:=aBA (hx.rd hr); exact ⟨_,h,rfl⟩) hy
theorem aCw {T T2 e:Av} {x y:Ao} (ho:o.op = .binOp .eql T x y T2) (hd:o.dst=some t) (ht:t<N) (hu:P.underlying T=some (.pointer e)) (hx:SV S x .nilp) (hy:SV S y .nilp):IOp P O N o S (S.set t (.bool true)) :=
 uD (neq:=false) ho hd ht hu (fun E β a hr=>⟨_,aEb hr hx,rfl⟩) hy
end
end Go.IL
open _root_.Array renaming replicate → BI
open Go.IL.HOk renaming swap → FR
open List renaming nodup_cons → Bo
open Nat renaming strongRecOn → Eh
open Go.Lib
open Go.RowKit (Below)
namespace Go.IL
section
variable {P:Bc} {O:bK} {N:Nat} {S S':St} {o:Oper} {t:Nat} {Q:Exit→St→Prop}
theorem HOk.drop {E E':Env} {β:bC} {H H':Nat→Ent} {b id:Nat} (h:HOk O E β H) (hs:Step O E E' b) (hle:E.le E')
 (hother:∀ j,j≠id→H' j=H j) (hid:H' id = .none) (hap:∀ j,j≠id→(H j).held=true→β j≠some b):HOk O E' β H' where
 os:=hs.os.trans h.os
 tab:=h.tab
 tape:=hs.tape.trans h.tape
 output:=hs.output.trans h.output
 mbs:=h.mbs
 size:=BE h.size hs.size
 block k hk hf:=by
  have hne:k≠b:=by
   rintro rfl
   rcases hs.own with h1 | h1
   · omega
   · exact hf h1
  exact (hs.block k (by have:=h.size; omega) hne).trans (h.block k hk hf)
 xlt k o hX:=by
  by_cases hk:k=b
  · subst hk; exact hs.lt
  · exact BC (h.xlt k o ((hs.X k o hk).1 hX)) hs.size
 xold k o hk hf:=by
  have hne:k≠b:=by
   rintro rfl
   rcases hs.own with h1 | h1
   · omega
   · exact hf h1
  exact (hs.X k o hne).trans (h.xold k o hk hf)
 ent j:=by
  by_cases hj:j=id
  · subst hj; rw [hid]; trivial
  · rw [hother j hj]
    have hapj:=hap j hj
    have he:=h.ent j
    cases hH:H j with
    | none=>trivial
    | fresh=>rw [hH] at he; exact he
    | blk e ds =>
      rw [hH] at he hapj
      rcases he with ⟨h3,h4⟩ | ⟨k,vs,sp,h3,h4,h5,h6,h7⟩
      · exact .inl ⟨h3,h4⟩
      · have hne:k≠b:=fun e=>hapj rfl (e ▸ h3)
        exact .inr ⟨k,vs,sp,h3,h4,(hs.block k (cX h5) hne).trans h5,fun o=>(hs.X k o hne).2 (h6 o),AR hle (bC.le.refl _) h7⟩
    | tail e sz n =>
      rw [hH] at he hapj
      rcases he with ⟨h3,h4⟩ | ⟨k,c,h3,h4,h5,h6⟩
      · exact .inl ⟨h3,h4⟩
      · have hne:k≠b:=fun e=>hapj rfl (e ▸ h3)
        exact .inr ⟨k,c,h3,h4,(hs.block k (cX h5) hne).trans h5,fun o ho=>(hs.X k o hne).2 (h6 o ho)⟩
    | loop lk ds st pend =>
      rw [hH] at he hapj
      obtain ⟨k,r,h3,h4,h5,h6,h7,h8,h9,h10,h11,h12⟩:=he
      have hne:k≠b:=fun e=>hapj rfl (e ▸ h3)
      exact ⟨k,r,h3,h4,(hs.block k (cX h5) hne).trans h5,fun o=>(hs.X k o hne).2 (h6 o),h7,h8,h9,h10,h11,h12.1,AR hle (bC.le.refl _) h12.2⟩
    | mp ks ds =>
      rw [hH] at he hapj
      obtain ⟨k,es,cl,h3,h4,h5,h6,h7,h8⟩:=he
      have hne:k≠b:=fun e=>hapj rfl (e ▸ h3)
      exact ⟨k,es,cl,h3,h4,(hs.block k (cX h5) hne).trans h5,fun o=>(hs.X k o hne).2 (h6 o),h7,AR hle (bC.le.refl _) h8⟩
    | kept n ds =>
      rw [hH] at he
      refine ⟨AR hle (bC.le.refl _) he.1,fun c hc=>?_⟩
      have h5:=he.2 c hc
      by_cases hcb:c=b
      · subst hcb; exact AI h5 (hs.dfr _)
      · exact (hs.block c (cX h5) hcb).trans h5
 le:=h.le.trans hle
 gid:=h.gid
 given i b hi:=h.given i b hi
 inj i j k hi hj h1 h2:=by
  have hii:i≠id:=fun e=>by rw [e,hid] at hi; cases hi
  have hjj:j≠id:=fun e=>by rw [e,hid] at hj; cases hj
  exact h.inj i j k (hother i hii ▸ hi) (hother j hjj ▸ hj) h1 h2
structure bK.Semi (O:bK):Prop where
 round:O.round=none
 foot:O.FootOk
structure bK.SemiL (L:List Nat) (O:bK):Prop where
 round:O.round=none
 foot:O.FootOk
 dv:∀ j,j ∉ L→O.dv j=[]
theorem bK.Plain.semiL {O:bK} (h:O.Plain):O.SemiL []:=⟨h.round,h.foot,fun j _=>h.dv j⟩
theorem sG {g : Ao} {ps:Array Tmp} {acx bd:Code} {f:BZ} {fn:Func} {c:Code} {caps:List D} {L:List Nat} (k idL idK:Nat)
 (hg:SV S g (.fn f caps)) (hc:aY P f) (hf:P.funcs[f]? = some fn) (hb:fn.body=some c) (hres:fn.results = #[]) {N':Nat} (hn:fn.ntmps=N') (hN':caps.length+1≤N')
 (hfr:aBa k [] S.H=true) (hL:S.ent idL = .fresh) (hO:O.SemiL L) (hkL:∀ j∈L,∃ i ds,S.ent i = .kept j ds)
 (h:∀ O',O'.SemiL (k::L)→O'.lc k=(ps,acx,bd)→IWP P O' N' c ⟨(By (.yld idL::caps).length).zip (.yld idL::caps),(idK,.kept k (allD N S))::(idL,.loop k (allD N S) .ready none)::S.H⟩ (aGz P O N k Q)):IWP P O N (.rangeFunc g ps acx bd) S Q:=by
 subst hn
 obtain ⟨Ow,OX,Of,Og,Or,Okv,Olv,Odv,Olc,Omb⟩:=O
 obtain ⟨hro,hfoot,hdv⟩:=hO
 simp only at hro hfoot hdv
 subst hro
 intro E β a hr
 obtain ⟨bs,hbs,hnd,hall⟩:=hr.nd
 have hdvn:∀ j,E.w.heap.size ∉ Odv j:=fun j hm=>by
  by_cases hj:j∈L
  · obtain ⟨i,ds,hi⟩:=hkL j hj
    have he:=hr.h.ent i
    rw [hi] at he
    exact BO _ (cX (he.2 _ hm))
  · rw [hdv j hj] at hm; cases hm
 obtain ⟨vs,hev,hcaps⟩:=aDU (hg.rd hr)
 refine wpIn_rangeFunc ?_
 intro fn0 _
 let r0:Loop:={ state:=.ready,pending:=none,fn:=fn0,tmps:=a.tmps,params:=ps,assign:=acx,body:=bd,defers:=E.w.heap.size }
 let W0:=E.w.alloc (.deferred (some []))
 have hsz0:W0.heap.size=E.w.heap.size+1:=by simp [W0]
 let W1:=W0.alloc (.loop r0)
 have hb0:Below E.w.heap.size E.w W0:=(Below.refl _ _).alloc (AO _) _
 refine ⟨E.w.heap.size+1,[{ target:=.collected E.w.heap.size,args:=#[] }],W1,{ target:=.fn (.func f) vs.toArray,args:=#[.func (.yield (E.w.heap.size+1)) #[] #[]] },W1,f,
  #[.func (.yield (E.w.heap.size+1)) #[] #[]]++vs.toArray,W1,run_enterLoop_outer _ _ _ _ _,?_,fun _ _=>trivial,?_,fun h=>by simp [fen,Fence.wide] at h,?_⟩
 · simp only [resolve,hev]
   simp [go_sem]
 · simp [invoke,iB hc]
 let O':bK:=⟨Ow,OX,Of,Og,none,fun j=>if j=k then a.tmps.toList else Okv j,fun j=>if j=k then E.w.heap.size+1 else Olv j,fun j=>if j=k then E.w.heap.size::bs else Odv j,fun j=>if j=k then (ps,acx,bd) else Olc j,Omb⟩
 have hsame:(⟨Ow,OX,Of,Og,none,Okv,Olv,Odv,Olc,Omb⟩:bK).same O':=⟨rfl,rfl,rfl,rfl,rfl⟩
 have hcomp : ∀ e,noK k e=true→oS ⟨Ow,OX,Of,Og,none,Okv,Olv,Odv,Olc,Omb⟩ O' e∧oS O' ⟨Ow,OX,Of,Og,none,Okv,Olv,Odv,Olc,Omb⟩ e:=fun e he=>by
  cases e with
  | kept j ds => have:j≠k:=by simpa [noK] using he
                 simp [oS,O',this]
  | loop j => have:j≠k:=by simpa [noK] using he
              simp [oS,O',this]
  | _=>exact ⟨trivial,trivial⟩
 have h0:HOk O' ⟨W0,E.X⟩ β (entL S.H):=(hr.h.below hb0).swap hsame fun id=>.inl ⟨rfl,(hcomp _ (nU hfr (by simp))).1⟩
 let E1:Env:=⟨W1,fun b o=>b=E.w.heap.size+1∨E.X b o⟩
 let β1:bC:=fun j=>if j=idL then some (E.w.heap.size+1) else β j
 have hfrL:β idL=none:=by have:=hr.h.ent idL; rw [hL] at this; exact this
 have hβ:β.le β1:=fun j b hj=>by
  by_cases hji:j=idL
  · subst hji; rw [hfrL] at hj; cases hj
  · simp [β1,hji,hj]
 have hs:Step O' ⟨W0,E.X⟩ E1 (E.w.heap.size+1) :=
  ⟨rfl,rfl,rfl,by simp [E1,W1],by simp [E1,W1,hsz0],.inl (by have:=h0.size; simp only [hsz0] at this; exact this),fun j hj _=>heap_alloc_old _ _ hj,fun j o hj=>by simp [E1,hj],fun _ hx=>by have h9:E.w.heap.size+1<W0.heap.size:=cX hx; omega⟩
 have hle:(⟨W0,E.X⟩:Env).le E1:=hs.le (fun o v hx _=>by have:=World.block_lt_of_cell? _ _ hx; simp [hsz0] at this) (fun c e f hx=>by have:=cX hx; simp [hsz0] at this)
 have hle0:E.le E1:=(nB hb0).trans hle
 have hnew:W1.heap[E.w.heap.size+1]? = some (.loop r0):=by have:=World.alloc_heap_new W0 (.loop r0); rwa [hsz0] at this
 have hdef:W1.heap[E.w.heap.size]? = some (.deferred (some [])):=(heap_alloc_old _ _ (by omega)).trans (World.alloc_heap_new E.w _)
 have hrd:RdL E1 β1 a.tmps.toList (allD N S):=AR hle0 hβ (wJ hr)
 have h1:HOk O' E1 β1 (entL ((idL,.loop k (allD N S) .ready none)::S.H)):=by
  refine Da h0 hs hle hβ (id:=idL) (fun j hj=>?_) (fun j hj hh hb=>?_) (by simp [β1]) ?_ (fun _ _=>trivial)
  · left; exact ⟨by show look _ _ _=_; rw [aN,Aq (Ne.symm hj)]; rfl,by simp [β1,hj]⟩
  · have hh':(look (defE j) j ((idL,.loop k (allD N S) .ready none)::S.H)).held=true:=hh
    rw [aN,Aq (Ne.symm hj)] at hh'
    have:=h0.lt (j:=j) hh' hb
    simp [hsz0] at this
  · show aD4 O' E1 β1 _ (look _ _ _)
    rw [aN,Ay rfl]
    exact ⟨r0,hnew,fun o=>.inl rfl,by simp [O',r0],by simp [O',r0],by simp [O',r0],rfl,rfl,by simp [O'],hrd⟩
 have h2:HOk O' E1 β1 (entL ((idK,.kept k (allD N S))::(idL,.loop k (allD N S) .ready none)::S.H)):=by
  refine h1.addK (by simpa [O'] using hrd) fun b hb=>?_
  have hb':b∈E.w.heap.size::bs:=by simpa [O'] using hb
  rcases Ax.1 hb' with rfl | hb'
  · exact hdef
  · have hx:=(hall b hb').2
    have hlt:=cX hx
    exact ((heap_alloc_old W0 _ (by omega)).trans (heap_alloc_old E.w _ hlt)).trans hx
 have hargs:RdL E1 β1 (Value.func (.yield (E.w.heap.size+1)) #[] #[]::vs) (.yld idL::caps):=.cons (.yld _ _ _ (by simp [β1])) (AR hle0 hβ hcaps)
 have hlen:=hargs.length
 have hrel:Rel O' fn.ntmps ⟨(By (D.yld idL::caps).length).zip (.yld idL::caps),(idK,.kept k (allD N S))::(idL,.loop k (allD N S) .ready none)::S.H⟩ E1 β1
  { tmps:=(#[Value.func (.yield (E.w.heap.size+1)) #[] #[]]++vs.toArray)++BI (fn.ntmps-(#[Value.func (.yield (E.w.heap.size+1)) #[] #[]]++vs.toArray).size) undef,defers:=[] }:=by
  refine ⟨by simp at hlen ⊢; omega,qL.nil,h2,fun s=>?_⟩
  have:=tS hargs (fn.ntmps-(#[Value.func (.yield (E.w.heap.size+1)) #[] #[]]++vs.toArray).size) s
  show Rd E1 β1 _ (look _ _ _)
  simpa using this
 refine callsIn_wide (n:=0) |>.2 (nI (E:=E1) (O:=O') hf hb rfl hfoot hrel (h O' ⟨rfl,hfoot,fun j hj=>by
  have h1:j≠k:=fun e=>hj (by simp [e])
  have h2:j ∉ L:=fun e=>hj (by simp [e])
  show (if j=k then _ else Odv j)=[]
  rw [Aq h1]; exact hdv j h2⟩ (by simp [O'])) ?_)
 rintro e S2 E2 β2 a2 hr2 ⟨he,iL,iK,dl,ds',st,pend,hentL,hst,hentK,hfree,S3,ρ3,hw3,hQ⟩
 refine ⟨he,.tuple #[],by simp [results,hres],?_⟩
 obtain ⟨r,g1,g2,g3,g4,g5,g6,g7,g8⟩:=hr2.h.turn (H:=S2.H) hentL
 obtain ⟨g9,g10⟩:=g8 .exhausted pend
 have hlk:O'.lv k=E.w.heap.size+1:=by simp [O']
 rw [hlk] at g1 g9 g10
 have hkept:=hr2.h.ent iK
 rw [hentK] at hkept
 obtain ⟨k1,k2⟩:=hkept
 have hkv:O'.kv k=a.tmps.toList:=by simp [O']
 have hdk:O'.dv k=E.w.heap.size::bs:=by simp [O']
 rw [hkv] at k1; rw [hdk] at k2
 have hds':ds'.length=N:=by rw [←k1.length]; simpa using hr.n
 let E3:Env:=⟨E2.w.putObj (E.w.heap.size+1) (.loop { r with state:=.exhausted,pending:=pend }),E2.X⟩
 have hrel3:Rel ⟨Ow,OX,Of,Og,none,Okv,Olv,Odv,Olc,Omb⟩ N ⟨(By N).zip ds',(iK,.none)::(iL,.none)::S2.H⟩ E3 β2 { a with defers:={ target:=.collected E.w.heap.size,args:=#[] }::a.defers }:=by
  refine ⟨hr.n,⟨E.w.heap.size::bs,by rw [Aj,←hbs],?_,?_⟩,?_,fun s=>?_⟩
  · rw [Bo]
    exact ⟨fun hm=>BO _ (cX (hall _ hm).2),hnd⟩
  · intro b hb
    refine ⟨⟨?_,?_⟩,(World.putObj_heap_other ?_).trans (k2 b hb)⟩
    rotate_left
    · rcases Ax.1 hb with rfl | hb
      · exact hdvn
      · exact (hall b hb).1.2
    rotate_left
    · rcases Ax.1 hb with rfl | hb
      · exact BE hr.h.mbs hr.h.size
      · exact (hall b hb).1.1
    · rintro rfl; have:=k2 _ hb; rw [g1] at this; cases this
  · refine FR (O:=O') (H:=entL ((iL,.loop k dl .exhausted pend)::S2.H)) g10 ⟨rfl,rfl,rfl,rfl,rfl⟩ fun id=>?_
    show (look _ _ _=look _ _ _∧_)∨_
    simp only [aN]
    by_cases h5:iK=id
    · right; show look _ _ _=_; rw [aN,Ay h5]
    · by_cases h6:iL=id
      · right; show look _ _ _=_; rw [aN,Aq h5,aN,Ay h6]
      · left
        rw [Aq h5,Aq h6]
        refine ⟨by first | rfl | rw [Aq h6],(hcomp _ ?_).2⟩
        show noK k (look _ _ _)=true
        rw [aN,Aq h6]
        exact nU hfree (by simp; exact ⟨Ne.symm h6,Ne.symm h5⟩)
  · have:=qN (AR g9 (bC.le.refl _) k1) s
    rw [hds'] at this
    exact this
 refine ⟨pend,E3.w,?_,?_⟩
 · have:=run_endLoop (P:=P) (l:=E.w.heap.size+1) g1 (by rw [g6]; exact hst)
   rw [g7] at this
   exact this
 · cases pend with
   | none=>obtain ⟨β4,hr4⟩:=hrel3.weak hw3; exact ⟨_,E3,β4,rfl,hr4,hQ⟩
   | some c=>obtain ⟨β4,hr4⟩:=hrel3.weak hw3; exact hQ E3 β4 _ hr4

theorem kO {ops:Array Oper} {o:Oper} {l:List Oper} {xs:List Ao} {ts:Array Av} {f:BZ} {fn:Func} {c:Code} {t:Nat} {ds:List D} {L:List Nat} (k2 idK:Nat) (hg:nP o=true)
 (ho:o.op = .call { callee:=.value (.func f),args:=xs.toArray,argTypes:=ts }) (hd:o.dst=some t) (ht:t<N) (hc:aY P f) (hf:P.funcs[f]? = some fn) (hb:fn.body=some c) (hxs:SVs S xs ds) {N':Nat} (hn:fn.ntmps=N') (hN:ds.length≤N')
 (hfr:aBa k2 [] S.H=true) (hO:O.SemiL L)
 (h:∀ O',O'.SemiL (k2::L)→IWP P O' N' c ⟨(By ds.length).zip ds,(idK,.kept k2 (allD N S))::S.H⟩ (inlQ P O N t k2 fn ops l Q)):ILS P O N ops (o::l) S Q:=by
 subst hn
 obtain ⟨Ow,OX,Of,Og,Or,Okv,Olv,Odv,Olc,Omb⟩:=O
 obtain ⟨hro,hfoot,hdv⟩:=hO
 simp only at hro hfoot hdv
 subst hro
 intro E β a hr
 obtain ⟨bs,hbs,hnd,hall⟩:=hr.nd
 refine wpListIn_plain (oM hg).1 fun K hK'=>aDL _ (oM hg).2 ?_
 have hrun:(execOp a.eval o).run P E.w = .ok (.enter f (xs.map a.eval).toArray) E.w:=by
  simp [execOp,ho,resolve,Deferred.ofValue,Act.eval,invoke,iB hc]
 unfold Oper.wp
 rw [hrun]
 simp only [Oper.upon,hd]
 let O':bK:=⟨Ow,OX,Of,Og,none,fun j=>if j=k2 then a.tmps.toList else Okv j,Olv,fun j=>if j=k2 then bs else Odv j,Olc,Omb⟩
 have hcomp:∀ e,noK k2 e=true→oS ⟨Ow,OX,Of,Og,none,Okv,Olv,Odv,Olc,Omb⟩ O' e∧oS O' ⟨Ow,OX,Of,Og,none,Okv,Olv,Odv,Olc,Omb⟩ e:=fun e he=>by
  cases e with
  | kept j ds => have:j≠k2:=by simpa [noK] using he
                 simp [oS,O',this]
  | loop j=>simp [oS,O']
  | _=>exact ⟨trivial,trivial⟩
 have h0:HOk O' E β (entL S.H):=hr.h.swap ⟨rfl,rfl,rfl,rfl,rfl⟩ fun id=>.inl ⟨rfl,(hcomp _ (nU hfr (by simp))).1⟩
 have h1:HOk O' E β (entL ((idK,.kept k2 (allD N S))::S.H)):=h0.addK (by simpa [O'] using wJ hr) fun c hc=>(hall c (by simpa [O'] using hc)).2
 have hargs:=hxs.rd hr
 have hlen:=hargs.length
 have hrel:Rel O' fn.ntmps ⟨(By ds.length).zip ds,(idK,.kept k2 (allD N S))::S.H⟩ E β { tmps:=(xs.map a.eval).toArray++BI (fn.ntmps-(xs.map a.eval).toArray.size) undef,defers:=[] }:=by
  refine ⟨by simp at hlen ⊢; omega,qL.nil,h1,fun s=>?_⟩
  have:=tS hargs (fn.ntmps-(xs.map a.eval).toArray.size) s
  show Rd E β _ (look _ _ _)
  simpa using this
 refine nI (E:=E) (O:=O') hf hb rfl hfoot hrel (h O' ⟨rfl,hfoot,fun j hj=>by
  have h1:j≠k2:=fun e=>hj (by simp [e])
  have h2:j ∉ L:=fun e=>hj (by simp [e])
  show (if j=k2 then _ else Odv j)=[]
  rw [Aq h1]; exact hdv j h2⟩) ?_
 rintro e S2 E2 β2 a2 hr2 ⟨he,iK,dk,rs,hres,hentK,hfree,S5,ρ5,hw5,hils⟩
 refine ⟨he,?_⟩
 obtain ⟨v,hv,hrd⟩:=aFz hr2 hres
 have hkept:=hr2.h.ent iK
 rw [hentK] at hkept
 obtain ⟨k1,k2'⟩:=hkept
 have hkv:O'.kv k2=a.tmps.toList:=by simp [O']
 have hdk:O'.dv k2=bs:=by simp [O']
 rw [hkv] at k1; rw [hdk] at k2'
 have hdk3:dk.length=N:=by rw [←k1.length]; simpa using hr.n
 suffices hrel5:Rel ⟨Ow,OX,Of,Og,none,Okv,Olv,Odv,Olc,Omb⟩ N ⟨(t,retD rs)::(By N).zip dk,(iK,.none)::S2.H⟩ E2 β2 (a.put (some t) v) by
  obtain ⟨β5,hr5⟩:=hrel5.weak hw5
  exact ⟨v,hv,hK' _ _ (hils E2 β5 _ hr5)⟩
 refine Rel.set (S:=⟨(By N).zip dk,(iK,.none)::S2.H⟩) ⟨hr.n,⟨bs,hbs,hnd,fun c hc=>⟨(hall c hc).1,k2' c hc⟩⟩,?_,fun s=>?_⟩ ht hrd
 · refine FR (O:=O') (H:=entL S2.H) hr2.h ⟨rfl,rfl,rfl,rfl,rfl⟩ fun id=>?_
   by_cases h5:iK=id
   · right; show look _ _ _=_; rw [aN,Ay h5]
   · left
     refine ⟨by show look _ _ _=look _ _ _; rw [aN,Aq h5],(hcomp _ ?_).2⟩
     exact nU hfree (by simp; exact Ne.symm h5)
 · have:=qN k1 s
   rw [hdk3] at this
   exact this
def LG (P:Bc) (O:bK) (N:Nat) (c:Code) (Q:Exit→St→Prop) (S:St):Prop :=
 ∀ E β a,Rel O N S E β a→∀ (b:Frame) (k:List Item) (cs:List Frame),b.roundOf=(fen O.round).round→(fen O.round).fn b.fn→(fen O.round).room (cs.length+1+0) →
   ∃ e a' w',(∃ S' E' β',E'.w=w'∧Rel O N S' E' β' a'∧Q e S')∧ArrivesIn (Machine.fenced P (fen O.round)) P (lone (b.atR a (.code c :: .inLoop c::k)) cs E.w) b k cs e a' w'
theorem aCp {c:Code} (h:IWP P O N c S (aAK (LG P O N c Q) Q)):LG P O N c Q S:=by
 intro E β a hr b k cs hro hb hroom
 obtain ⟨e,a₁,w₁,⟨S₁,E₁,β₁,rfl,hr₁,hq⟩,harr⟩:=h E β a hr b (.inLoop c::k) cs hro hb hroom
 cases e with
 | normal =>
   obtain ⟨e₂,a₂,w₂,hq₂,harr₂⟩:=hq E₁ β₁ a₁ hr₁ b k cs hro hb hroom
   exact ⟨e₂,a₂,w₂,hq₂,.of_steps (StepsIn.trans harr (.one (fenced_calm hb hroom rfl) stepR_inLoop)) harr₂⟩
 | exit id=>exact ⟨_,a₁,_,⟨S₁,E₁,β₁,rfl,hr₁,hq⟩,.pass (x:=.inLoop c) rfl (fun _ _=>.inl (by simp)) harr⟩
 | goto l=>exact ⟨_,a₁,_,⟨S₁,E₁,β₁,rfl,hr₁,hq⟩,.pass (x:=.inLoop c) rfl (fun _ _=>.inl (by simp)) harr⟩
 | ret=>exact ⟨_,a₁,_,⟨S₁,E₁,β₁,rfl,hr₁,hq⟩,.pass (x:=.inLoop c) rfl (fun _ _=>.inl (by simp)) harr⟩
 | panic ch=>exact ⟨_,a₁,_,⟨S₁,E₁,β₁,rfl,hr₁,hq⟩,.pass (x:=.inLoop c) rfl (fun _ _=>.inl (by simp)) harr⟩
 | outgrown=>exact ⟨_,a₁,_,⟨S₁,E₁,β₁,rfl,hr₁,hq⟩,.pass (x:=.inLoop c) rfl (fun _ _=>.inl (by simp)) harr⟩
theorem yA {c:Code} (h:LG P O N c Q S):IWP P O N (.loop c) S Q:=by
 intro E β a hr b k cs hro hb hroom
 obtain ⟨e,a',w',hq,harr⟩:=h E β a hr b k cs hro hb hroom
 exact ⟨e,a',w',hq,.of_steps (.one (fenced_calm hb hroom rfl) stepR_loop) harr⟩
theorem aCq {α:Type} {c:Code} (st:α→St) (inv:α→Prop) (m:α→Nat) (a0:α) (ρ0:Nat→Nat) (h0:Weak S (st a0) ρ0) (i0:inv a0)
 (round:∀ x,inv x→IWP P O N c (st x) (aAK (fun S'=>∃ y ρ,Weak S' (st y) ρ∧inv y∧m y<m x) Q)):LG P O N c Q S:=by
 intro E β a hr b k cs hro hb hroom
 have key:∀ n x E β a,m x=n→inv x→Rel O N (st x) E β a →
  ∃ e a' w',(∃ S' E' β',E'.w=w'∧Rel O N S' E' β' a'∧Q e S')∧ArrivesIn (Machine.fenced P (fen O.round)) P (lone (b.atR a (.code c :: .inLoop c::k)) cs E.w) b k cs e a' w':=by
  intro n
  induction n using Eh with
  | _ n ih =>
    intro x E β a hn hI hr
    obtain ⟨e,a₁,w₁,⟨S₁,E₁,β₁,rfl,hr₁,hq⟩,harr⟩:=round x hI E β a hr b (.inLoop c::k) cs hro hb hroom
    cases e with
    | normal =>
      obtain ⟨y,ρ,hw,hI₁,hlt⟩:=hq
      obtain ⟨β₂,hr₂⟩:=hr₁.weak hw
      obtain ⟨e₂,a₂,w₂,hq₂,harr₂⟩:=ih (m y) (hn ▸ hlt) y E₁ β₂ a₁ rfl hI₁ hr₂
      exact ⟨e₂,a₂,w₂,hq₂,.of_steps (StepsIn.trans harr (.one (fenced_calm hb hroom rfl) stepR_inLoop)) harr₂⟩
    | exit id=>exact ⟨_,a₁,_,⟨S₁,E₁,β₁,rfl,hr₁,hq⟩,.pass (x:=.inLoop c) rfl (fun _ _=>.inl (by simp)) harr⟩
    | goto l=>exact ⟨_,a₁,_,⟨S₁,E₁,β₁,rfl,hr₁,hq⟩,.pass (x:=.inLoop c) rfl (fun _ _=>.inl (by simp)) harr⟩
    | ret=>exact ⟨_,a₁,_,⟨S₁,E₁,β₁,rfl,hr₁,hq⟩,.pass (x:=.inLoop c) rfl (fun _ _=>.inl (by simp)) harr⟩
    | panic ch=>exact ⟨_,a₁,_,⟨S₁,E₁,β₁,rfl,hr₁,hq⟩,.pass (x:=.inLoop c) rfl (fun _ _=>.inl (by simp)) harr⟩
    | outgrown=>exact ⟨_,a₁,_,⟨S₁,E₁,β₁,rfl,hr₁,hq⟩,.pass (x:=.inLoop c) rfl (fun _ _=>.inl (by simp)) harr⟩
 obtain ⟨β₀,hr₀⟩:=hr.weak h0
 exact key _ a0 E β₀ a rfl i0 hr₀
def aDo (l:Nat) (J:St→Prop) (Q:Exit→St→Prop):Exit→St→Prop
 | .goto l',S=>l'=l∧J S
 | e,S=>Q e S
theorem aFD {l:Nat} {J:St→Prop} (h:Q .ret S):aDo l J Q .ret S:=h
theorem jC {b:Frame} {k:List Item} {cs:List Frame} {m:Machine} {c:Code} {e:Exit} {a:Act} {w:World} (hro:b.roundOf=(fen O.round).round) (hb:(fen O.round).fn b.fn) (hr:(fen O.round).room (cs.length+1+0)) (he:∀ l,e ≠ .goto l)
 (h:ArrivesIn (Machine.fenced P (fen O.round)) P m b (.inScope c::k) cs e a w):ArrivesIn (Machine.fenced P (fen O.round)) P m b k cs e a w:=by
 cases e with
 | normal=>exact StepsIn.trans h (.one (fenced_calm hb hr rfl) aAL)
 | exit id =>
   have hx:exitTo id (.inScope c::k)=exitTo id k:=by simp [exitTo]
   exact ⟨fun k' hk=>h.1 k' (by rw [hx]; exact hk),fun hr' hk=>h.2 hr' (by rw [hx]; exact hk)⟩
 | goto l=>exact AI rfl (he l)
 | ret=>exact h
 | panic ch=>exact h
 | outgrown=>exact h
theorem zA {α:Type} {c A:Code} (l:Nat) (st:α→St) (inv:α→Prop) (m:α→Nat) (hg:findLabel c l=some (.seq .skip A))
 (round:∀ x,inv x→IWP P O N A (st x) (aDo l (fun S'=>∃ y ρ,Weak S' (st y) ρ∧inv y∧m y<m x) Q))
 (h:(∀ S,(∃ y ρ,Weak S (st y) ρ∧inv y)→IWP P O N A S (aDo l (fun S'=>∃ y ρ,Weak S' (st y) ρ∧inv y) Q))→IWP P O N c S (aDo l (fun S'=>∃ y ρ,Weak S' (st y) ρ∧inv y) Q)):IWP P O N (.scope c) S Q:=by
 have hsk:∀ x,inv x→IWP P O N (.seq .skip A) (st x) (aDo l (fun S'=>∃ y ρ,Weak S' (st y) ρ∧inv y∧m y<m x) Q):=fun x hx=>aP (aR (round x hx))
 have hgo:∀ S,(∃ y ρ,Weak S (st y) ρ∧inv y)→IWP P O N A S (aDo l (fun S'=>∃ y ρ,Weak S' (st y) ρ∧inv y) Q):=by
  rintro S ⟨y,ρ,hw,hy⟩
  refine rD ρ hw (rE (round y hy) fun e S' hq=>?_)
  cases e with
  | goto l'=>obtain ⟨h1,z,ρ',h2,h3,_⟩:=hq; exact ⟨h1,z,ρ',h2,h3⟩
  | _=>exact hq
 intro E β a hr b k cs hro hb hroom
 have hk:gotoIn l (.inScope c::k)=some (.code (.seq .skip A) :: .inScope c::k):=by simp [gotoIn,hg]
 have key:∀ n x E β a,m x=n→inv x→Rel O N (st x) E β a →
  ∃ e a' w',(∃ S' E' β',E'.w=w'∧Rel O N S' E' β' a'∧Q e S')∧ArrivesIn (Machine.fenced P (fen O.round)) P (lone (b.atR a (.code (.seq .skip A) :: .inScope c::k)) cs E.w) b k cs e a' w':=by
  intro n
  induction n using Eh with
  | _ n ih =>
    intro x E β a hn hI hr
    obtain ⟨e,a₁,w₁,⟨S₁,E₁,β₁,rfl,hr₁,hq⟩,harr⟩:=hsk x hI E β a hr b (.inScope c::k) cs hro hb hroom
    cases e with
    | goto l' =>
      obtain ⟨rfl,y,ρ,hw,hI₁,hlt⟩:=hq
      obtain ⟨β₂,hr₂⟩:=hr₁.weak hw
      obtain ⟨e₂,a₂,w₂,hq₂,harr₂⟩:=ih (m y) (hn ▸ hlt) y E₁ β₂ a₁ rfl hI₁ hr₂
      exact ⟨e₂,a₂,w₂,hq₂,.of_steps (harr.1 _ hk) harr₂⟩
    | normal=>exact ⟨_,a₁,_,⟨S₁,E₁,β₁,rfl,hr₁,hq⟩,jC hro hb hroom (fun _ h=>by cases h) harr⟩
    | exit id=>exact ⟨_,a₁,_,⟨S₁,E₁,β₁,rfl,hr₁,hq⟩,jC hro hb hroom (fun _ h=>by cases h) harr⟩
    | ret=>exact ⟨_,a₁,_,⟨S₁,E₁,β₁,rfl,hr₁,hq⟩,jC (c:=c) hro hb hroom (fun _ h=>by cases h) harr⟩
    | panic ch=>exact ⟨_,a₁,_,⟨S₁,E₁,β₁,rfl,hr₁,hq⟩,jC (c:=c) hro hb hroom (fun _ h=>by cases h) harr⟩
    | outgrown=>exact ⟨_,a₁,_,⟨S₁,E₁,β₁,rfl,hr₁,hq⟩,jC (c:=c) hro hb hroom (fun _ h=>by cases h) harr⟩
 obtain ⟨e,a₁,w₁,⟨S₁,E₁,β₁,rfl,hr₁,hq⟩,harr⟩:=h hgo E β a hr b (.inScope c::k) cs hro hb hroom
 have hst:StepsIn (Machine.fenced P (fen O.round)) P (lone (b.atR a (.code (.scope c)::k)) cs E.w) (lone (b.atR a (.code c :: .inScope c::k)) cs E.w):=.one (fenced_calm hb hroom rfl) aBn
 cases e with
 | goto l' =>
   obtain ⟨rfl,y,ρ,hw,hI₁⟩:=hq
   obtain ⟨β₂,hr₂⟩:=hr₁.weak hw
   obtain ⟨e₂,a₂,w₂,hq₂,harr₂⟩:=key (m y) y E₁ β₂ a₁ rfl hI₁ hr₂
   exact ⟨e₂,a₂,w₂,hq₂,.of_steps hst (.of_steps (harr.1 _ hk) harr₂)⟩
 | normal=>exact ⟨_,a₁,_,⟨S₁,E₁,β₁,rfl,hr₁,hq⟩,.of_steps hst (jC hro hb hroom (fun _ h=>by cases h) harr)⟩
 | exit id=>exact ⟨_,a₁,_,⟨S₁,E₁,β₁,rfl,hr₁,hq⟩,.of_steps hst (jC hro hb hroom (fun _ h=>by cases h) harr)⟩
 | ret=>exact ⟨_,a₁,_,⟨S₁,E₁,β₁,rfl,hr₁,hq⟩,.of_steps hst (jC (c:=c) hro hb hroom (fun _ h=>by cases h) harr)⟩
 | panic ch=>exact ⟨_,a₁,_,⟨S₁,E₁,β₁,rfl,hr₁,hq⟩,.of_steps hst (jC (c:=c) hro hb hroom (fun _ h=>by cases h) harr)⟩
 | outgrown=>exact ⟨_,a₁,_,⟨S₁,E₁,β₁,rfl,hr₁,hq⟩,.of_steps hst (jC (c:=c) hro hb hroom (fun _ h=>by cases h) harr)⟩
end
end Go.IL
open Go.IL.D renaming load → DK,refsIn → BG,refsInL_mono → Ck,ren → FI,renL_bare → CP
open Go.IL.Ent renaming ren → Bh
open List renaming cons_append → Cj,drop_append → Dv,drop_zero → Fb,take_append → FL
open Nat renaming add_assoc → Ea,one_mul → Cu,zero_le → CO
namespace Go.IL
def mixD {α:Type} (f:Enc0 α) (pre:List D) (xs:List α) (post:List D):List D:=pre++(Ad (xs.map f.d)++post)
section
variable {P:Bc} {O:bK} {N:Nat} {S S':St} {o:Oper} {t:Nat} {α:Type}
theorem uY (f:Enc0 α) (pre:List D) (xs:List α) (post:List D):(mixD f pre xs post).length=pre.length+(xs.length*f.sz+post.length):=by
 unfold mixD
 rw [AX,AX,f.flat_len]
theorem aEd (f:Enc0 α) {pre:List D} (xs:List α) (post:List D) {off:Nat} (h:off≤pre.length):(mixD f pre xs post).drop off=pre.drop off++(Ad (xs.map f.d)++post):=by
 unfold mixD
 rw [Bl h]
theorem aGG (f:Enc0 α) (pre:List D) {xs:List α} {post:List D} {n off k:Nat} (hl:xs.length=n) (ho:off=pre.length+n*f.sz+k):(mixD f pre xs post).drop off=post.drop k:=by
 unfold mixD
 have h1:=f.flat_len xs
 rw [hl] at h1
 rw [ho,Ea,Dv,BU (by omega),BM,show pre.length+(n*f.sz+k)-pre.length=n*f.sz+k by omega,Dv,BU (by omega),BM,show n*f.sz+k-(Ad (xs.map f.d)).length=k by omega]
theorem aEe (f:Enc0 α) {pre:List D} {xs:List α} {post:List D} {b i k:Nat} {a:α} (hb:pre.length=b) (ha:xs[i]? = some a) (hk:k≤f.sz):∃ q,(mixD f pre xs post).drop (b+(i*f.sz+k))=(f.d a).cells.drop k++q:=by
 obtain ⟨q,hq⟩:=f.drop_at ha k hk
 have hlt:=(Ag.1 ha).1
 have hle:(i+1)*f.sz≤xs.length*f.sz:=AP _ (by omega)
 rw [Bq,Cu] at hle
 refine ⟨q++post,?_⟩
 unfold mixD
 rw [Dv,BU (by omega),BM,show b+(i*f.sz+k)-pre.length=i*f.sz+k by omega,Bl (by rw [f.flat_len]; omega),hq,AH]
theorem aEf {f:Enc0 α} {pre post:List D} {xs:List α} {a:α} {b i k size:Nat} (hb:pre.length=b) (ha:xs[i]? = some a) (hn:k+size≤f.sz):b+(i*f.sz+k)+size≤(mixD f pre xs post).length:=by
 have hlt:=(Ag.1 ha).1
 have hle:(i+1)*f.sz≤xs.length*f.sz:=AP _ (by omega)
 rw [Bq,Cu] at hle
 rw [uY]; omega
section loads
variable (f:Enc0 α) {T:Av} {x:Ao} {u:TypeDesc} {z:Af AG} {size bytes:Nat} {id off:Nat} {e:Av} {pre post r cs:List D} {xs:List α} {d:D}
theorem tK (ho:o.op = .load T x) (hd:o.dst=some t) (ht:t<N) (hu:P.underlying T=some u) (hg:iU P T=false) (hi:TI P T z size bytes) (h1:0<size) (hx:SV S x (.ref id off)) (he:S.ent id = .blk e (mixD f pre xs post)) (hn:off+size≤pre.length)
 (hdd:pre.drop off=d::r):IOp P O N o S (S.set t d) :=
 iN ho hd ht hu hg hi h1 hx he (by rw [uY]; omega) (r:=r++(Ad (xs.map f.d)++post)) (by rw [aEd f xs post (by omega),hdd]; rfl)
theorem pT (ho:o.op = .load T x) (hd:o.dst=some t) (ht:t<N) (hu:P.underlying T=some u) (hg:iU P T=true) (hi:TI P T z size bytes) (h1:0<size) (hx:SV S x (.ref id off)) (he:S.ent id = .blk e (mixD f pre xs post)) (hn:off+size≤pre.length)
 (hdd:(pre.drop off).take size=cs):IOp P O N o S (S.set t (.agg cs)) :=
 lR ho hd ht hu hg hi h1 hx he (by rw [uY]; omega) (by rw [aEd f xs post (by omega),AQ (by rw [BQ]; omega)]; exact hdd)
theorem iO {n k:Nat} (ho:o.op = .load T x) (hd:o.dst=some t) (ht:t<N) (hu:P.underlying T=some u) (hg:iU P T=false) (hi:TI P T z size bytes) (h1:0<size) (hx:SV S x (.ref id off)) (he:S.ent id = .blk e (mixD f pre xs post)) (hl:xs.length=n)
 (hof:off=pre.length+n*f.sz+k) (hn:k+size≤post.length) (hdd:post.drop k=d::r):IOp P O N o S (S.set t d) :=
 iN ho hd ht hu hg hi h1 hx he (by rw [uY,hl]; omega) (by rw [aGG f pre hl hof]; exact hdd)
theorem cA {b i k:Nat} {a:α} (ho:o.op = .load T x) (hd:o.dst=some t) (ht:t<N) (hu:P.underlying T=some u) (hg:iU P T=false) (hi:TI P T z size bytes) (h1:0<size) (hx:SV S x (.ref id (b+(i*f.sz+k)))) (he:S.ent id = .blk e (mixD f pre xs post)) (hb:pre.length=b)
 (ha:xs[i]? = some a) (hn:k+size≤f.sz) (hdd:(f.d a).cells.drop k=d::r):IOp P O N o S (S.set t d):=by
 obtain ⟨q,hq⟩:=aEe (post:=post) f hb ha (show k≤f.sz by omega)
 exact iN ho hd ht hu hg hi h1 hx he (aEf hb ha hn) (r:=r++q) (by rw [hq,hdd]; rfl)
theorem aB6 {b i k:Nat} {a:α} (ho:o.op = .load T x) (hd:o.dst=some t) (ht:t<N) (hu:P.underlying T=some u) (hg:iU P T=true) (hi:TI P T z size bytes) (h1:0<size) (hx:SV S x (.ref id (b+(i*f.sz+k)))) (he:S.ent id = .blk e (mixD f pre xs post)) (hb:pre.length=b)
 (ha:xs[i]? = some a) (hn:k+size≤f.sz) (hdd:((f.d a).cells.drop k).take size=cs):IOp P O N o S (S.set t (.agg cs)):=by
 obtain ⟨q,hq⟩:=aEe (post:=post) f hb ha (show k≤f.sz by omega)
 exact lR ho hd ht hu hg hi h1 hx he (aEf hb ha hn) (by rw [hq,AQ (by rw [BQ,(f.fl a).1]; omega)]; exact hdd)
end loads
theorem wY {A Z C:List D} {off:Nat} (h:off+C.length≤A.length):gL (A++Z) off C=gL A off C++Z:=by
 unfold gL
 rw [AQ (by omega),Bl (by omega)]; simp
theorem rN {A Z C:List D} {off k:Nat} (h:off=A.length+k):gL (A++Z) off C=A++gL Z k C:=by
 unfold gL
 rw [h,FL,BT (by omega),show A.length+k-A.length=k by omega,Dv,BU (by omega),BM,show A.length+k+C.length-A.length=k+C.length by omega]; simp
section stores
variable (f:Enc0 α) {T:Av} {x y:Ao} {z:Af AG} {size bytes:Nat} {id off:Nat} {e:Av} {pre pre' post post':List D} {xs zs:List α} {d:D}
theorem vB (ho:o.op = .store T x y) (hd:o.dst=none) (hi:TI P T z size bytes) (hx:SV S x (.ref id off)) (he:S.ent id = .blk e (mixD f pre xs post)) (hy:SV S y d) (hb:d.boxable=true) (hsz:d.cells.length=size) (h1:d.cells.all DZ=true)
 (hn:off+size≤pre.length) (hds:gL pre off d.cells=pre'):IOp P O N o S (S.setE id (.blk e (mixD f pre' xs post))) :=
 eO ho hd hi hx he hy hb hsz h1 (by rw [uY]; omega) (by unfold mixD; rw [wY (by omega),hds])
theorem qQ {n k:Nat} (ho:o.op = .store T x y) (hd:o.dst=none) (hi:TI P T z size bytes) (hx:SV S x (.ref id off)) (he:S.ent id = .blk e (mixD f pre xs post)) (hy:SV S y d) (hb:d.boxable=true) (hsz:d.cells.length=size) (h1:d.cells.all DZ=true)
 (hl:xs.length=n) (hof:off=pre.length+n*f.sz+k) (hn:k+size≤post.length) (hds:gL post k d.cells=post'):IOp P O N o S (S.setE id (.blk e (mixD f pre xs post'))):=by
 have hfl:=f.flat_len xs
 rw [hl] at hfl
 exact eO ho hd hi hx he hy hb hsz h1 (by rw [uY,hl]; omega) (by unfold mixD; rw [rN (A:=pre) (k:=n*f.sz+k) (by omega),rN (k:=k) (by omega),hds])
theorem kD {b i k:Nat} {a a':α} (ho:o.op = .store T x y) (hd:o.dst=none) (hi:TI P T z size bytes) (hx:SV S x (.ref id (b+(i*f.sz+k)))) (he:S.ent id = .blk e (mixD f pre xs post)) (hy:SV S y d) (hb:d.boxable=true) (hsz:d.cells.length=size) (h1:d.cells.all DZ=true)
 (hpb:pre.length=b) (ha:xs[i]? = some a) (hn:k+size≤f.sz) (hs:gL (f.d a).cells k d.cells=(f.d a').cells) (hz:xs.set i a'=zs):IOp P O N o S (S.setE id (.blk e (mixD f pre zs post))):=by
 subst hz
 have hlt:=(Ag.1 ha).1
 have hle:(i+1)*f.sz≤xs.length*f.sz:=AP _ (by omega)
 rw [Bq,Cu] at hle
 refine eO ho hd hi hx he hy hb hsz h1 (aEf hpb ha hn) ?_
 unfold mixD
 rw [rN (A:=pre) (k:=i*f.sz+k) (by omega),wY (by rw [f.flat_len]; omega),f.flat_set (by omega) ha hs]
end stores
theorem dA (f:Enc0 α) {T e:Av} {len b:Nat} {x y:Ao} {xs:List α} {a:α} {k:IntKind} {n:Int} {z:Af AG} {bytes:Nat} {id:Nat} (ho:o.op = .indexAddr T x y) (hd:o.dst=some t) (ht:t<N)
 (hu:P.underlying T=some (.array len e)) (hi:TI P e z f.sz bytes) (hx:SV S x (.ref id b)) (hl:xs.length=len) (hy:SV S y (.int k n)) (hn:gix xs n=some a) :
 IOp P O N o S (S.set t (.ref id (b+(n.toNat*f.sz+0)))) :=
 mP ho hd ht hu hi hx hy (qS hn).1 (hl ▸ (Ag.1 (qS hn).2).1) (by omega)
theorem bO {T:Av} {x:Ao} {i:Nat} {fs:Array Field} {F:Field} {z:Af AG} {size bytes:Nat} {id b j k:Nat} (ho:o.op = .fieldAddr T x i) (hd:o.dst=some t) (ht:t<N)
 (hu:P.underlying T=some (.struct fs)) (hf:fs[i]? = some F) (hi:TI P F.type z size bytes) (hs:0<size) (hx:SV S x (.ref id (b+(j+k)))) {k':Nat} (ho':k+F.offset=k'):IOp P O N o S (S.set t (.ref id (b+(j+k')))) :=
 fI ho hd ht hu hf hi hs hx (by omega)
theorem sW {ρ:Nat→Nat}:∀ (l m:List D),BB ρ (l++m)=BB ρ l++BB ρ m
 | [],_=>rfl
 | d::l,m=>by rw [Cj,BB,BB,sW l m]; rfl
theorem cL {ρ:Nat→Nat} (f:Enc α) (pre:List D) (xs:List α) (post:List D):BB ρ (mixD f.toEnc0 pre xs post)=mixD f.toEnc0 (BB ρ pre) xs (BB ρ post):=by
 unfold mixD
 rw [sW,sW,CP _ (f.noRef xs)]
theorem aAT {p:Nat→Bool} (f:Enc α) {pre:List D} {xs:List α} {post:List D} (h1:AE p pre=true) (h2:AE p post=true):AE p (mixD f.toEnc0 pre xs post)=true:=by
 unfold mixD
 exact oI h1 (oI (Ck _ (f.noRef xs)) h2)
theorem SubC.refl:∀ l:List D,SubC l l
 | []=>.nil
 | _::l=>.same (SubC.refl l)
theorem SubC.append {l l' m m':List D} (h:SubC l l') (k:SubC m m'):SubC (l++m) (l'++m'):=by
 induction h with
 | nil=>exact k
 | same _ ih=>exact .same ih
 | nilg _ ih=>exact .nilg ih
 | nilo _ ih=>exact .nilo ih
 | nils _ ih=>exact .nils ih
 | gsl _ ih=>exact .gsl ih
theorem EntW.mix {ρ:Nat→Nat} {id:Nat} {e:Av} (f:Enc α) {pre pre' post post':List D} {xs:List α} (h:S.ent (ρ id) = .blk e (mixD f.toEnc0 pre' xs post')) (h1:SubC pre' (BB ρ pre)) (h2:SubC post' (BB ρ post))
 (r1:AE S'.okn pre=true) (r2:AE S'.okn post=true):EntW S S' ρ id (.blk e (mixD f.toEnc0 pre xs post)) :=
 .sub h (by rw [cL]; exact h1.append ((SubC.refl _).append h2)) (aAT f r1 r2)
theorem SubC.of_eq {l l':List D} (h:l=l'):SubC l l':=h ▸ SubC.refl l
theorem iQ (f:Enc α) {ρ:Nat→Nat} {i:Nat} {e:Av} {pre pre' post post':List D} {xs:List α} (h:S.ent i = .blk e (mixD f.toEnc0 pre' xs post')) (h1:pre'=BB ρ pre) (h2:post'=BB ρ post):S.ent i=(Ent.blk e (mixD f.toEnc0 pre xs post)).ren ρ:=by
 rw [h,Bh,cL,h1,h2]
theorem cC (f:Enc α) {p:Nat→Bool} {e:Av} {pre post:List D} {xs:List α} (h1:AE p pre=true) (h2:AE p post=true):(Ent.blk e (mixD f.toEnc0 pre xs post)).refsIn p=true:=aAT f h1 h2
theorem aEu (f:Enc0 α) {T:Av} {x:Ao} {u:TypeDesc} {z:Af AG} {size bytes n:Nat} {id:Nat} {e:Av} {xs:List α} (ho:o.op = .load T x) (hd:o.dst=some t) (ht:t<N) (hu:P.underlying T=some u) (hg:iU P T=true) (hi:TI P T z size bytes) (h1:0<size) (hx:SV S x (.ref id 0))
 (he:S.ent id = .blk e (Ad (xs.map f.d))) (hl:xs.length=n) (hs:n*f.sz=size):IOp P O N o S (S.set t (.agg (mixD f [] xs []))):=by
 have hfl:=f.flat_len xs
 rw [hl,hs] at hfl
 have hm:mixD f [] xs []=Ad (xs.map f.d):=by unfold mixD; simp
 exact lR ho hd ht hu hg hi h1 hx he (by omega) (by rw [hm,Fb,BT (by omega)])
theorem aDg (f:Enc α) {T e:Av} {len:Nat} {x y:Ao} {k:IntKind} {n:Int} {u:TypeDesc} {z:Af AG} {bytes:Nat} {xs:List α} {a:α} {d:D} (ho:o.op = .index T x y) (hd:o.dst=some t) (ht:t<N)
 (hT:P.underlying T=some (.array len e)) (hu:P.underlying e=some u) (hg:iU P e=false) (hi:TI P e z f.sz bytes) (hx:SV S x (.agg (mixD f.toEnc0 [] xs []))) (hy:SV S y (.int k n)) (hl:xs.length=len) (hn:gix xs n=some a) (hdd:(f.d a).cells=[d]):IOp P O N o S (S.set t d):=by
 have hm:mixD f.toEnc0 [] xs []=Ad (xs.map f.d):=by unfold mixD; simp
 have ha:=(qS hn).2
 have hlt:=(Ag.1 ha).1
 obtain ⟨q,hq⟩:=f.drop_at ha 0 (CO _)
 have hle:(n.toNat+1)*f.sz≤xs.length*f.sz:=AP _ (by omega)
 rw [Bq,Cu] at hle
 refine aAn ho hd ht hT hu hi hx hy (qS hn).1 (hl ▸ hlt) (by rw [hm,f.flat_len]; omega) f.pos ?_
 rw [Cw,Fb,hdd] at hq
 unfold DK
 rw [hg,hm,hq]; rfl
theorem SlW.mix {ρ:Nat→Nat} {t:Nat} (f:Enc α) {xs:List α} (h:S.get t = .agg (mixD f.toEnc0 [] xs [])):SlW S S' ρ t (.agg (mixD f.toEnc0 [] xs [])) :=
 .same (by rw [h,FI,cL]; rfl) (by rw [BG]; exact aAT f rfl rfl)
section
variable {Q:Exit→St→Prop}
end
theorem aBM {β:Type} {z:β} {j:Nat} {f:Nat→β} {rest:List (Nat×β)}:∀ {V:List (Nat×β)},(∀ x∈V,f x.1=x.2)→(j ∉ V.map (·.1)→look z j rest=f j)→look z j (V++rest)=f j
 | [],_,h=>h (by simp)
 | x::V,hV,h=>by
   obtain ⟨i,e⟩:=x
   rw [Cj,aN]
   by_cases hi:i=j
   · subst hi; rw [Ay rfl]; exact (hV (i,e) (by simp)).symm
   · rw [Aq hi]; exact aBM (fun x hx=>hV x (by simp [hx])) (fun hn=>h (by simpa [Ne.symm hi] using hn))
theorem aBL {β:Type} {z:β} {j:Nat} {rest:List (Nat×β)}:∀ {V:List (Nat×β)},j ∉ V.map (·.1)→look z j (V++rest)=look z j rest
 | [],_=>rfl
 | (i,e)::V,h=>by
   rw [Cj,aN,Aq (fun hi=>h (by simp [hi]))]
   exact aBL (fun hm=>h (by simp at hm ⊢; exact .inr hm))
theorem eY {f:BZ} {xs:List Ao} {ts:Array Av} {ds ds':List D} {r r':D} {H0 H1 V:List (Nat×Ent)} (k:Nat) (A:List Nat) (ho:o.op = .call { callee:=.value (.func f),args:=xs.toArray,argTypes:=ts }) (hd:o.dst=some t) (ht:t<N)
 (hc:aY P f) (hx:SVs S xs ds') (hds:BB (sig k A) ds=ds') (hp:AE (fA A) ds=true) (hk:Bb (k+0) 1000=true)
 (hh:HandM S k A H0) (hf:FnH P f ds H0 r H1) (hrr:r.ren (sig k A)=r') (hrp:r.refsIn (pZ 0 A)=true) (hH1:∀ x∈H1,pZ 0 A x.1=true∧x.2.refsIn (pZ 0 A)=true)
 (hV:(H1.map fun x=>(sig k A x.1,x.2.ren (sig k A)))=V) (hE:∀ x∈V,S.ent x.1=x.2) (hW:(H0.map fun x=>sig k A x.1).all (fun i=>(V.map (·.1)).contains i)=true):IOp P O N o S (S.set t r'):=by
 refine (pU k 0 A ho hd ht hc hx hds hp hk (by simp) hh hf hrr hrp hH1 rfl).to fun E β a hr=>hr.same (fun s=>rfl) fun j=>?_
 show S.ent j=look (defE j) j (((H1.map fun x=>(sig k A x.1,x.2.ren (sig k A)))++(H0.map fun x=>(sig k A x.1,Ent.none)))++S.H)
 rw [hV,AH]
 refine (aBM (f:=S.ent) hE fun hn=>?_).symm
 rw [aBL (fun hm=>hn ?_)]
 · rfl
 · obtain ⟨x,hx,rfl⟩:=Am.1 hm
   obtain ⟨y,hy,rfl⟩:=Am.1 hx
   have:=Ba.1 hW (sig k A y.1) (Am.2 ⟨y,hy,rfl⟩)
   simpa using this
end
end Go.IL
open Bool renaming or_eq_true → BJ
open List renaming pairwise_cons → AU
open _root_ renaming decide_eq_true → Ai,decide_eq_true_iff → BY
namespace Go.IL
section
variable {α:Type} (k:α→Int)
def putK (x:α):List α→List α
 | []=>[x]
 | y::l=>if k x≤k y then x::y::l else y::putK x l
def pA:List α→List α
 | []=>[]
 | x::l=>putK k x (pA l)
theorem xJ (x:α):∀ l:List α,(putK k x l).Perm (x::l)
 | []=>.refl _
 | y::l=>by
   unfold putK
   split
   · exact .refl _
   · exact ((xJ x l).cons y).trans (.swap x y l)
theorem oD:∀ l:List α,(pA k l).Perm l
 | []=>.refl _
 | x::l=>(xJ k x _).trans ((oD l).cons x)
theorem xI (x:α):∀ {l:List α},l.Pairwise (fun a b=>k a≤k b)→(putK k x l).Pairwise (fun a b=>k a≤k b)
 | [],_=>List.pairwise_singleton _ _
 | y :: l,h=>by
   obtain ⟨h1,h2⟩:=AU.1 h
   unfold putK
   split
   · rename_i hx
     refine AU.2 ⟨fun z hz=>?_,h⟩
     rcases Ax.1 hz with rfl | hz
     · exact hx
     · have:=h1 z hz; omega
   · rename_i hx
     refine AU.2 ⟨fun z hz=>?_,xI x h2⟩
     rcases Ax.1 ((xJ k x l).mem_iff.1 hz) with rfl | hz
     · omega
     · exact h1 z hz
theorem pH:∀ l:List α,(pA k l).Pairwise (fun a b=>k a≤k b)
 | []=>.nil
 | x::l=>xI k x (pH l)
theorem zJ:∀ {l m:List α},l.Perm m→(∀ a∈l,∀ b∈l,k a=k b→a=b)→l.Pairwise (fun a b=>k a≤k b)→m.Pairwise (fun a b=>k a≤k b)→l=m
 | [],m,hp,_,_,_=>(List.nil_perm.1 hp).symm
 | x::l,[],hp,_,_,_=>by have:=hp.length_eq; simp at this
 | x :: l,y::m,hp,hi,h1,h2=>by
   obtain ⟨a1,a2⟩:=AU.1 h1
   obtain ⟨b1,b2⟩:=AU.1 h2
   have hy:y∈x::l:=hp.mem_iff.2 (by simp)
   have hx:x∈y::m:=hp.mem_iff.1 (by simp)
   have e:x=y:=by
    refine hi x (by simp) y hy ?_
    have l1:k x≤k y:=by
     rcases Ax.1 hy with e | h
     · rw [e]; exact DP _
     · exact a1 y h
    have l2:k y≤k x:=by
     rcases Ax.1 hx with e | h
     · rw [e]; exact DP _
     · exact b1 x h
    omega
   subst e
   rw [zJ (List.Perm.cons_inv hp) (fun a ha b hb=>hi a (by simp [ha]) b (by simp [hb])) a2 b2]
theorem aBQ {l m:List α} (hp:m.Perm l) (hi:∀ a∈l,∀ b∈l,k a=k b→a=b) (hs:m.Pairwise (fun a b=>k a≤k b)):pA k l=m :=
 (zJ k (hp.trans (oD k l).symm) (fun a ha b hb=>hi a (hp.mem_iff.1 ha) b (hp.mem_iff.1 hb)) hs (pH k l)).symm
def aBo (good:α→Bool) (l:List α):Af (List α):=if decide (l.length<4611686018427387904)&&l.all good&&decide (l.map k).Nodup then some (pA k l) else none
end
theorem vV {α:Type} {k:α→Int}:∀ {l:List α},(l.map k).Nodup→∀ a∈l,∀ b∈l,k a=k b→a=b
 | x :: l,h,a,ha,b,hb,e=>by
   obtain ⟨h1,h2⟩:=Bo.1 h
   rcases Ax.1 ha with g | g
   · rcases Ax.1 hb with g' | g'
     · rw [g,g']
     · exact AI (Am.2 ⟨b,g',by rw [←e,g]⟩) h1
   · rcases Ax.1 hb with g' | g'
     · exact AI (Am.2 ⟨a,g,by rw [e,g']⟩) h1
     · exact vV h2 a g b g' e
theorem sortK_e {α:Type} {k:α→Int} {good:α→Bool} {l r:List α} (h:aBo k good l=some r):l.length<4611686018427387904∧(∀ x∈l,good x=true)∧(l.map k).Nodup∧r=pA k l:=by
 unfold aBo at h
 split at h
 · rename_i hc
   rw [Az,Az,BY,BY] at hc
   exact ⟨hc.1.1,Ba.1 hc.1.2,hc.2,(Option.some.inj h).symm⟩
 · cases h
theorem sortK_t {α:Type} {k:α→Int} {good:α→Bool} {l:List α} (h1:l.length≤1000000) (h2:∀ x∈l,good x=true) (h3:(l.map k).Nodup):aBo k good l=some (pA k l):=by
 unfold aBo
 rw [Ai (by omega),Ba.2 h2,Ai h3]; rfl
def aBq (l:List Int):Af (List Int):=if l.length<4611686018427387904 then some (pA id l) else none
theorem sortI_e {l r:List Int} (h:aBq l=some r):l.length<4611686018427387904∧r=pA id l:=by
 unfold aBq at h
 split at h
 · exact ⟨by assumption,(Option.some.inj h).symm⟩
 · cases h
theorem sortI_t {l:List Int} (h:l.length≤1000000):aBq l=some (pA id l):=Ay (by omega)
theorem aBp (l:List Int):l.mergeSort (fun x y=>decide (x≤y))=pA id l:=by
 refine (aBQ id (List.mergeSort_perm l _) (fun a _ b _ e=>e) ?_).symm
 refine (List.pairwise_mergeSort (fun a b c h1 h2=>?_) (fun a b=>?_) l).imp fun h=>of_decide_eq_true h
 · exact Ai (Int.le_trans (of_decide_eq_true h1) (of_decide_eq_true h2))
 · rw [BJ,BY,BY]; omega
end Go.IL
open _root_.Array renaming extract_eq_self_of_le → Ej,getElem?_modify → EO,getElem_toList → EX,size_modify → FA
open Bool renaming false_eq_true → CK
open List renaming flatMap_cons → CG,getElem?_append_right → Bu,getElem?_map → CW,length_cons → AZ,length_flatMap → Fh,length_map → AA,map_congr_left → AV,map_id → CY,pairwise_iff_getElem → CQ,pairwise_map → Bm,sum_replicate_nat → EJ
open Nat renaming le_of_not_lt → CJ,mod_eq_of_lt → FK
open Option renaming isSome_none → Fw
open _root_ renaming decide_eq_false → Ah
open Go.RowKit (Below)
open Go.Sort
namespace Go.IL
def OH (E:Env) (β:bC) (H0:List (Nat×Ent)):bK:=⟨E.w,E.X,kS β H0,β,none,fun _=>[],fun _=>0,fun _=>[],fun _=>(#[],.skip,.skip),E.w.heap.size⟩
theorem vN {α:Type} [Inhabited α] (enc:α→AG) {zs zs':List α} (sp:List AG) (hl:zs'.length=zs.length):putCells enc 0 zs'.toArray (zs.map enc++sp).toArray=(zs'.map enc++sp).toArray:=by
 apply Array.ext_getElem?
 intro i
 unfold putCells
 rw [Array.getElem?_mapIdx,Cy,Cy]
 by_cases hi:i<zs.length
 · have hi':i<zs'.length:=by omega
   rw [AK (by simpa using hi),AK (by simpa using hi'),CW,CW,AL hi,AL hi']
   simp [hi']
 · rw [Bu (by simp; omega),Bu (by simp; omega),AA,AA,hl]
   cases sp[i-zs.length]? with
   | none=>rfl
   | some v =>
     simp only [DH]
     rw [Aq (by simp; omega)]
theorem aEc (h:Array Obj) (b:Nat) (f:Obj→Obj) (o:Obj) (e:h[b]? = some o):(h.modify b f)[b]? = some (f o):=by
 rw [EO,Ay rfl,e]; rfl
theorem aBH (h:Array Obj) {b k:Nat} (f:Obj→Obj) (hk:k≠b):(h.modify b f)[k]? = h[k]?:=by
 rw [EO,Aq (Ne.symm hk)]
theorem aEJ {E:Env} {β:bC} {e:Av} {ds ds':List D} {b n:Nat} {vs sp vs':List AG} {g:Array AG→Array AG} (os:Array Obj)
 (hok:HOk (OH E β [(1000,.blk e ds)]) E β (entL [(1000,.blk e ds)])) (hb:β 1000=some b) (hh:E.w.heap[b]? = some (.cells (Cq (vs++sp)) e (0,0))) (hX:∀ o,E.X b o)
 (hg:g (Cq (vs++sp))=Cq (vs'++sp)) (hl:vs'.length=vs.length) (hv:∀ E',RdL E' β vs' ds') :
 HOk (OH E β [(1000,.blk e ds)]) ⟨grow (mapBlock (Sort.ahead E.w n) b g) os,E.X⟩ β (entL [(1000,.blk e ds')]):=by
 have hlt:=cX hh
 have hown:(OH E β [(1000,.blk e ds)]).own b:=hok.own (j:=1000) rfl hb
 let E1:Env:=⟨mapBlock (Sort.ahead E.w n) b g,E.X⟩
 have hat:E1.w.heap[b]? = some (.cells (Cq (vs'++sp)) e (0,0)):=by
  show (E.w.heap.modify b (onCells g))[b]? = _
  rw [aEc _ _ _ _ hh]
  show some (Obj.cells (g _) e (0,0))=_
  rw [hg]
 have hs:Step (OH E β [(1000,.blk e ds)]) E E1 b:=⟨rfl,rfl,rfl,by show E.w.heap.size≤(E.w.heap.modify b (onCells g)).size; rw [FA]; exact AO _,by show b<(E.w.heap.modify b (onCells g)).size; rw [FA]; exact hlt,hown,fun k _ hk=>aBH _ _ hk,fun _ _ _=>DA,fun _ h=>by rw [hh] at h; cases h⟩
 have hle:E.le E1:=hs.le (fun o v _ h2=>AI (hX o) h2) (fun c e' f h3=>by
  rw [hh] at h3; cases h3
  exact ⟨_,_,hat,by simp [hl]⟩)
 have hput:HOk (OH E β [(1000,.blk e ds)]) E1 β (entL [(1000,.blk e ds')]):=by
  refine Da hok hs hle (bC.le.refl _) (id:=1000) ?_ ?_ hb ?_ (fun _ _=>trivial)
  · intro j hj; left; exact ⟨by simp [entL,aN,Ne.symm hj],rfl⟩
  · intro j hj hheld hbj
    have:(entL [(1000,Ent.blk e ds)] j).held=true:=by simpa [entL,aN,Ne.symm hj] using hheld
    exact hj (hok.inj j 1000 b this rfl hbj hb)
  · exact ⟨_,sp,hat,hX,hv _⟩
 exact hput.below ⟨rfl,rfl,rfl,by show E1.w.heap.size≤(E1.w.heap++os).size; rw [DM]; omega,fun k hk=>by
  show (E1.w.heap++os)[k]? = _
  rw [Array.getElem?_append_left hk]⟩
theorem aCV {E:Env} {β:bC}:Rd E β (.tuple #[]) (retD []):=.tuple _ [] [] (.nil _)
theorem aFK {P:Bc} {f:BZ} {e:Av} {n sz:Nat} {ds ds' ar:List D} (us:List AG) (has:∀ E β xs,RdL E β xs ar→xs=us)
 (hnil:n=0→ds'=ds∧∀ (p:Af Addr) (cap:Nat) (w:World),Calls P f ((.slice p 0 cap)::us).toArray w fun e w'=>e = .returned (.tuple #[])∧Below w.heap.size w w')
 (hrow:∀ (E:Env) (β:bC) (b cap:Nat) (vs sp:List AG) ,RdL E β vs ds→E.good→E.w.heap[b]? = some (.cells (Cq (vs++sp)) e (0,0)) →
   Calls P f ((.slice (some ⟨b,0,none⟩) n cap)::us).toArray E.w fun e w'=>e = .returned (.tuple #[])∧∃ g k os vs',w'=grow (mapBlock (Sort.ahead E.w k) b g) os∧g (Cq (vs++sp))=Cq (vs'++sp)∧vs'.length=vs.length∧∀ E' β',RdL E' β' vs' ds') :
 FnH P f (.osl 1000 sz n::ar) [(1000,.blk e ds)] (retD []) [(1000,.blk e ds')]:=by
 intro E β xs hX hβ hok hvs
 cases hvs with
 | cons h1 h2 =>
   obtain rfl:=has _ _ _ h2
   cases h1 with
   | nosl =>
     obtain ⟨e1,h3⟩:=hnil rfl
     subst e1
     refine (h3 none 0 E.w).mono ?_
     rintro e' w' ⟨rfl,hb⟩
     exact ⟨_,rfl,⟨w',E.X⟩,β,rfl,hok.below hb,aCV⟩
   | osl _ _ b _ cap _ hb hc hsz c e' fz hcap hcs hcm =>
     have hent:=hok.ent 1000
     obtain ⟨vs,sp,g1,g2,g3,g4⟩:=pB (show nL (OH E β [(1000,.blk e ds)]) E β 1000 (.blk e ds) from hent) hb
     refine (hrow E β b cap vs sp g4 hX g2).mono ?_
     rintro e'' w' ⟨rfl,g,k,os,vs',rfl,k1,k2,k3⟩
     exact ⟨_,rfl,⟨_,E.X⟩,β,rfl,aEJ os hok hb g2 g3 k1 k2 (fun E'=>k3 E' β),aCV⟩
theorem aCb {E:Env} {β:bC} {k:IntKind}:∀ {l:List Int} {vs:List AG},RdL E β vs (Ad (l.map (eInt k).d))→vs=l.map (Value.int k)
 | [],vs,h=>by cases h; rfl
 | x :: l,vs,h=>by
   have h:RdL E β vs (.int k x::Ad (l.map (eInt k).d)):=h
   cases h with
   | cons h1 h2 =>
     rw [aCb h2,jF h1]; rfl
theorem aCz (E:Env) (β:bC) (k:IntKind):∀ (l:List Int),RdL E β (l.map (Value.int k)) (Ad (l.map (eInt k).d))
 | []=>.nil _
 | x::l=>.cons (.int _ _ _) (aCz E β k l)
theorem aDm {w:World} {b:Nat} {e:Av} {zs:List Int} {sp:List AG} (hh:w.heap[b]? = some (.cells (Cq (zs.map (Value.int .i64)++sp)) e (0,0))):Holds (Value.int .i64) w b 0 zs.toArray:=fun j hj=>by
 have hj:j<zs.length:=by simpa using hj
 refine ⟨?_,by simp [World.frozen?,hh]⟩
 simp only [World.cell?,hh,Bi,Fw,CK,if_false,Cy]
 rw [AK (by simpa using hj),CW,AL hj]
 simp [hj]
theorem aFI {P:Bc} {ρ:Shelf.Ren} (L:Proofs.Lays.n189 P ρ) {e:Av} (a0:List Int) (r:List Int) (h:aBq a0=some r) :
 FnH P (ρ.f 189) [.osl 1000 (eInt .i64).sz a0.length] [(1000,.blk e (Ad (a0.map (eInt .i64).d)))] (retD []) [(1000,.blk e (Ad (r.map (eInt .i64).d)))]:=by
 obtain ⟨h1,rfl⟩:=sortI_e h
 refine aFK [] (fun E β xs h=>by cases h; rfl) (fun h0=>?_) (fun E β b cap vs sp hv _ hh=>?_)
 · obtain rfl:=Bf.1 h0
   refine ⟨rfl,fun p cap w=>(Proofs.Any.slices_Sort_int_none L p cap w).mono ?_⟩
   rintro e w' h
   exact ⟨h.1,by rw [h.2]; exact Below.refl _ _⟩
 · obtain rfl:=aCb hv
   refine (Proofs.Any.slices_Sort_int L b 0 cap a0 E.w (aDm hh) (cX hh) h1).mono ?_
   rintro e w' ⟨rfl,n,os,rfl⟩
   rw [aBp]
   have hl:=(oD id a0).length_eq
   exact ⟨rfl,_,n,os,(pA id a0).map (Value.int .i64),rfl,vN _ sp hl,by simp [hl],fun E' β'=>aCz E' β' _ _⟩
theorem aA8 {E:Env} {β:bC}:∀ {d1 d2:List D} {vs:List AG},RdL E β vs (d1++d2)→∃ v1 v2,vs=v1++v2∧RdL E β v1 d1∧RdL E β v2 d2
 | [],d2,vs,h=>⟨[],vs,rfl,.nil _,h⟩
 | d :: d1,d2,vs,h=>by
   cases h with
   | cons h1 h2 =>
     obtain ⟨v1,v2,rfl,h3,h4⟩:=aA8 h2
     exact ⟨_::v1,v2,rfl,.cons h1 h3,h4⟩
theorem aCc {T:Type} {f:Enc T} {enc:T→List AG} (hrd:∀ E β x vs,RdL E β vs (f.d x).cells→vs=enc x) {E:Env} {β:bC}:∀ {l:List T} {vs:List AG},RdL E β vs (Ad (l.map f.d))→vs=l.flatMap enc
 | [],vs,h=>by cases h; rfl
 | x::l,vs,h=>by
   obtain ⟨v1,v2,rfl,h1,h2⟩:=aA8 (show RdL E β vs ((f.d x).cells++Ad (l.map f.d)) from h)
   rw [hrd E β x v1 h1,aCc hrd h2]; rfl
theorem aDA {T:Type} {f:Enc T} {enc:T→List AG} (hrd':∀ E β x,RdL E β (enc x) (f.d x).cells) (E:Env) (β:bC):∀ l:List T,RdL E β (l.flatMap enc) (Ad (l.map f.d))
 | []=>.nil _
 | x::l=>(hrd' E β x).append (aDA hrd' E β l)
theorem aC9 {α:Type} [Inhabited α] {enc:α→List AG} {k:Nat} (hk:∀ x,(enc x).length=k) (h0:0<k):∀ (l:List α) (t:Nat),t<l.length*k→(l.flatMap enc)[t]! = (enc l[t / k]!)[t % k]!
 | [],t,h=>by simp at h
 | x :: l,t,h=>by
   rw [CG]
   by_cases ht:t<k
   · rw [Nat.div_eq_of_lt ht,FK ht,getElem!_pos _ t (by rw [AX,hk]; omega),List.getElem_append_left (by rw [hk]; exact ht)]
     rw [show (x::l)[0]! = x from rfl,getElem!_pos (enc x) t (by rw [hk]; exact ht)]
   · have h2:t-k<l.length*k:=by rw [AZ,Bq,Cu] at h; omega
     have hfl:(l.flatMap enc).length=l.length*k:=by
      rw [Fh,AV (fun x _=>hk x),List.map_const',EJ]
     have ih:=aC9 hk h0 l (t-k) h2
     rw [getElem!_pos _ (t-k) (by rw [hfl]; exact h2)] at ih
     rw [getElem!_pos _ t (by rw [AX,hk,hfl]; omega),List.getElem_append_right (by rw [hk]; omega)]
     simp only [hk]
     have e1:t / k=(t-k) / k+1:=Nat.div_eq_sub_div h0 (CJ ht)
     have e2:t % k=(t-k) % k:=Nat.mod_eq_sub_mod (CJ ht)
     rw [ih,e1,e2]
     rfl
theorem zY {α:Type} [Inhabited α] {enc:α→List AG} {k:Nat} (hk:∀ x,(enc x).length=k) (h0:0<k) (l:List α):flatK enc k l.toArray=(l.flatMap enc).toArray:=by
 have hfl:(l.flatMap enc).length=l.length*k:=by
  rw [Fh,AV (fun x _=>hk x),List.map_const',EJ]
 refine ext_get! (by simp [hfl]) fun t ht=>?_
 have ht:t<l.length*k:=by simpa using ht
 rw [get_flatK _ _ _ _ (by simpa using ht)]
 have:=aC9 hk h0 l t ht
 have e1:(l.flatMap enc).toArray[t]! = (l.flatMap enc)[t]!:=by simp
 have e2:l.toArray[t / k]! = l[t / k]!:=by simp
 rw [e1,this,e2]
theorem aFJ {P:Bc} {ρ:Shelf.Ren} (L:Proofs.SlLaysF0.n6 P ρ) {T:Type} [Inhabited T] (f:Enc T) (enc:T→List AG) (key:T→Int) (good:T→Bool) (hgd:good default=true)
 (aE:∀ w,(isAgg (ρ.t 24)).run P w = .ok true w) (zE:∀ w,(Go.sizeOf (ρ.t 24)).run P w = .ok f.sz w) (hk:∀ x,(enc x).length=f.sz) (h1:∀ x,∀ v∈enc x,v.oneCell'=true)
 (hrd:∀ E β x vs,RdL E β vs (f.d x).cells→vs=enc x) (hrd':∀ E β x,RdL E β (enc x) (f.d x).cells) {g:Nat} (eg:∀ args w,(callFunc g args).run P w = .ok (.enter g args) w)
 (hcmp:∀ (x y:T) (W:World),good x=true→good y=true→Calls P g #[.agg (enc x).toArray,.agg (enc y).toArray] W fun e w'=>e = .returned (.int .i64 (key x-key y))∧∃ q os',w'=grow (W.drewN q) os')
 {e:Av} (a0 r:List T) (h:aBo key good a0=some r) :
 FnH P (ρ.f 6) [.osl 1000 f.sz a0.length,.fn g []] [(1000,.blk e (Ad (a0.map f.d)))] (retD []) [(1000,.blk e (Ad (r.map f.d)))]:=by
 obtain ⟨hlen,hg,hnd,rfl⟩:=sortK_e h
 refine aFK [.func (.func g) #[] #[]] (fun E β xs h=>?_) (fun h0=>?_) (fun E β b cap vs sp hv _ hh=>?_)
 · cases h with
   | cons h2 h3 =>
     cases h3
     obtain ⟨us,rfl,h4⟩:=aDU h2
     cases h4; rfl
 · obtain rfl:=Bf.1 h0
   refine ⟨rfl,fun p cap w=>(Proofs.AnyF.slices_SortFunc_none L p cap _ w).mono ?_⟩
   rintro e w' h
   exact ⟨h.1,by rw [h.2]; exact Below.refl _ _⟩
 · obtain rfl:=aCc hrd hv
   let α:={ x:T // good x=true }
   letI:Inhabited α:=⟨⟨default,hgd⟩⟩
   let enc':α→List AG:=fun x=>enc x.1
   let cf:α→α→Int:=fun x y=>key x.1-key y.1
   let l:List α:=a0.attachWith (fun x=>good x=true) hg
   have hk':∀ x:α,(enc' x).length=f.sz:=fun x=>hk x.1
   have hfm:∀ m:List α,m.flatMap enc'=(m.map (·.1)).flatMap enc:=fun m=>by rw [List.flatMap_map]
   have hval:l.map (·.1)=a0:=by
    show (a0.attachWith _ hg).map (fun i=>id i.1)=_
    rw [List.attachWith_map_val]; exact CY _
   have hll:l.toArray.size=a0.length:=by
    rw [Cl,←hval,AA]
   have hO:SWO (Proofs.ltOf cf):={
    irrefl:=fun x=>by show decide (key x.1-key x.1<0)=false; exact Ah (by omega)
    trans:=fun x y z h1 h2=>by
     have h1:=of_decide_eq_true (show decide (key x.1-key y.1<0)=true from h1)
     have h2:=of_decide_eq_true (show decide (key y.1-key z.1<0)=true from h2)
     show decide (key x.1-key z.1<0)=true
     exact Ai (by omega)
    ntrans:=fun x y z h1 h2=>by
     have h1:=of_decide_eq_false (show decide (key x.1-key y.1<0)=false from h1)
     have h2:=of_decide_eq_false (show decide (key y.1-key z.1<0)=false from h2)
     show decide (key x.1-key z.1<0)=false
     exact Ah (by omega) }
   have hH:HoldsK enc' f.sz E.w b 0 l.toArray:=by
    unfold HoldsK
    rw [zY hk' f.pos,hfm,hval]
    intro j hj
    have hj:j<(a0.flatMap enc).length:=by simpa using hj
    refine ⟨?_,by simp [World.frozen?,hh]⟩
    simp only [World.cell?,hh,Bi,Fw,CK,if_false,Cy]
    rw [AK hj]
    simp [AL hj]
   have hC:=Proofs.AnyQ.slices_SortFunc L f.sz aE zE enc' hk' (fun x=>h1 x.1) cf hO g #[] b 0 cap l.toArray E.w eg (fun m os dk _ x y=>hcmp x.1 y.1 _ x.2 y.2) hH (cX hh) (by rw [hll]; exact hlen)
   rw [hll] at hC
   refine hC.mono ?_
   rintro e' w' ⟨rfl,d',n,os,hp,hs,rfl⟩
   have hsz:d'.size=a0.length:=hp.1.trans hll
   have hperm:(d'.toList.map (·.1)).Perm a0:=by
    have:=hp.2.2
    rw [Ej (by rw [hsz]; exact AO _),Ej (by rw [hll]; exact AO _)] at this
    have:=this.map (·.1)
    rwa [show l.toArray.toList=l from rfl,hval] at this
   have hsort:(d'.toList.map (·.1)).Pairwise (fun a b=>key a≤key b):=by
    rw [Bm,CQ]
    intro i j hi hj hij
    have hj':j<d'.size:=by simpa using hj
    have h9:=hs i j (CO _) hij (by rw [←hsz]; exact hj')
    have h9:=of_decide_eq_false (show decide (key (d'[j]!).1-key (d'[i]!).1<0)=false from h9)
    rw [getElem!_pos d' j hj',getElem!_pos d' i (by omega)] at h9
    show key (d'.toList[i]).1≤key (d'.toList[j]).1
    rw [EX,EX]
    omega
   have hr:pA key a0=d'.toList.map (·.1):=aBQ key hperm (vV hnd) hsort
   have hl:((pA key a0).flatMap enc).length=(a0.flatMap enc).length:=((oD key a0).flatMap_right enc).length_eq
   refine ⟨rfl,_,n,os,(pA key a0).flatMap enc,rfl,?_,hl,fun E' β'=>aDA hrd' E' β' _⟩
   have e1:flatK enc' f.sz d'=((pA key a0).flatMap enc).toArray:=by
    rw [hr,←hfm,←zY hk' f.pos]
   rw [e1]
   have:=vN id sp hl
   rw [CY,CY] at this
   exact this
end Go.IL
namespace Go.IL
open RowKit (Below)
section
variable {P:Bc} {O:bK} {N:Nat} {S S':St} {o:Oper} {t:Nat}
theorem SubL.app {a b a' b':List D} (h:SubL a a') (k:SubL b b'):SubL (a++b) (a'++b'):=by
 induction a generalizing a' with
 | nil=>cases h; exact k
 | cons d a ih=>cases h with | cons h1 h2=>exact .cons h1 (ih h2)
end
end Go.IL
open _root_.Array renaming toList_modify → Fi
open List renaming length → Ek,map_append → Ch,map_nil → As,modify_succ_cons → EP
open Option renaming map_eq_some_iff → Cs
namespace Go.IL
open RowKit (Below)
open Go.MapKept
def mput {V:Type}:List (Int×V)→Int→V→List (Int×V)
 | [],k,v=>[(k,v)]
 | (j,w)::r,k,v=>if j=k then (k,v)::r else (j,w)::mput r k v
def mget {V:Type}:List (Int×V)→Int→Af V
 | [],_=>none
 | (j,w)::r,k=>if j=k then some w else mget r k
def mapD {V:Type} (f:V→D) (l:List (Int×V)):List (Int×D):=l.map fun x=>(x.1,f x.2)
theorem aG4 {V:Type} (f:V→D) (k:Int) (v:V):∀ l:List (Int×V),mapD f (mput l k v)=mput (mapD f l) k (f v)
 | []=>rfl
 | (j,w)::r=>by
   unfold mput
   by_cases h:j=k
   · rw [Ay h]; show _=mput ((j,f w)::mapD f r) k (f v); rw [mput,Ay h]; rfl
   · rw [Aq h]; show _=mput ((j,f w)::mapD f r) k (f v); rw [mput,Aq h,←aG4 f k v r]; rfl
theorem aBI {V:Type} (f:V→D) (k:Int):∀ l:List (Int×V),mget (mapD f l) k=(mget l k).map f
 | []=>rfl
 | (j,w)::r=>by
   show mget ((j,f w)::mapD f r) k=_
   rw [mget,mget]
   by_cases h:j=k
   · rw [Ay h,Ay h]; rfl
   · rw [Aq h,Aq h,aBI f k r]
def kI64 (n:Int):AG:=.int .i64 n
theorem aAP (k j:Int):Instr.sameNow (.int .i64) (kI64 k) (kI64 j)=some (k == j):=by simp [Instr.sameNow,kI64]
theorem uG {E:Env} {β:bC} {k:Int} {v:AG} {d:D} (hv:Rd E β v d):∀ (es:List MapEntry) (l:List (Int×D)) (i:Nat),es.map (·.key)=l.map (fun x=>kI64 x.1)→RdL E β (es.map (·.val)) (l.map (·.2)) →
 (Instr.findNow (.int .i64) (kI64 k) es i=some none∧mget l k=none∧mput l k d=l++[(k,d)]) ∨
 ∃ j e x,Instr.findNow (.int .i64) (kI64 k) es i=some (some (i+j,e.val))∧es[j]? = some e∧e.key=kI64 k∧mget l k=some x∧Rd E β e.val x ∧
   (es.modify j fun e=>{ e with key:=kI64 k,val:=v }).map (·.key)=(mput l k d).map (fun x=>kI64 x.1)∧RdL E β ((es.modify j fun e=>{ e with key:=kI64 k,val:=v }).map (·.val)) ((mput l k d).map (·.2))
 | [],[],_,_,_=>.inl ⟨rfl,rfl,rfl⟩
 | [],_::_,_,h,_=>by cases h
 | _::_,[],_,h,_=>by cases h
 | e :: es,(j,x)::l,i,h,hr=>by
   simp only [Aj,List.cons.injEq] at h
   obtain ⟨h1,h2⟩:=h
   simp only [Aj] at hr
   cases hr with
   | cons hx hr =>
     by_cases hk:j=k
     · refine .inr ⟨0,e,x,?_,rfl,by rw [h1,hk],by rw [mget,Ay hk],hx,?_,?_⟩
       · unfold Instr.findNow
         rw [h1,aAP,hk]; simp
       · rw [mput,Ay hk]
         simp [h2]
       · rw [mput,Ay hk]
         simpa using RdL.cons hv hr
     · have hkb:(k == j)=false:=by simpa using fun e=>hk e.symm
       rcases uG hv es l (i+1) h2 hr with ⟨g1,g2,g3⟩ | ⟨m,e',x',g1,g2,g3,g4,g5,g6,g7⟩
       · refine .inl ⟨?_,by rw [mget,Aq hk,g2],by rw [mput,Aq hk,g3]; rfl⟩
         unfold Instr.findNow
         rw [h1,aAP,hkb]; exact g1
       · refine .inr ⟨m+1,e',x',?_,by simpa using g2,g3,by rw [mget,Aq hk,g4],g5,?_,?_⟩
         · unfold Instr.findNow
           rw [h1,aAP,hkb]
           show Instr.findNow _ _ es (i+1)=_
           rw [g1]; congr 3; omega
         · rw [mput,Aq hk]
           simp only [EP,Aj,h1,g6]
         · rw [mput,Aq hk]
           simp only [EP,Aj]
           exact .cons hx g7
section
variable {P:Bc} {O:bK} {N:Nat} {S S':St} {o:Oper} {t:Nat}
def Ent.mpD (l:List (Int×D)):Ent:=.mp (l.map (·.1)) (l.map (·.2))
theorem yE {T:Av} (id:Nat) (ho:o.op = .makeMap T none) (hd:o.dst=some t) (ht:t<N) (hf:S.ent id = .fresh):IOp P O N o S ((S.setE id (.mpD [])).set t (.mref id)):=by
 intro E β a hr next Q hn
 have hrun:(execOp a.eval o).run P E.w = .ok (.value (.map (some E.w.heap.size))) (E.w.alloc (.map #[] 0)):=by
  simp [execOp,ho,Instr.makeMap,Sem.run_bind,Sem.run_pure]
 unfold Oper.wp
 rw [hrun]
 simp only [Oper.upon,hd]
 have hfr:β id=none:=by have:=hr.h.ent id; rw [hf] at this; exact this
 let E':Env:=⟨E.w.alloc (.map #[] 0),fun b o=>b=E.w.heap.size∨E.X b o⟩
 let β':bC:=fun j=>if j=id then some E.w.heap.size else β j
 have hβ:β.le β':=fun j b hj=>by
  by_cases hji:j=id
  · subst hji; rw [hfr] at hj; cases hj
  · simp [β',hji,hj]
 have hs:Step O E E' E.w.heap.size :=
  ⟨rfl,rfl,rfl,by simp [E'],by simp [E'],.inl hr.h.size,fun k hk _=>heap_alloc_old _ _ hk,fun k o hk=>by simp [E',hk],fun _ h=>BO _ (cX h)⟩
 have hle:E.le E':=hs.le (fun o v h1 _=>by have:=World.block_lt_of_cell? _ _ h1; simp at this) (fun c e f h1=>by have:=cX h1; simp at this)
 refine hn E' β' _ ⟨by simp [Act.put,hr.n],hr.nd.step hs,?_,?_⟩
 · refine Da hr.h hs hle hβ ?_ ?_ (id:=id) (by simp [β']) ?_ (fun _ _=>trivial)
   · intro j hj; left; constructor
     · simp [BA,entL,Bp,Bn,aN,Ne.symm hj]
     · simp [β',hj]
   · intro j hj hheld hb
     have:(S.ent j).held=true:=by simpa [BA,entL,Bp,Bn,aN,Ne.symm hj] using hheld
     exact BO _ (hr.h.lt this hb)
   · simp only [BA,entL,Bp,Bn,aN,if_true]
     exact ⟨#[],0,heap_alloc_new _ _,fun o=>.inl rfl,rfl,.nil _⟩
 · intro s
   have hts:t<a.tmps.size:=hr.n ▸ ht
   by_cases hst:t=s
   · subst hst
     simp only [Act.put,Cb,Bn,aN,if_true,BF,BV,hts,CI]
     exact .mref _ _ _ (by simp [β'])
   · have:=Ct hle hβ (hr.sl s)
     simpa [Act.put,Cb,Bn,Bp,aN,hst,Bg] using this
theorem aGD {E:Env} {β:bC} {id b:Nat} {l:List (Int×D)} (h:nL O E β id (.mpD l)) (hb:β id=some b) :
 ∃ es cl,O.own b∧E.w.heap[b]? = some (.map es cl)∧(∀ o,E.X b o)∧es.toList.map (·.key)=l.map (fun x=>kI64 x.1)∧RdL E β (es.toList.map (·.val)) (l.map (·.2)):=by
 obtain ⟨b',es,cl,h1,h2,h3,h4,h5,h6⟩:=h
 rw [hb] at h1; cases h1
 exact ⟨es,cl,h2,h3,h4,by rw [h5,BK]; rfl,h6⟩
theorem aAV {E:Env} {β:bC} {v:AG} {id:Nat} (h:Rd E β v (.mref id)):∃ b,β id=some b∧v = .map (some b):=by
 cases h with | mref _ _ b h=>exact ⟨b,h,rfl⟩
theorem aB4 {T kt et:Av} {x k v:Ao} {id:Nat} {l:List (Int×D)} {n:Int} {d:D} (ho:o.op = .mapUpdate T x k v) (hd:o.dst=none) (hu:P.underlying T=some (.map kt et)) (hk:P.underlying kt=some (.int .i64))
 (hx:SV S x (.mref id)) (he:S.ent id = .mpD l) (hn:SV S k (.int .i64 n)) (hv:SV S v d):IOp P O N o S (S.setE id (.mpD (mput l n d))):=by
 intro E β a hr next Q hn'
 obtain ⟨b,hb,hev⟩:=aAV (hx.rd hr)
 have hent:=hr.h.ent id
 rw [he] at hent
 obtain ⟨es,cl,hown,hh,hX,h1,h2⟩:=aGD hent hb
 have hkv:=jF (hn.rd hr)
 have hkey:IsKey (.int .i64) (.int .i64 n):=rfl
 obtain ⟨es',cl',hrun,h3,h4⟩:∃ es' cl',(execOp a.eval o).run P E.w = .ok .skip { E.w with heap:=E.w.heap.setIfInBounds b (.map es' cl') }∧es'.toList.map (·.key)=(mput l n d).map (fun x=>kI64 x.1)∧RdL E β (es'.toList.map (·.val)) ((mput l n d).map (·.2)):=by
  rcases uG (k:=n) (hv.rd hr) es.toList l 0 h1 h2 with ⟨g1,g2,g3⟩ | ⟨m,e',x',g1,g2,g3,g4,g5,g6,g7⟩
  · have g1':Instr.findNow (.int .i64) (.int .i64 n) es.toList 0=some none:=g1
    refine ⟨es.push { key:=kI64 n,val:=a.eval v,born:=cl },cl+1,?_,?_,?_⟩
    · simp [execOp,ho,hev,hkv,Instr.mapUpdate,run_underlying hu,Go.MapKept.run_getObj_map hh,Go.MapKept.run_checkKey hk hkey,Go.MapKept.run_findKey hk g1',Go.MapKept.run_setObj_map _ hh,Result.andThen,kI64]
    · rw [g3]; simp [h1]
    · rw [g3]
      simp only [Array.toList_push,Ch,Aj,As]
      exact h2.append (.cons (hv.rd hr) (.nil _))
  · have hj:es[m]? = some e':=by simpa using g2
    refine ⟨es.modify m fun e=>{ e with key:=kI64 n,val:=a.eval v },cl,?_,?_,?_⟩
    · have g1':Instr.findNow (.int .i64) (.int .i64 n) es.toList 0=some (some (m,e'.val)):=by rw [Bi] at g1; exact g1
      simp [execOp,ho,hev,hkv,Instr.mapUpdate,run_underlying hu,Go.MapKept.run_getObj_map hh,Go.MapKept.run_checkKey hk hkey,Go.MapKept.run_findKey hk g1',hj,g3,kI64,run_keyThatStays hkey,Go.MapKept.run_setObj_map _ hh,Result.andThen]
    · rw [Fi]; exact g6
    · rw [Fi]; exact g7
 unfold Oper.wp
 rw [hrun]
 simp only [Oper.upon,hd,Act.put]
 let E':Env:=⟨{ E.w with heap:=E.w.heap.setIfInBounds b (.map es' cl') },E.X⟩
 have hset:=heap_set (o':=.map es' cl') hh
 have hs:Step O E E' b:=⟨rfl,rfl,rfl,by simp [E'],by simpa [E'] using cX hh,hown,fun k _ hk=>hset.2 k hk,fun _ _ _=>DA,fun _ h=>by rw [hh] at h; cases h⟩
 have hle:E.le E':=hs.le (fun o v _ h2=>AI (hX o) h2) (fun c e' f h3=>by rw [hh] at h3; cases h3)
 refine hn' E' β a ⟨hr.n,hr.nd.step hs,?_,fun s=>Ct hle (bC.le.refl _) (hr.sl s)⟩
 refine Da hr.h hs hle (bC.le.refl _) ?_ ?_ hb ?_ (fun _ _=>trivial)
 · intro j hj; left; exact ⟨by simp [BA,entL,Bp,aN,Ne.symm hj],rfl⟩
 · intro j hj hheld hbj
   have:(S.ent j).held=true:=by simpa [BA,entL,Bp,aN,Ne.symm hj] using hheld
   exact hj (hr.h.inj j id b this (by rw [he]; rfl) hbj hb)
 · simp only [BA,entL,Bp,aN,if_true]
   exact ⟨es',cl',hset.1,hX,by rw [h3,BK]; rfl,AR hle (bC.le.refl _) h4⟩
theorem sI {V:Type} (f:V→D) {T kt et:Av} {x k v:Ao} {id:Nat} {l l':List (Int×V)} {n:Int} {a:V} (ho:o.op = .mapUpdate T x k v) (hd:o.dst=none) (hu:P.underlying T=some (.map kt et)) (hk:P.underlying kt=some (.int .i64))
 (hx:SV S x (.mref id)) (he:S.ent id = .mpD (mapD f l)) (hn:SV S k (.int .i64 n)) (hv:SV S v (f a)) (hl:mput l n a=l'):IOp P O N o S (S.setE id (.mpD (mapD f l'))):=by
 rw [←hl,aG4]
 exact aB4 ho hd hu hk hx he hn hv
theorem vC {V:Type} (f:V→D) {T kt et:Av} {x k:Ao} {id:Nat} {l:List (Int×V)} {n:Int} {z:AG} {size bytes:Nat} {v0 r:V} (ho:o.op = .lookup T x k false) (hd:o.dst=some t) (ht:t<N) (hu:P.underlying T=some (.map kt et)) (hk:P.underlying kt=some (.int .i64)) (hz:TI P et (some z) size bytes)
 (hx:SV S x (.mref id)) (he:S.ent id = .mpD (mapD f l)) (hn:SV S k (.int .i64 n)) (h0:∀ E β,Rd E β z (f v0)) (hr:(mget l n).getD v0=r):IOp P O N o S (S.set t (f r)) :=
 gZ hd ht fun E β a hrel=>by
  obtain ⟨b,hb,hev⟩:=aAV (hx.rd hrel)
  have hent:=hrel.h.ent id
  rw [he] at hent
  obtain ⟨es,cl,hown,hh,hX,h1,h2⟩:=aGD hent hb
  have hkv:=jF (hn.rd hrel)
  have hkey:IsKey (.int .i64) (.int .i64 n):=rfl
  obtain ⟨i,hi,hzi,_⟩:=hz.at
  rcases uG (k:=n) (v:=.bool true) (.bool β true) es.toList (mapD f l) 0 h1 h2 with ⟨g1,g2,g3⟩ | ⟨m,e',x',g1,g2,g3,g4,g5,_,_⟩
  · have g1':Instr.findNow (.int .i64) (.int .i64 n) es.toList 0=some none:=g1
    refine ⟨z,?_,?_⟩
    · simp [execOp,ho,hev,hkv,Instr.lookup,run_underlying hu,Go.MapKept.run_getObj_map hh,Go.MapKept.run_checkKey hk hkey,Go.MapKept.run_findKey hk g1',zeroValue,typeInfo,hi,hzi,Result.andThen]
    · rw [aBI] at g2
      have:mget l n=none:=by cases hm:mget l n with | none=>rfl | some _=>rw [hm] at g2; cases g2
      rw [←hr,this]; exact h0 E β
  · have g1':Instr.findNow (.int .i64) (.int .i64 n) es.toList 0=some (some (m,e'.val)):=by rw [Bi] at g1; exact g1
    refine ⟨e'.val,?_,?_⟩
    · simp [execOp,ho,hev,hkv,Instr.lookup,run_underlying hu,Go.MapKept.run_getObj_map hh,Go.MapKept.run_checkKey hk hkey,Go.MapKept.run_findKey hk g1',Result.andThen]
    · rw [aBI] at g4
      obtain ⟨y,hy,rfl⟩:=Cs.1 g4
      rw [←hr,hy]; exact g5
theorem aB5 {V:Type} (f:V→D) {T kt et:Av} {x k:Ao} {id:Nat} {l:List (Int×V)} {n:Int} {z:AG} {size bytes:Nat} {v0 r:V} {is:Bool} (ho:o.op = .lookup T x k true) (hd:o.dst=some t) (ht:t<N) (hu:P.underlying T=some (.map kt et)) (hk:P.underlying kt=some (.int .i64)) (hz:TI P et (some z) size bytes)
 (hx:SV S x (.mref id)) (he:S.ent id = .mpD (mapD f l)) (hn:SV S k (.int .i64 n)) (h0:∀ E β,Rd E β z (f v0)) (hr:(mget l n).getD v0=r) (hs:(mget l n).isSome=is):IOp P O N o S (S.set t (.tuple [f r,.bool is])) :=
 gZ hd ht fun E β a hrel=>by
  obtain ⟨b,hb,hev⟩:=aAV (hx.rd hrel)
  have hent:=hrel.h.ent id
  rw [he] at hent
  obtain ⟨es,cl,hown,hh,hX,h1,h2⟩:=aGD hent hb
  have hkv:=jF (hn.rd hrel)
  have hkey:IsKey (.int .i64) (.int .i64 n):=rfl
  obtain ⟨i,hi,hzi,_⟩:=hz.at
  rcases uG (k:=n) (v:=.bool true) (.bool β true) es.toList (mapD f l) 0 h1 h2 with ⟨g1,g2,g3⟩ | ⟨m,e',x',g1,g2,g3,g4,g5,_,_⟩
  · have g1':Instr.findNow (.int .i64) (.int .i64 n) es.toList 0=some none:=g1
    refine ⟨.tuple #[z,.bool false],?_,?_⟩
    · simp [execOp,ho,hev,hkv,Instr.lookup,run_underlying hu,Go.MapKept.run_getObj_map hh,Go.MapKept.run_checkKey hk hkey,Go.MapKept.run_findKey hk g1',zeroValue,typeInfo,hi,hzi,Result.andThen]
    · rw [aBI] at g2
      have:mget l n=none:=by cases hm:mget l n with | none=>rfl | some _=>rw [hm] at g2; cases g2
      rw [←hr,←hs,this]; exact .tuple _ _ _ (.cons (h0 E β) (.cons (.bool _ _) (.nil _)))
  · have g1':Instr.findNow (.int .i64) (.int .i64 n) es.toList 0=some (some (m,e'.val)):=by rw [Bi] at g1; exact g1
    refine ⟨.tuple #[e'.val,.bool true],?_,?_⟩
    · simp [execOp,ho,hev,hkv,Instr.lookup,run_underlying hu,Go.MapKept.run_getObj_map hh,Go.MapKept.run_checkKey hk hkey,Go.MapKept.run_findKey hk g1',Result.andThen]
    · rw [aBI] at g4
      obtain ⟨y,hy,rfl⟩:=Cs.1 g4
      rw [←hr,←hs,hy]; exact .tuple _ _ _ (.cons g5 (.cons (.bool _ _) (.nil _)))
theorem aDe {V:Type} (f:V→D) {T kt et:Av} {x:Ao} {id:Nat} {l:List (Int×V)} (ho:o.op = .call { callee:=.builtin .len,args:=#[x],argTypes:=#[T] }) (hd:o.dst=some t) (ht:t<N) (hu:P.underlying T=some (.map kt et))
 (hx:SV S x (.mref id)) (he:S.ent id = .mpD (mapD f l)):IOp P O N o S (S.set t (.int .i64 (l.length:Int))) :=
 gZ hd ht fun E β a hrel=>by
  obtain ⟨b,hb,hev⟩:=aAV (hx.rd hrel)
  have hent:=hrel.h.ent id
  rw [he] at hent
  obtain ⟨es,cl,hown,hh,hX,h1,h2⟩:=aGD hent hb
  have hlen:es.size=l.length:=by have:=AJ Ek h1; simpa [mapD] using this
  refine ⟨.int .i64 (l.length:Int),?_,.int _ _ _⟩
  simp [execOp,ho,resolve,hev,invoke,builtin,Builtin.len_,run_underlying hu,Go.MapKept.run_getObj_map hh,hlen,goInt,Result.andThen]
theorem nr_one {V:Type} (f:Enc V) (x:V):(f.d x).refsIn noRef=true:=by
 have h:=f.nr x
 generalize f.d x=d at h
 cases d <;> simp_all [D.cells,AE,BG]
theorem aAe {V:Type} (f:Enc V) (l:List (Int×V)):AE noRef ((mapD f.d l).map (·.2))=true:=by
 induction l with
 | nil=>rfl
 | cons x l ih=>show (_&&_)=true; rw [nr_one f x.2]; exact ih
theorem xW {V:Type} (f:Enc V) (ρ:Nat→Nat) (l:List (Int×V)):(Ent.mpD (mapD f.d l)).ren ρ = .mpD (mapD f.d l):=by
 show Ent.mp _ (BB ρ _)=Ent.mp _ _
 rw [CP _ (aAe f l)]
theorem wF {V:Type} (f:Enc V) {ρ:Nat→Nat} {i:Nat} {l:List (Int×V)} (h:S.ent i = .mpD (mapD f.d l)):S.ent i=(Ent.mpD (mapD f.d l)).ren ρ:=by rw [h,xW]
theorem mG {V:Type} (f:Enc V) {p:Nat→Bool} {l:List (Int×V)}:(Ent.mpD (mapD f.d l)).refsIn p=true:=Ck _ (aAe f l)
theorem EntW.mpL {V:Type} (f:Enc V) {ρ:Nat→Nat} {id:Nat} {l:List (Int×V)} (h:S.ent (ρ id) = .mpD (mapD f.d l)):EntW S S' ρ id (.mpD (mapD f.d l)) :=
 .mp h (CP _ (aAe f l)).symm (Ck _ (aAe f l))
end
end Go.IL
open List renaming getElem?_cons_succ → CE
namespace Go.IL
section
variable {P:Bc} {O:bK} {N:Nat} {S S':St} {o:Oper} {t:Nat}
theorem aAQ {T T2 e e2 ty:Av} {args:Array AG} {w:World} (hu:P.underlying T=some (.slice e)) (hu2:P.underlying T2=some (.slice e2)) :
 (Builtin.append_ #[T,T2] ty args).run P w=(Builtin.append_ #[T,T] ty args).run P w:=by
 unfold Builtin.append_
 cases h0:args[0]? with
 | none=>rfl
 | some s =>
   cases h1:args[1]? with
   | none=>rfl
   | some x =>
     simp only [Cl,AZ,Cf,Cy,CX,CE]
     simp only [Sem.run_bind,run_underlying hu,run_underlying hu2,Result.andThen_ok]
     cases s with
     | slice base a b =>
       simp only [Sem.run_bind,run_underlying hu,run_underlying hu2,Result.andThen_ok,Sem.run_pure]
     | _=>rfl
theorem aG5 {T T2 e e2:Av} {x y:Ao} (ho:o.op = .call { callee:=.builtin .append,args:=#[x,y],argTypes:=#[T,T2] }) (hu:P.underlying T=some (.slice e)) (hu2:P.underlying T2=some (.slice e2))
 (h:∀ o':Oper,o'.op = .call { callee:=.builtin .append,args:=#[x,y],argTypes:=#[T,T] }→o'.dst=o.dst→IOp P O N o' S S'):IOp P O N o S S':=by
 intro E β a hr next Q hn
 have h1:=h { o with op:=.call { callee:=.builtin .append,args:=#[x,y],argTypes:=#[T,T] } } rfl rfl E β a hr next Q hn
 unfold Oper.wp at h1 ⊢
 have:(execOp a.eval o).run P E.w=(execOp a.eval { o with op:=.call { callee:=.builtin .append,args:=#[x,y],argTypes:=#[T,T] } }).run P E.w:=by
  simp [execOp,ho,resolve,invoke,builtin,aAQ hu hu2]
 rw [this]
 exact h1
end
end Go.IL
open Go Go.IL
namespace Go.Fn
structure aFi where
 al:Int
 ID:Int
 ap:Int
 ae:Int
 am:Bool
 deriving DecidableEq,Inhabited
structure aX where
 ID:Int
 aa:Int
 ae:Int
 af:Bool
 deriving DecidableEq,Inhabited
def aO:Enc aX:=⟨⟨fun x=>.agg [.int .i64 x.ID,.int .i64 x.aa,.int .i64 x.ae,.bool x.af],4,by decide,fun _=>⟨rfl,rfl⟩⟩,fun _=>rfl⟩

structure aBj where
 aq:Int
 au:Int
 ai:(List aX)
 aj:(List Int)
 deriving DecidableEq,Inhabited
variable [Fu]
def dW (a0:(List Int)) (a1:Int):Nat→Int→Af Int
 | 0,_=>none
 | n0 + 1,v7 =>
   bnd (decide (v7<(a0.length:Int))) fun x14 =>
   bif x14 then (
    bno (gix a0 v7) fun x16 =>
    bnd (decide (a1=x16)) fun x17 =>
    bif x17 then (
     some v7
    ) else (
      bnd (Al .i64 (v7+1)) fun x19 =>
      (dW a0 a1 n0) x19
    )
   ) else (
     some (-1)
   )
def jM (a0:(List Int)) (a1:Int):Af Int :=
 dW a0 a1 fuel 0

def cW (a0:(List Int)) (a1:Int):Af Bool :=
 bno (jM a0 a1) fun x1 =>
 bnd (decide (0≤x1)) fun x2 =>
 some x2

end Go.Fn
open Go Go.IL
namespace Go.Fn
structure aDG where
 aq:Int
 au:Int
 L:(List aX)
 af:(List Int)
 deriving DecidableEq,Inhabited
variable [Fu]
end Go.Fn
open Go Go.IL
namespace Go.Fn


variable [Fu]
end Go.Fn
open Go Go.IL
namespace Go.Fn



end Go.Fn
open Go Go.IL
namespace Go.Fn
structure dL where
 al:Int
 ID:Int
 ap:Int
 ae:Int
 am:Bool
 deriving DecidableEq,Inhabited
def eL:Enc dL:=⟨⟨fun x=>.agg [.int .u8 x.al,.int .i64 x.ID,.int .i64 x.ap,.int .i64 x.ae,.bool x.am],5,by decide,fun _=>⟨rfl,rfl⟩⟩,fun _=>rfl⟩

structure aJ where
 ag:Bool
 ao:Int
 ak:Int
 deriving DecidableEq,Inhabited
def aT:Enc aJ:=⟨⟨fun x=>.agg [.bool x.ag,.int .i64 x.ao,.int .i64 x.ak],3,by decide,fun _=>⟨rfl,rfl⟩⟩,fun _=>rfl⟩

structure bA where
 Cells:(List aJ)
 Free:Int
 Used:Int
 deriving DecidableEq,Inhabited
structure aI where
 id:Int
 up:Int
 first:Int
 next:Int
 weight:Int
 closed:Bool
 deriving DecidableEq,Inhabited
def aA:Enc aI:=⟨⟨fun x=>.agg [.int .i64 x.id,.int .i64 x.up,.int .i64 x.first,.int .i64 x.next,.int .i64 x.weight,.bool x.closed],6,by decide,fun _=>⟨rfl,rfl⟩⟩,fun _=>rfl⟩

structure gJ where
 dep:Int
 weight:Int
 only:Bool
 deriving DecidableEq,Inhabited
variable [Fu]
def nQ (a0:Int) (a1:Int) (a2:Int):Af Bool :=
 bnd (decide (a1≤a0)) fun x1 =>
 bnd (decide (a0≤a2)) fun x2 =>
 bnd (x1&&x2) fun x3 =>
 some x3

def uM  : Af bA :=
 some (⟨[],(-1),0⟩:bA)

def iV (a0:gJ) (a1:Int) (v6:Bool):Af Int :=
 bif v6 then (
  some 8
 ) else (
   bnd (decide (a1=a0.dep)) fun x8 =>
   bif x8 then (
    some 4
   ) else (
     some 0
   )
 )
def kW (a0:gJ) (a1:Int):Af Int :=
 bno (nQ a1 1 1048576) fun x10 =>
 bif (!x10) then (
  iV a0 a1 (!x10)
 ) else (
   bno (nQ a0.dep 0 1048576) fun x12 =>
   bif (!x12) then (
    iV a0 a1 (!x12)
   ) else (
     bno (nQ a0.weight 1 256) fun x14 =>
     iV a0 a1 (!x14)
   )
 )

def jA (a0:bA) (a1:Int):Af Bool :=
 bnd (decide ((-1)≤a1)) fun x1 =>
 bnd (decide (a1<(a0.Cells.length:Int))) fun x2 =>
 bnd (x1&&x2) fun x3 =>
 some x3

def lE (a0:bA) (a1:aJ):Af Bool :=
 bno (gd ((!a1.ag) == true) (jA a0 a1.ak) default) fun x1 =>
 bnd ((!a1.ag)&&(!x1)) fun x2 =>
 some x2

def bQ (a0:(List aJ)) (a1:bA):Nat→Int→Af Int
 | 0,_=>none
 | n0 + 1,v7 =>
   bnd (decide (v7<(a0.length:Int))) fun x14 =>
   bif x14 then (
    bno (gix a0 v7) fun x16 =>
    bno (lE a1 x16) fun x17 =>
    bif x17 then (
     some v7
    ) else (
      bnd (Al .i64 (v7+1)) fun x19 =>
      (bQ a0 a1 n0) x19
    )
   ) else (
     some (-1)
   )
def eB (a0:(List aJ)) (a1:bA):Af Int :=
 bQ a0 a1 fuel 0

def dR (a0:(List aJ)) (a1:bA):Af Bool :=
 bno (eB a0 a1) fun x1 =>
 bnd (decide (0≤x1)) fun x2 =>
 some x2

def rY (a0:aJ):Af Bool :=
 bif a0.ag then (
  bnd (!decide (a0.ak=0)) fun x2 =>
  some x2
 ) else (
   bnd (!decide (a0.ao=0)) fun x3 =>
   some x3
 )

def bY (a0:(List aJ)):Nat→Int→Af Int
 | 0,_=>none
 | n0 + 1,v7 =>
   bnd (decide (v7<(a0.length:Int))) fun x14 =>
   bif x14 then (
    bno (gix a0 v7) fun x16 =>
    bno (rY x16) fun x17 =>
    bif x17 then (
     some v7
    ) else (
      bnd (Al .i64 (v7+1)) fun x19 =>
      (bY a0 n0) x19
    )
   ) else (
     some (-1)
   )
def eN (a0:(List aJ)):Af Int :=
 bY a0 fuel 0

def eC (a0:(List aJ)):Af Bool :=
 bno (eN a0) fun x1 =>
 bnd (decide (0≤x1)) fun x2 =>
 some x2

def fX (a0:bA):Nat→(List Int)→Int→Af ((List Int)×Bool)
 | 0,_,_=>none
 | n0 + 1,v9,v10 =>
   bnd (decide (v10=(-1))) fun x19 =>
   bif x19 then (
    some (v9,true)
   ) else (
     bno (gix a0.Cells v10) fun x21 =>
     bno (gd (x21.ag == false) (cW v9 v10) default) fun x22 =>
     bnd (x21.ag||x22) fun x23 =>
     bif x23 then (
      some (v9,false)
     ) else (
       bno (app 8 v9 ([v10]:(List Int))) fun x25 =>
       bno (gix a0.Cells v10) fun x26 =>
       (fX a0 n0) x25 x26.ak
     )
   )
def mQ (a0:bA):Af ((List Int)×Bool) :=
 fX a0 fuel ([]:(List Int)) a0.Free

def jD (a0:bA):Nat→Int→Int→Af Int
 | 0,_,_=>none
 | n1 + 1,v17,v18 =>
   bnd (decide (v18<(a0.Cells.length:Int))) fun x26 =>
   bif x26 then (
    bno (gix a0.Cells v18) fun x28 =>
    bif x28.ag then (
     bnd (Al .i64 (v17+1)) fun x30 =>
     bnd (Al .i64 (v18+1)) fun x31 =>
     (jD a0 n1) x30 x31
    ) else (
      bnd (Al .i64 (v18+1)) fun x32 =>
      (jD a0 n1) v17 x32
    )
   ) else (
     bno (mQ a0) fun x33 =>
     bnd (!decide (v17=a0.Used)) fun x34 =>
     bnd ((!x33.2)||x34) fun x35 =>
     bnd (Al .i64 (v17+(x33.1.length:Int))) fun x36 =>
     bnd (!decide (x36=(a0.Cells.length:Int))) fun x37 =>
     bnd (x35||x37) fun x38 =>
     bif x38 then (
      some 10
     ) else (
       some 0
     )
   )
def mW (a0:bA) (v6:Bool):Af Int :=
 bif v6 then (
  some 8
 ) else (
   bno (eC a0.Cells) fun x8 =>
   bif x8 then (
    some 4
   ) else (
     jD a0 fuel 0 0
   )
 )
def nG (a0:bA):Af Int :=
 bnd (decide (64<(a0.Cells.length:Int))) fun x1 =>
 bif x1 then (
  some 5
 ) else (
   bno (jA a0 a0.Free) fun x40 =>
   bif (!x40) then (
    mW a0 (!x40)
   ) else (
     bno (dR a0.Cells a0) fun x42 =>
     mW a0 x42
   )
 )

def jV (a0:bA):Nat→(List Int)→Int→Af (List Int)
 | 0,_,_=>none
 | n0 + 1,v11,v12 =>
   bnd (decide (v12<(a0.Cells.length:Int))) fun x20 =>
   bif x20 then (
    bno (gix a0.Cells v12) fun x22 =>
    bif x22.ag then (
     bno (app 8 v11 ([v12]:(List Int))) fun x24 =>
     bnd (Al .i64 (v12+1)) fun x25 =>
     (jV a0 n0) x24 x25
    ) else (
      bnd (Al .i64 (v12+1)) fun x26 =>
      (jV a0 n0) v11 x26
    )
   ) else (
     some v11
   )
def pL (a0:bA):Af (List Int) :=
 bno (nG a0) fun x1 =>
 bnd (!decide (x1=0)) fun x2 =>
 bif x2 then (
  some []
 ) else (
   jV a0 fuel ([]:(List Int)) 0
 )

def fT (a0:Int) (a6:(List aI)) (x1:(List Int)):Nat→Int→Af Int
 | 0,_=>none
 | n0 + 1,v11 =>
   bnd (decide (v11<(x1.length:Int))) fun x21 =>
   bif x21 then (
    bno (gix x1 v11) fun x23 =>
    bno (gix a6 x23) fun x24 =>
    chk (a6.length=64)<|bno (a6[(x23:Int).toNat]?) fun x26 =>
    bnd (decide (x26.id=a0)) fun x27 =>
    bif x27 then (
     some x23
    ) else (
      bnd (Al .i64 (v11+1)) fun x29 =>
      (fT a0 a6 x1 n0) x29
    )
   ) else (
     some (-1)
   )
def dF (a0:Int) (a1:Int) (a2:Int) (a3:(List aJ)) (a4:Int) (a5:Int) (a6:(List aI)) (a7:Int) (a8:(List Int)):Af Int :=
 bno (pL (⟨a3,a4,a5⟩:bA)) fun x1 =>
 fT a0 a6 x1 fuel 0

def mY (a0:Int) (a1:Int) (a2:(List aJ)) (a3:Int) (a4:Int) (a5:(List aI)) (a6:Int) (a7:(List Int)):Af Int :=
 some a4

def fE (a0:Int) (a1:Int) (a2:Int) (a3:(List aJ)) (a4:Int) (a5:Int) (a6:(List aI)) (a7:Int) (a8:(List Int)):Nat→Nat→Af (Int×Int×(List aJ)×Int×Int×(List aI)×Int×(List Int))
 | 0,_=>none
 | n0+1,v14 =>
   bno (a6[v14]?) fun x20 =>
   bnd (!decide (x20.next=a0)) fun x21 =>
   bif x21 then (
    bno (a6[v14]?) fun x23 =>
    bno (gix a6 x23.next) fun x24 =>
    (fE a0 a1 a2 a3 a4 a5 a6 a7 a8 n0) ((x23.next:Int).toNat)
   ) else (
     bno (gix a6 a0) fun x25 =>
     bno (a6[(a0:Int).toNat]?) fun x26 =>
     bno (a6[v14]?) fun x27 =>
     bnd (a6.set v14 (⟨x27.id,x27.up,x27.first,x26.next,x27.weight,x27.closed⟩:aI)) fun x28 =>
     some (a1,a2,a3,a4,a5,x28,a7,a8)
   )
def fD (a0:Int) (a1:Int) (a2:Int) (a3:(List aJ)) (a4:Int) (a5:Int) (a6:(List aI)) (a7:Int) (a8:(List Int)):Nat→Nat→Af (Int×Int×(List aJ)×Int×Int×(List aI)×Int×(List Int))
 | 0,_=>none
 | n1+1,v42 =>
   bno (a6[v42]?) fun x48 =>
   bnd (!decide (x48.next=a0)) fun x49 =>
   bif x49 then (
    bno (a6[v42]?) fun x51 =>
    bno (gix a6 x51.next) fun x52 =>
    (fD a0 a1 a2 a3 a4 a5 a6 a7 a8 n1) ((x51.next:Int).toNat)
   ) else (
     bno (gix a6 a0) fun x53 =>
     bno (a6[(a0:Int).toNat]?) fun x54 =>
     bno (a6[v42]?) fun x55 =>
     bnd (a6.set v42 (⟨x55.id,x55.up,x55.first,x54.next,x55.weight,x55.closed⟩:aI)) fun x56 =>
     some (a1,a2,a3,a4,a5,x56,a7,a8)
   )
def hD (a0:Int) (a1:Int) (a2:Int) (a3:(List aJ)) (a4:Int) (a5:Int) (a6:(List aI)) (a7:Int) (a8:(List Int)):Af (Int×Int×(List aJ)×Int×Int×(List aI)×Int×(List Int)) :=
 bno (gix a6 a0) fun x1 =>
 chk (a6.length=64)<|bno (a6[(a0:Int).toNat]?) fun x3 =>
 bnd (decide (x3.up=(-1))) fun x4 =>
 bif x4 then (
  bnd (!decide (a7=a0)) fun x6 =>
  bif x6 then (
   bno (gix a6 a7) fun x8 =>
   fE a0 a1 a2 a3 a4 a5 a6 a7 a8 fuel ((a7:Int).toNat)
  ) else (
    bno (gix a6 a0) fun x29 =>
    bno (a6[(a0:Int).toNat]?) fun x30 =>
    some (a1,a2,a3,a4,a5,a6,x30.next,a8)
  )
 ) else (
   bno (gix a6 x3.up) fun x31 =>
   bno (a6[(x3.up:Int).toNat]?) fun x32 =>
   bnd (!decide (x32.first=a0)) fun x33 =>
   bif x33 then (
    bno (a6[(x3.up:Int).toNat]?) fun x35 =>
    bno (gix a6 x35.first) fun x36 =>
    fD a0 a1 a2 a3 a4 a5 a6 a7 a8 fuel ((x35.first:Int).toNat)
   ) else (
     bno (gix a6 a0) fun x57 =>
     bno (a6[(a0:Int).toNat]?) fun x58 =>
     bno (a6[(x3.up:Int).toNat]?) fun x59 =>
     bnd (a6.set ((x3.up:Int).toNat) (⟨x59.id,x59.up,x58.next,x59.next,x59.weight,x59.closed⟩:aI)) fun x60 =>
     some (a1,a2,a3,a4,a5,x60,a7,a8)
   )
 )

def gN (a0:Int) (a1:Int) (a2:Int) (a3:Int) (a4:(List aJ)) (a5:Int) (a6:Int) (a7:(List aI)) (a8:Int) (a9:(List Int)):Af (Int×Int×(List aJ)×Int×Int×(List aI)×Int×(List Int)) :=
 bnd (decide (a1=(-1))) fun x1 =>
 bif x1 then (
  chk (a7.length=64)<|bno (gix a7 a0) fun x4 =>
  bno (a7[(a0:Int).toNat]?) fun x5 =>
  bnd (a7.set ((a0:Int).toNat) (⟨x5.id,a1,x5.first,x5.next,x5.weight,x5.closed⟩:aI)) fun x6 =>
  bno (gix x6 a0) fun x7 =>
  bno (x6[(a0:Int).toNat]?) fun x8 =>
  bnd (x6.set ((a0:Int).toNat) (⟨x8.id,x8.up,x8.first,a8,x8.weight,x8.closed⟩:aI)) fun x9 =>
  some (a2,a3,a4,a5,a6,x9,a0,a9)
 ) else (
   bno (gix a7 a1) fun x10 =>
   chk (a7.length=64)<|bno (a7[(a1:Int).toNat]?) fun x12 =>
   bno (gix a7 a0) fun x13 =>
   bno (a7[(a0:Int).toNat]?) fun x14 =>
   bnd (a7.set ((a0:Int).toNat) (⟨x14.id,a1,x14.first,x14.next,x14.weight,x14.closed⟩:aI)) fun x15 =>
   bno (gix x15 a0) fun x16 =>
   bno (x15[(a0:Int).toNat]?) fun x17 =>
   bnd (x15.set ((a0:Int).toNat) (⟨x17.id,x17.up,x17.first,x12.first,x17.weight,x17.closed⟩:aI)) fun x18 =>
   bno (x18[(a1:Int).toNat]?) fun x19 =>
   bnd (x18.set ((a1:Int).toNat) (⟨x19.id,x19.up,a0,x19.next,x19.weight,x19.closed⟩:aI)) fun x20 =>
   some (a2,a3,a4,a5,a6,x20,a8,a9)
 )

def eS (a0:Int) (a1:Int) (a2:Int) (a3:Int) (a4:(List aJ)) (a5:Int) (a6:Int) (a7:(List aI)) (a8:Int) (a9:(List Int)):Af (Int×Int×(List aJ)×Int×Int×(List aI)×Int×(List Int)) :=
 bno (hD a0 a2 a3 a4 a5 a6 a7 a8 a9) fun x1 =>
 bno (gN a0 a1 x1.1 x1.2.1 x1.2.2.1 x1.2.2.2.1 x1.2.2.2.2.1 x1.2.2.2.2.2.1 x1.2.2.2.2.2.2.1 x1.2.2.2.2.2.2.2) fun x2 =>
 some (x2.1,x2.2.1,x2.2.2.1,x2.2.2.2.1,x2.2.2.2.2.1,x2.2.2.2.2.2.1,x2.2.2.2.2.2.2.1,x2.2.2.2.2.2.2.2)

def eE (a0:(List aJ)):Af (List aJ) :=
 aAx a0 (
  some ([]:(List aJ))
 ) (
   bno (app 24 ([]:(List aJ)) a0) fun x3 =>
   some x3
 )

def kE (a0:bA):Af ((List aJ)×Int×Int) :=
 bno (eE a0.Cells) fun x1 =>
 some (x1,a0.Free,a0.Used)

def lY (a0:bA) (a1:Int):Af Bool :=
 bnd (decide (0≤a1)) fun x1 =>
 bnd (decide (a1<(a0.Cells.length:Int))) fun x2 =>
 bnd (x1&&x2) fun x3 =>
 bno (gd (x3 == true) (gix a0.Cells a1) default) fun x4 =>
 bnd (x3&&x4.ag) fun x5 =>
 some x5

def oG (a0:bA) (a1:Int):Af (bA×Int) :=
 bno (kE a0) fun x1 =>
 bno (nG a0) fun x2 =>
 bnd (!decide (x2=0)) fun x3 =>
 bif x3 then (
  some ((⟨x1.1,x1.2.1,x1.2.2⟩:bA),x2)
 ) else (
   bno (lY a0 a1) fun x5 =>
   bif (!x5) then (
    some ((⟨x1.1,x1.2.1,x1.2.2⟩:bA),6)
   ) else (
     bno (gix x1.1 a1) fun x7 =>
     bno (x1.1[(a1:Int).toNat]?) fun x8 =>
     bnd (x1.1.set ((a1:Int).toNat) (⟨false,0,x1.2.1⟩:aJ)) fun x9 =>
     bnd (Al .i64 (x1.2.2-1)) fun x10 =>
     some ((⟨x9,a1,x10⟩:bA),0)
   )
 )

def lW (a0:Int) (a1:Int):Af Bool :=
 bnd (decide (a0=a1)) fun x1 =>
 some x1

def dS (a0:(List Int)) (a1:Int):Nat→Int→Af Int
 | 0,_=>none
 | n0 + 1,v7 =>
   bnd (decide (v7<(a0.length:Int))) fun x14 =>
   bif x14 then (
    bno (gix a0 v7) fun x16 =>
    bno (lW x16 a1) fun x17 =>
    bif x17 then (
     some v7
    ) else (
      bnd (Al .i64 (v7+1)) fun x19 =>
      (dS a0 a1 n0) x19
    )
   ) else (
     some (-1)
   )
def iR (a0:(List Int)) (a1:Int):Af Int :=
 dS a0 a1 fuel 0

def cV (a1:Int):Nat→(List Int)→Int→Int→Af (List Int)
 | 0,_,_,_=>none
 | n0 + 1,v17,v18,v19 =>
   bnd (decide (v19<(v17.length:Int))) fun x32 =>
   bif x32 then (
    bno (gix v17 v19) fun x34 =>
    bno (v17[(v19:Int).toNat]?) fun x35 =>
    bno (lW x35 a1) fun x36 =>
    bif (!x36) then (
     bno (gix v17 v18) fun x38 =>
     bno (v17[(v18:Int).toNat]?) fun x39 =>
     bnd (v17.set ((v18:Int).toNat) x35) fun x40 =>
     bnd (Al .i64 (v18+1)) fun x41 =>
     bnd (Al .i64 (v19+1)) fun x42 =>
     (cV a1 n0) x40 x41 x42
    ) else (
      bnd (Al .i64 (v19+1)) fun x43 =>
      (cV a1 n0) v17 v18 x43
    )
   ) else (
     bno (cut v17 0 v18) fun x44 =>
     bno (cut x44 0 v18) fun x45 =>
     some x45
   )
def dT (a0:(List Int)) (a1:Int):Af (List Int) :=
 bno (iR a0 a1) fun x1 =>
 bnd (decide (x1=(-1))) fun x2 =>
 bif x2 then (
  some a0
 ) else (
   bnd (Al .i64 (x1+1)) fun x4 =>
   cV a1 fuel a0 x1 x4
 )

def kI (a0:Int) (v53:Int) (v63:(List Int)):Nat→Int→Int→Int→(List aJ)→Int→Int→(List aI)→Int→(List Int)→Af (Int×Int×(List aJ)×Int×Int×(List aI)×Int×(List Int))
 | 0,_,_,_,_,_,_,_,_,_=>none
 | n4+1,v92,v93,v94,v95,v96,v97,v98,v99,v100 =>
   bnd (decide (v92<(v63.length:Int))) fun x120 =>
   bif x120 then (
    bno (gix v63 v92) fun x122 =>
    bno (v63[(v92:Int).toNat]?) fun x123 =>
    bno (gix v98 a0) fun x124 =>
    chk (v98.length=64)<|bno (v98[(a0:Int).toNat]?) fun x126 =>
    bno (gix v98 x123) fun x127 =>
    bno (v98[(x123:Int).toNat]?) fun x128 =>
    bnd (Al .i64 (x126.weight*x128.weight)) fun x129 =>
    bno (quoI .i64 x129 v53) fun x130 =>
    bnd (max x130 1) fun x131 =>
    bno (gix v98 x123) fun x132 =>
    bno (v98[(x123:Int).toNat]?) fun x133 =>
    bnd (v98.set ((x123:Int).toNat) (⟨x133.id,x133.up,x133.first,x133.next,x131,x133.closed⟩:aI)) fun x134 =>
    bno (gix x134 a0) fun x135 =>
    bno (x134[(a0:Int).toNat]?) fun x136 =>
    bno (eS x123 x136.up v93 v94 v95 v96 v97 x134 v99 v100) fun x137 =>
    bnd (Al .i64 (v92+1)) fun x138 =>
    (kI a0 v53 v63 n4) x138 x137.1 x137.2.1 x137.2.2.1 x137.2.2.2.1 x137.2.2.2.2.1 x137.2.2.2.2.2.1 x137.2.2.2.2.2.2.1 x137.2.2.2.2.2.2.2
   ) else (
     bno (hD a0 v93 v94 v95 v96 v97 v98 v99 v100) fun x139 =>
     bno (oG (⟨x139.2.2.1,x139.2.2.2.1,x139.2.2.2.2.1⟩:bA) a0) fun x140 =>
     chk (x139.2.2.2.2.2.1.length=64)<|bno (dT x139.2.2.2.2.2.2.2 a0) fun x142 =>
     some (x139.1,x139.2.1,x140.1.Cells,x140.1.Free,x140.1.Used,x139.2.2.2.2.2.1,x139.2.2.2.2.2.2.1,x142)
   )
def kJ (a0:Int) (a1:Int) (a2:Int) (a3:(List aJ)) (a4:Int) (a5:Int) (a6:(List aI)) (a7:Int) (a8:(List Int)) (v53:Int):Nat→Int→(List Int)→Af (Int×Int×(List aJ)×Int×Int×(List aI)×Int×(List Int))
 | 0,_,_=>none
 | n3+1,v62,v63 =>
   bnd (!decide (v62=(-1))) fun x69 =>
   bif x69 then (
    bno (gix a6 v62) fun x71 =>
    bno (a6[(v62:Int).toNat]?) fun x72 =>
    bno (app 8 v63 ([v62]:(List Int))) fun x73 =>
    (kJ a0 a1 a2 a3 a4 a5 a6 a7 a8 v53 n3) x72.next x73
   ) else (
     kI a0 v53 v63 fuel 0 a1 a2 a3 a4 a5 a6 a7 a8
   )
def dJ (a0:Int) (v53:Int) (v152:(List Int)):Nat→Int→Int→Int→(List aJ)→Int→Int→(List aI)→Int→(List Int)→Af (Int×Int×(List aJ)×Int×Int×(List aI)×Int×(List Int))
 | 0,_,_,_,_,_,_,_,_,_=>none
 | n6+1,v181,v182,v183,v184,v185,v186,v187,v188,v189 =>
   bnd (decide (v181<(v152.length:Int))) fun x209 =>
   bif x209 then (
    bno (gix v152 v181) fun x211 =>
    bno (v152[(v181:Int).toNat]?) fun x212 =>
    bno (gix v187 a0) fun x213 =>
    chk (v187.length=64)<|bno (v187[(a0:Int).toNat]?) fun x215 =>
    bno (gix v187 x212) fun x216 =>
    bno (v187[(x212:Int).toNat]?) fun x217 =>
    bnd (Al .i64 (x215.weight*x217.weight)) fun x218 =>
    bno (quoI .i64 x218 v53) fun x219 =>
    bnd (max x219 1) fun x220 =>
    bno (gix v187 x212) fun x221 =>
    bno (v187[(x212:Int).toNat]?) fun x222 =>
    bnd (v187.set ((x212:Int).toNat) (⟨x222.id,x222.up,x222.first,x222.next,x220,x222.closed⟩:aI)) fun x223 =>
    bno (gix x223 a0) fun x224 =>
    bno (x223[(a0:Int).toNat]?) fun x225 =>
    bno (eS x212 x225.up v182 v183 v184 v185 v186 x223 v188 v189) fun x226 =>
    bnd (Al .i64 (v181+1)) fun x227 =>
    (dJ a0 v53 v152 n6) x227 x226.1 x226.2.1 x226.2.2.1 x226.2.2.2.1 x226.2.2.2.2.1 x226.2.2.2.2.2.1 x226.2.2.2.2.2.2.1 x226.2.2.2.2.2.2.2
   ) else (
     bno (hD a0 v182 v183 v184 v185 v186 v187 v188 v189) fun x228 =>
     bno (oG (⟨x228.2.2.1,x228.2.2.2.1,x228.2.2.2.2.1⟩:bA) a0) fun x229 =>
     chk (x228.2.2.2.2.2.1.length=64)<|bno (dT x228.2.2.2.2.2.2.2 a0) fun x231 =>
     some (x228.1,x228.2.1,x229.1.Cells,x229.1.Free,x229.1.Used,x228.2.2.2.2.2.1,x228.2.2.2.2.2.2.1,x231)
   )
def gF (a0:Int) (a1:Int) (a2:Int) (a3:(List aJ)) (a4:Int) (a5:Int) (a6:(List aI)) (a7:Int) (a8:(List Int)) (v53:Int):Nat→Int→(List Int)→Af (Int×Int×(List aJ)×Int×Int×(List aI)×Int×(List Int))
 | 0,_,_=>none
 | n5+1,v151,v152 =>
   bnd (!decide (v151=(-1))) fun x158 =>
   bif x158 then (
    bno (gix a6 v151) fun x160 =>
    bno (a6[(v151:Int).toNat]?) fun x161 =>
    bno (app 8 v152 ([v151]:(List Int))) fun x162 =>
    (gF a0 a1 a2 a3 a4 a5 a6 a7 a8 v53 n5) x161.next x162
   ) else (
     dJ a0 v53 v152 fuel 0 a1 a2 a3 a4 a5 a6 a7 a8
   )
def iW (a0:Int) (a1:Int) (a2:Int) (a3:(List aJ)) (a4:Int) (a5:Int) (a6:(List aI)) (a7:Int) (a8:(List Int)) (v53:Int):Af (Int×Int×(List aJ)×Int×Int×(List aI)×Int×(List Int)) :=
 bnd (decide (a0=(-1))) fun x54 =>
 bif x54 then (
  chk (a6.length=64)<|kJ a0 a1 a2 a3 a4 a5 a6 a7 a8 v53 fuel a7 ([]:(List Int))
 ) else (
   bno (gix a6 a0) fun x143 =>
   chk (a6.length=64)<|bno (a6[(a0:Int).toNat]?) fun x145 =>
   gF a0 a1 a2 a3 a4 a5 a6 a7 a8 v53 fuel x145.first ([]:(List Int))
 )
def kH (a0:Int) (a1:Int) (a2:Int) (a3:(List aJ)) (a4:Int) (a5:Int) (a6:(List aI)) (a7:Int) (a8:(List Int)):Nat→Int→Int→Af (Int×Int×(List aJ)×Int×Int×(List aI)×Int×(List Int))
 | 0,_,_=>none
 | n7+1,v242,v243 =>
   bnd (!decide (v242=(-1))) fun x251 =>
   bif x251 then (
    bno (gix a6 v242) fun x253 =>
    bno (a6[(v242:Int).toNat]?) fun x254 =>
    bno (gix a6 v242) fun x255 =>
    bno (a6[(v242:Int).toNat]?) fun x256 =>
    bnd (Al .i64 (v243+x256.weight)) fun x257 =>
    (kH a0 a1 a2 a3 a4 a5 a6 a7 a8 n7) x254.next x257
   ) else (
     iW a0 a1 a2 a3 a4 a5 a6 a7 a8 v243
   )
def gE (a0:Int) (a1:Int) (a2:Int) (a3:(List aJ)) (a4:Int) (a5:Int) (a6:(List aI)) (a7:Int) (a8:(List Int)):Nat→Int→Int→Af (Int×Int×(List aJ)×Int×Int×(List aI)×Int×(List Int))
 | 0,_,_=>none
 | n8+1,v268,v269 =>
   bnd (!decide (v268=(-1))) fun x277 =>
   bif x277 then (
    bno (gix a6 v268) fun x279 =>
    bno (a6[(v268:Int).toNat]?) fun x280 =>
    bno (gix a6 v268) fun x281 =>
    bno (a6[(v268:Int).toNat]?) fun x282 =>
    bnd (Al .i64 (v269+x282.weight)) fun x283 =>
    (gE a0 a1 a2 a3 a4 a5 a6 a7 a8 n8) x280.next x283
   ) else (
     iW a0 a1 a2 a3 a4 a5 a6 a7 a8 v269
   )
def fR (a0:Int) (a1:Int) (a2:Int) (a3:(List aJ)) (a4:Int) (a5:Int) (a6:(List aI)) (a7:Int) (a8:(List Int)):Af (Int×Int×(List aJ)×Int×Int×(List aI)×Int×(List Int)) :=
 bnd (decide (a0=(-1))) fun x232 =>
 bif x232 then (
  chk (a6.length=64)<|kH a0 a1 a2 a3 a4 a5 a6 a7 a8 fuel a7 0
 ) else (
   bno (gix a6 a0) fun x258 =>
   chk (a6.length=64)<|bno (a6[(a0:Int).toNat]?) fun x260 =>
   gE a0 a1 a2 a3 a4 a5 a6 a7 a8 fuel x260.first 0
 )

def oF (a0:bA) (a1:Int):Af (bA×Int×Int) :=
 bno (kE a0) fun x1 =>
 bno (nG a0) fun x2 =>
 bnd (!decide (x2=0)) fun x3 =>
 bif x3 then (
  some ((⟨x1.1,x1.2.1,x1.2.2⟩:bA),0,x2)
 ) else (
   bnd (decide (64≤a0.Used)) fun x5 =>
   bif x5 then (
    some ((⟨x1.1,x1.2.1,x1.2.2⟩:bA),0,7)
   ) else (
     bnd (Al .i64 (x1.2.2+1)) fun x7 =>
     bnd (decide (x1.2.1=(-1))) fun x8 =>
     bif x8 then (
      bno (app 24 x1.1 (([(⟨true,a1,0⟩:aJ)]:(List aJ)))) fun x10 =>
      some (((⟨x10,x1.2.1,x7⟩:bA),(a0.Cells.length:Int),0))
     ) else (
       bno (gix x1.1 x1.2.1) fun x11 =>
       bno (x1.1[(x1.2.1:Int).toNat]?) fun x12 =>
       bno (gix x1.1 x1.2.1) fun x13 =>
       bno (x1.1[(x1.2.1:Int).toNat]?) fun x14 =>
       bnd (x1.1.set ((x1.2.1:Int).toNat) (⟨true,a1,0⟩:aJ)) fun x15 =>
       some ((⟨x15,x12.ak,x7⟩:bA),x1.2.1,0)
     )
   )
 )

def eT (a1:Int) (a7:(List aI)):Nat→Int→Af Bool
 | 0,_=>none
 | n0 + 1,v8 =>
   bnd (!decide (v8=(-1))) fun x16 =>
   bif x16 then (
    bno (gix a7 v8) fun x18 =>
    chk (a7.length=64)<|bno (a7[(v8:Int).toNat]?) fun x20 =>
    bnd (decide (x20.up=a1)) fun x21 =>
    bif x21 then (
     some true
    ) else (
      (eT a1 a7 n0) x20.up
    )
   ) else (
     some false
   )
def lA (a0:Int) (a1:Int) (a2:Int) (a3:Int) (a4:(List aJ)) (a5:Int) (a6:Int) (a7:(List aI)) (a8:Int) (a9:(List Int)):Af Bool :=
 eT a1 a7 fuel a0

def eI (a0:Int) (v39:(List Int)):Nat→Int→Int→Int→(List aJ)→Int→Int→(List aI)→Int→(List Int)→Af (Int×Int×(List aJ)×Int×Int×(List aI)×Int×(List Int))
 | 0,_,_,_,_,_,_,_,_,_=>none
 | n3 + 1,v59,v60,v61,v62,v63,v64,v65,v66,v67 =>
   bnd (decide (v59<(v39.length:Int))) fun x77 =>
   bif x77 then (
    bno (gix v39 v59) fun x79 =>
    bno (v39[(v59:Int).toNat]?) fun x80 =>
    bnd (!decide (x80=a0)) fun x81 =>
    bif x81 then (
     bno (eS x80 a0 v60 v61 v62 v63 v64 v65 v66 v67) fun x83 =>
     bnd (Al .i64 (v59+1)) fun x84 =>
     (eI a0 v39 n3) x84 x83.1 x83.2.1 x83.2.2.1 x83.2.2.2.1 x83.2.2.2.2.1 x83.2.2.2.2.2.1 x83.2.2.2.2.2.2.1 x83.2.2.2.2.2.2.2
    ) else (
      bnd (Al .i64 (v59+1)) fun x85 =>
      (eI a0 v39 n3) x85 v60 v61 v62 v63 v64 v65 v66 v67
    )
   ) else (
     some (v60,v61,v62,v63,v64,v65,v66,v67)
   )
def fM (a0:Int) (x25:(Int×Int×(List aJ)×Int×Int×(List aI)×Int×(List Int))) (x29:(List aI)):Nat→Int→(List Int)→Af (Int×Int×(List aJ)×Int×Int×(List aI)×Int×(List Int))
 | 0,_,_=>none
 | n2+1,v38,v39 =>
   bnd (!decide (v38=(-1))) fun x45 =>
   bif x45 then (
    bno (gix x29 v38) fun x47 =>
    bno (x29[(v38:Int).toNat]?) fun x48 =>
    bno (app 8 v39 ([v38]:(List Int))) fun x49 =>
    (fM a0 x25 x29 n2) x48.next x49
   ) else (
     eI a0 v39 fuel 0 x25.1 x25.2.1 x25.2.2.1 x25.2.2.2.1 x25.2.2.2.2.1 x29 x25.2.2.2.2.2.2.1 x25.2.2.2.2.2.2.2
   )
def eH (a0:Int) (v94:(List Int)):Nat→Int→Int→Int→(List aJ)→Int→Int→(List aI)→Int→(List Int)→Af (Int×Int×(List aJ)×Int×Int×(List aI)×Int×(List Int))
 | 0,_,_,_,_,_,_,_,_,_=>none
 | n5 + 1,v114,v115,v116,v117,v118,v119,v120,v121,v122 =>
   bnd (decide (v114<(v94.length:Int))) fun x132 =>
   bif x132 then (
    bno (gix v94 v114) fun x134 =>
    bno (v94[(v114:Int).toNat]?) fun x135 =>
    bnd (!decide (x135=a0)) fun x136 =>
    bif x136 then (
     bno (eS x135 a0 v115 v116 v117 v118 v119 v120 v121 v122) fun x138 =>
     bnd (Al .i64 (v114+1)) fun x139 =>
     (eH a0 v94 n5) x139 x138.1 x138.2.1 x138.2.2.1 x138.2.2.2.1 x138.2.2.2.2.1 x138.2.2.2.2.2.1 x138.2.2.2.2.2.2.1 x138.2.2.2.2.2.2.2
    ) else (
      bnd (Al .i64 (v114+1)) fun x140 =>
      (eH a0 v94 n5) x140 v115 v116 v117 v118 v119 v120 v121 v122
    )
   ) else (
     some (v115,v116,v117,v118,v119,v120,v121,v122)
   )
def fL (a0:Int) (x25:(Int×Int×(List aJ)×Int×Int×(List aI)×Int×(List Int))) (x29:(List aI)):Nat→Int→(List Int)→Af (Int×Int×(List aJ)×Int×Int×(List aI)×Int×(List Int))
 | 0,_,_=>none
 | n4+1,v93,v94 =>
   bnd (!decide (v93=(-1))) fun x100 =>
   bif x100 then (
    bno (gix x29 v93) fun x102 =>
    bno (x29[(v93:Int).toNat]?) fun x103 =>
    bno (app 8 v94 ([v93]:(List Int))) fun x104 =>
    (fL a0 x25 x29 n4) x103.next x104
   ) else (
     eH a0 v94 fuel 0 x25.1 x25.2.1 x25.2.2.1 x25.2.2.2.1 x25.2.2.2.2.1 x29 x25.2.2.2.2.2.2.1 x25.2.2.2.2.2.2.2
   )
def iC (a0:Int) (x1:Int) (v7:Int) (v8:Bool) (v17:Int) (v18:Int) (v19:(List aJ)) (v20:Int) (v21:Int) (v22:(List aI)) (v23:Int) (v24:(List Int)):Af (Int×Int×(List aJ)×Int×Int×(List aI)×Int×(List Int)) :=
 bno (eS a0 x1 v17 v18 v19 v20 v21 v22 v23 v24) fun x25 =>
 bno (gix x25.2.2.2.2.2.1 a0) fun x26 =>
 chk (x25.2.2.2.2.2.1.length=64)<|bno (x25.2.2.2.2.2.1[(a0:Int).toNat]?) fun x28 =>
 bnd (x25.2.2.2.2.2.1.set ((a0:Int).toNat) (⟨x28.id,x28.up,x28.first,x28.next,v7,x28.closed⟩:aI)) fun x29 =>
 bif (!v8) then (
  some (x25.1,x25.2.1,x25.2.2.1,x25.2.2.2.1,x25.2.2.2.2.1,x29,x25.2.2.2.2.2.2.1,x25.2.2.2.2.2.2.2)
 ) else (
   bnd (decide (x1=(-1))) fun x31 =>
   bif x31 then (
    fM a0 x25 x29 fuel x25.2.2.2.2.2.2.1 ([]:(List Int))
   ) else (
     bno (gix x29 x1) fun x86 =>
     bno (x29[(x1:Int).toNat]?) fun x87 =>
     fL a0 x25 x29 fuel x87.first ([]:(List Int))
   )
 )
def iD (a0:Int) (a2:Int) (a3:Int) (a4:(List aJ)) (a5:Int) (a6:Int) (a7:(List aI)) (a8:Int) (a9:(List Int)) (x1:Int) (v6:Int) (v7:Int) (v8:Bool):Af (Int×Int×(List aJ)×Int×Int×(List aI)×Int×(List Int)) :=
 bnd (!decide (x1=(-1))) fun x141 =>
 bno (gd (x141 == true) (lA x1 a0 a2 a3 a4 a5 a6 a7 a8 a9) default) fun x142 =>
 bnd (x141&&x142) fun x143 =>
 bif x143 then (
  bno (gix a7 a0) fun x145 =>
  chk (a7.length=64)<|bno (a7[(a0:Int).toNat]?) fun x147 =>
  bno (eS x1 x147.up a2 a3 a4 a5 a6 a7 a8 a9) fun x148 =>
  iC a0 x1 v7 v8 x148.1 x148.2.1 x148.2.2.1 x148.2.2.2.1 x148.2.2.2.2.1 x148.2.2.2.2.2.1 x148.2.2.2.2.2.2.1 x148.2.2.2.2.2.2.2
 ) else (
   iC a0 x1 v7 v8 a2 a3 a4 a5 a6 a7 a8 a9
 )
def gS (a0:Int) (a1:gJ) (a2:Int) (a3:Int) (a4:(List aJ)) (a5:Int) (a6:Int) (a7:(List aI)) (a8:Int) (a9:(List Int)):Af (Int×Int×(List aJ)×Int×Int×(List aI)×Int×(List Int)) :=
 bno (dF a1.dep a2 a3 a4 a5 a6 a7 a8 a9) fun x1 =>
 bnd (decide (x1=(-1))) fun x149 =>
 bnd (!decide (a1.dep=0)) fun x150 =>
 bnd (x149&&x150) fun x151 =>
 bif x151 then (
  iD a0 a2 a3 a4 a5 a6 a7 a8 a9 x1 0 16 false
 ) else (
   iD a0 a2 a3 a4 a5 a6 a7 a8 a9 x1 a1.dep a1.weight a1.only
 )

def fY (a0:Int) (a1:gJ) (v10:Int) (v11:Int) (v12:(List aJ)) (v13:Int) (v14:Int) (v15:(List aI)) (v16:Int) (v17:(List Int)):Af (Int×Int×Int×(List aJ)×Int×Int×(List aI)×Int×(List Int)) :=
 bno (oF (⟨v12,v13,v14⟩:bA) a0) fun x18 =>
 bnd (!decide (x18.2.2=0)) fun x19 =>
 bif x19 then (
  some (x18.2.2,v10,v11,v12,v13,v14,v15,v16,v17)
 ) else (
   bno (gix v15 x18.2.1) fun x21 =>
   chk (v15.length=64)<|bno (v15[(x18.2.1:Int).toNat]?) fun x23 =>
   bnd (v15.set ((x18.2.1:Int).toNat) (⟨a0,0,(-1),(-1),16,false⟩:aI)) fun x24 =>
   bno (gN x18.2.1 (-1) v10 v11 x18.1.Cells x18.1.Free x18.1.Used x24 v16 v17) fun x25 =>
   bno (gS x18.2.1 a1 x25.1 x25.2.1 x25.2.2.1 x25.2.2.2.1 x25.2.2.2.2.1 x25.2.2.2.2.2.1 x25.2.2.2.2.2.2.1 x25.2.2.2.2.2.2.2) fun x26 =>
   some (0,x26.1,x26.2.1,x26.2.2.1,x26.2.2.2.1,x26.2.2.2.2.1,x26.2.2.2.2.2.1,x26.2.2.2.2.2.2.1,x26.2.2.2.2.2.2.2)
 )
def iX (a0:Int) (a1:gJ) (a2:Int) (a3:Int) (a4:(List aJ)) (a5:Int) (a6:Int) (a7:(List aI)) (a8:Int) (a9:(List Int)):Af (Int×Int×Int×(List aJ)×Int×Int×(List aI)×Int×(List Int)) :=
 bno (mY a2 a3 a4 a5 a6 a7 a8 a9) fun x27 =>
 bnd (decide (a2≤x27)) fun x28 =>
 bif x28 then (
  chk (a7.length=64)<|bnd (decide ((a9.length:Int)=0)) fun x31 =>
  bif x31 then (
   some (7,a2,a3,a4,a5,a6,a7,a8,a9)
  ) else (
    bno (gix a9 0) fun x33 =>
    bno (a9[(0:Int).toNat]?) fun x34 =>
    bno (fR x34 a2 a3 a4 a5 a6 a7 a8 a9) fun x35 =>
    fY a0 a1 x35.1 x35.2.1 x35.2.2.1 x35.2.2.2.1 x35.2.2.2.2.1 x35.2.2.2.2.2.1 x35.2.2.2.2.2.2.1 x35.2.2.2.2.2.2.2
  )
 ) else (
   fY a0 a1 a2 a3 a4 a5 a6 a7 a8 a9
 )

def gH (a0:Int) (a1:Int) (a2:Int) (a3:Bool) (a4:Int) (a5:Int) (a6:(List aJ)) (a7:Int) (a8:Int) (a9:(List aI)) (a10:Int) (a11:(List Int)):Af (Int×Int×Int×(List aJ)×Int×Int×(List aI)×Int×(List Int)) :=
 bno (kW (⟨a1,a2,a3⟩:gJ) a0) fun x1 =>
 bnd (!decide (x1=0)) fun x2 =>
 bif x2 then (
  some (x1,a4,a5,a6,a7,a8,a9,a10,a11)
 ) else (
   bno (dF a0 a4 a5 a6 a7 a8 a9 a10 a11) fun x4 =>
   bnd (!decide (x4=(-1))) fun x5 =>
   bif x5 then (
    some (13,a4,a5,a6,a7,a8,a9,a10,a11)
   ) else (
     bno (iX a0 (⟨a1,a2,a3⟩:gJ) a4 a5 a6 a7 a8 a9 a10 a11) fun x7 =>
     some (x7.1,x7.2.1,x7.2.2.1,x7.2.2.2.1,x7.2.2.2.2.1,x7.2.2.2.2.2.1,x7.2.2.2.2.2.2.1,x7.2.2.2.2.2.2.2.1,x7.2.2.2.2.2.2.2.2)
   )
 )

def lN (a0:Int) (a1:Int) (a2:Int) (a3:Bool) (a4:Int) (a5:Int) (a6:(List aJ)) (a7:Int) (a8:Int) (a9:(List aI)) (a10:Int) (a11:(List Int)):Af (Int×Int×Int×(List aJ)×Int×Int×(List aI)×Int×(List Int)) :=
 bno (kW (⟨a1,a2,a3⟩:gJ) a0) fun x1 =>
 bnd (!decide (x1=0)) fun x2 =>
 bif x2 then (
  some (x1,a4,a5,a6,a7,a8,a9,a10,a11)
 ) else (
   bno (dF a0 a4 a5 a6 a7 a8 a9 a10 a11) fun x4 =>
   bnd (decide (x4=(-1))) fun x5 =>
   bif x5 then (
    bno (iX a0 (⟨a1,a2,a3⟩:gJ) a4 a5 a6 a7 a8 a9 a10 a11) fun x7 =>
    some (x7.1,x7.2.1,x7.2.2.1,x7.2.2.2.1,x7.2.2.2.2.1,x7.2.2.2.2.2.1,x7.2.2.2.2.2.2.1,x7.2.2.2.2.2.2.2.1,x7.2.2.2.2.2.2.2.2)
   ) else (
     bno (gS x4 (⟨a1,a2,a3⟩:gJ) a4 a5 a6 a7 a8 a9 a10 a11) fun x8 =>
     some (0,x8.1,x8.2.1,x8.2.2.1,x8.2.2.2.1,x8.2.2.2.2.1,x8.2.2.2.2.2.1,x8.2.2.2.2.2.2.1,x8.2.2.2.2.2.2.2)
   )
 )

def eU (a0:Int) (a1:Int) (a2:Int) (a3:(List aJ)) (a4:Int) (a5:Int) (a6:(List aI)) (a7:Int) (a8:(List Int)):Af Int :=
 bnd (decide (a0=(-1))) fun x1 =>
 bif x1 then (
  some 0
 ) else (
   bno (gix a6 a0) fun x3 =>
   chk (a6.length=64)<|bno (a6[(a0:Int).toNat]?) fun x5 =>
   some x5.id
 )

def dV (a0:(List aX)):Af (List aX):=aBo (fun x=>x.ID) (fun x=>decide (0≤x.ID)&&decide (x.ID≤1048576)) a0

def fN (a0:Int) (a1:Int) (a2:(List aJ)) (a3:Int) (a4:Int) (a5:(List aI)) (a6:Int) (a7:(List Int)) (x1:(List Int)):Nat→(List aX)→Int→Af (List aX)
 | 0,_,_=>none
 | n0+1,v11,v12 =>
   bnd (decide (v12<(x1.length:Int))) fun x22 =>
   bif x22 then (
    bno (gix x1 v12) fun x24 =>
    bno (gix a5 x24) fun x25 =>
    chk (a5.length=64)<|bno (a5[(x24:Int).toNat]?) fun x27 =>
    bno (eU x27.up a0 a1 a2 a3 a4 a5 a6 a7) fun x28 =>
    bno (app 32 v11 (([(⟨x27.id,x28,x27.weight,x27.closed⟩:aX)]:(List aX)))) fun x29 =>
    bnd (Al .i64 (v12+1)) fun x30 =>
    (fN a0 a1 a2 a3 a4 a5 a6 a7 x1 n0) x29 x30
   ) else (
     bno (dV v11) fun x31 =>
     chk (x31.length=v11.length)<|some x31
   )
def jI (a0:Int) (a1:Int) (a2:(List aJ)) (a3:Int) (a4:Int) (a5:(List aI)) (a6:Int) (a7:(List Int)):Af (List aX) :=
 bno (pL (⟨a2,a3,a4⟩:bA)) fun x1 =>
 fN a0 a1 a2 a3 a4 a5 a6 a7 x1 fuel ([]:(List aX)) 0

def eQ (a1:Int) (a2:Int) (a3:(List aJ)) (a4:Int) (a5:Int) (a6:(List aI)) (a7:Int) (a8:(List Int)):Nat→(List Int)→Int→Af (List Int)
 | 0,_,_=>none
 | n0+1,v14,v15 =>
   bnd (!decide (v15=(-1))) fun x28 =>
   bno (gd (x28 == true) (gix a6 v15) default) fun x29 =>
   chk ((x28 == true)=true→a6.length=64)<|bno (gd (x28 == true) (a6[(v15:Int).toNat]?) default) fun x31 =>
   bnd (!decide (x31.up=(-1))) fun x32 =>
   bnd (x28&&x32) fun x33 =>
   bif x33 then (
    bno (gix a6 v15) fun x35 =>
    chk (a6.length=64)<|bno (a6[(v15:Int).toNat]?) fun x37 =>
    bno (eU x37.up a1 a2 a3 a4 a5 a6 a7 a8) fun x38 =>
    bno (app 8 v14 ([x38]:(List Int))) fun x39 =>
    (eQ a1 a2 a3 a4 a5 a6 a7 a8 n0) x39 x37.up
   ) else (
     some v14
   )
def jY (a0:Int) (a1:Int) (a2:Int) (a3:(List aJ)) (a4:Int) (a5:Int) (a6:(List aI)) (a7:Int) (a8:(List Int)):Af (List Int) :=
 bno (dF a0 a1 a2 a3 a4 a5 a6 a7 a8) fun x1 =>
 eQ a1 a2 a3 a4 a5 a6 a7 a8 fuel ([]:(List Int)) x1

def gM (a0:(List Int)):Af (List Int):=aBq a0

def eJ (a1:Int) (a2:Int) (a3:(List aJ)) (a4:Int) (a5:Int) (a6:(List aI)) (a7:Int) (a8:(List Int)) (v18:(List Bool)) (v98:(List Int)) (v99:Int) (kk1:(List Int)→Int→Af (List Int)):Nat→Bool→Int→Af (List Int)
 | 0,_,_=>none
 | n2 + 1,v161,v162 =>
   bno (gd (v161 == true) (gix a6 v162) default) fun x175 =>
   chk ((v161 == true)=true→a6.length=64)<|bno (gd (v161 == true) (a6[(v162:Int).toNat]?) default) fun x177 =>
   bnd (!decide (x177.up=(-1))) fun x178 =>
   bnd (v161&&x178) fun x179 =>
   bif x179 then (
    bno (gix a6 v162) fun x181 =>
    chk (a6.length=64)<|bno (a6[(v162:Int).toNat]?) fun x183 =>
    bno (gix v18 x183.up) fun x184 =>
    chk (v18.length=64)<|bno (v18[(x183.up:Int).toNat]?) fun x186 =>
    (eJ a1 a2 a3 a4 a5 a6 a7 a8 v18 v98 v99 kk1 n2) (!x186) x183.up
   ) else (
     bif v161 then (
      bno (eU v99 a1 a2 a3 a4 a5 a6 a7 a8) fun x188 =>
      bno (app 8 v98 ([x188]:(List Int))) fun x189 =>
      bnd (Al .i64 (v99+1)) fun x190 =>
      kk1 x189 x190
     ) else (
       bnd (Al .i64 (v99+1)) fun x191 =>
       kk1 v98 x191
     )
   )
def eK (a1:Int) (a2:Int) (a3:(List aJ)) (a4:Int) (a5:Int) (a6:(List aI)) (a7:Int) (a8:(List Int)) (v18:(List Bool)):Nat→(List Int)→Int→Af (List Int)
 | 0,_,_=>none
 | n1+1,v98,v99 =>
   bnd (decide (v99<64)) fun x146 =>
   bif x146 then (
    bno (gix v18 v99) fun x148 =>
    eJ a1 a2 a3 a4 a5 a6 a7 a8 v18 v98 v99 (eK a1 a2 a3 a4 a5 a6 a7 a8 v18 n1) fuel x148 v99
   ) else (
     bno (gM v98) fun x192 =>
     chk (x192.length=v98.length)<|some x192
   )
def eV (a0:(List Int)) (a1:Int) (a2:Int) (a3:(List aJ)) (a4:Int) (a5:Int) (a6:(List aI)) (a7:Int) (a8:(List Int)):Nat→Int→(List Bool)→Af (List Int)
 | 0,_,_=>none
 | n0 + 1,v17,v18 =>
   bnd (decide (v17<(a0.length:Int))) fun x35 =>
   bif x35 then (
    bno (gix a0 v17) fun x37 =>
    bno (dF x37 a1 a2 a3 a4 a5 a6 a7 a8) fun x38 =>
    bnd (!decide (x38=(-1))) fun x39 =>
    bno (gd (x39 == true) (gix a6 x38) default) fun x40 =>
    chk ((x39 == true)=true→a6.length=64)<|bno (gd (x39 == true) (a6[(x38:Int).toNat]?) default) fun x42 =>
    bnd (x39&&(!x42.closed)) fun x43 =>
    bif x43 then (
     bno (gix v18 x38) fun x45 =>
     chk (v18.length=64)<|bno (v18[(x38:Int).toNat]?) fun x47 =>
     bnd (v18.set ((x38:Int).toNat) true) fun x48 =>
     bnd (Al .i64 (v17+1)) fun x49 =>
     (eV a0 a1 a2 a3 a4 a5 a6 a7 a8 n0) x49 x48
    ) else (
      bnd (Al .i64 (v17+1)) fun x50 =>
      (eV a0 a1 a2 a3 a4 a5 a6 a7 a8 n0) x50 v18
    )
   ) else (
     chk (v18.length=64)<|eK a1 a2 a3 a4 a5 a6 a7 a8 v18 fuel ([]:(List Int)) 0
   )
def lB (a0:(List Int)) (a1:Int) (a2:Int) (a3:(List aJ)) (a4:Int) (a5:Int) (a6:(List aI)) (a7:Int) (a8:(List Int)):Af (List Int) :=
 bnd ((AF 64 false:(List Bool))) fun x1 =>
 eV a0 a1 a2 a3 a4 a5 a6 a7 a8 fuel 0 x1

def lC (a0:Int) (a1:Int) (a2:Int) (a3:(List aJ)) (a4:Int) (a5:Int) (a6:(List aI)) (a7:Int) (a8:(List Int)):Af (Int×Int×Int×(List aJ)×Int×Int×(List aI)×Int×(List Int)) :=
 bno (dF a0 a1 a2 a3 a4 a5 a6 a7 a8) fun x1 =>
 bnd (decide (x1=(-1))) fun x2 =>
 bif x2 then (
  some (6,a1,a2,a3,a4,a5,a6,a7,a8)
 ) else (
   bno (gix a6 x1) fun x4 =>
   chk (a6.length=64)<|bno (a6[(x1:Int).toNat]?) fun x6 =>
   bif x6.closed then (
    some (9,a1,a2,a3,a4,a5,a6,a7,a8)
   ) else (
     bno (gix a6 x1) fun x8 =>
     bno (a6[(x1:Int).toNat]?) fun x9 =>
     bnd (a6.set ((x1:Int).toNat) (⟨x9.id,x9.up,x9.first,x9.next,x9.weight,true⟩:aI)) fun x10 =>
     bno (app 8 a8 ([x1]:(List Int))) fun x11 =>
     bnd (decide (a2<(x11.length:Int))) fun x12 =>
     bif x12 then (
      bno (gix x11 0) fun x14 =>
      bno (x11[(0:Int).toNat]?) fun x15 =>
      bno (fR x15 a1 a2 a3 a4 a5 x10 a7 x11) fun x16 =>
      some (0,x16.1,x16.2.1,x16.2.2.1,x16.2.2.2.1,x16.2.2.2.2.1,x16.2.2.2.2.2.1,x16.2.2.2.2.2.2.1,x16.2.2.2.2.2.2.2)
     ) else (
       some (0,a1,a2,a3,a4,a5,x10,a7,x11)
     )
   )
 )

def kK (a0:Int) (a1:Int) (a2:Int) (a3:(List aJ)) (a4:Int) (a5:Int) (a6:(List aI)) (a7:Int) (a8:(List Int)):Af (Int×Int×Int×(List aJ)×Int×Int×(List aI)×Int×(List Int)) :=
 bno (dF a0 a1 a2 a3 a4 a5 a6 a7 a8) fun x1 =>
 bnd (decide (x1=(-1))) fun x2 =>
 bif x2 then (
  some (6,a1,a2,a3,a4,a5,a6,a7,a8)
 ) else (
   bno (fR x1 a1 a2 a3 a4 a5 a6 a7 a8) fun x4 =>
   some (0,x4.1,x4.2.1,x4.2.2.1,x4.2.2.2.1,x4.2.2.2.2.1,x4.2.2.2.2.2.1,x4.2.2.2.2.2.2.1,x4.2.2.2.2.2.2.2)
 )

def fW (v52:(List Int)):Af (List Int) :=
 bno (gM v52) fun x53 =>
 chk (x53.length=v52.length)<|some x53
def fV (a1:Int) (a2:Int) (a3:(List aJ)) (a4:Int) (a5:Int) (a6:(List aI)) (a7:Int) (a8:(List Int)):Nat→Int→(List Int)→Af (List Int)
 | 0,_,_=>none
 | n3+1,v64,v65 =>
   bnd (!decide (v64=(-1))) fun x72 =>
   bif x72 then (
    bno (gix a6 v64) fun x74 =>
    bno (a6[(v64:Int).toNat]?) fun x75 =>
    bno (eU v64 a1 a2 a3 a4 a5 a6 a7 a8) fun x76 =>
    bno (app 8 v65 ([x76]:(List Int))) fun x77 =>
    (fV a1 a2 a3 a4 a5 a6 a7 a8 n3) x75.next x77
   ) else (
     fW v65
   )
def fU (a1:Int) (a2:Int) (a3:(List aJ)) (a4:Int) (a5:Int) (a6:(List aI)) (a7:Int) (a8:(List Int)):Nat→Int→(List Int)→Af (List Int)
 | 0,_,_=>none
 | n4+1,v87,v88 =>
   bnd (!decide (v87=(-1))) fun x95 =>
   bif x95 then (
    bno (gix a6 v87) fun x97 =>
    bno (a6[(v87:Int).toNat]?) fun x98 =>
    bno (eU v87 a1 a2 a3 a4 a5 a6 a7 a8) fun x99 =>
    bno (app 8 v88 ([x99]:(List Int))) fun x100 =>
    (fU a1 a2 a3 a4 a5 a6 a7 a8 n4) x98.next x100
   ) else (
     fW v88
   )
def iY (a0:Int) (a1:Int) (a2:Int) (a3:(List aJ)) (a4:Int) (a5:Int) (a6:(List aI)) (a7:Int) (a8:(List Int)):Af (List Int) :=
 bno (dF a0 a1 a2 a3 a4 a5 a6 a7 a8) fun x1 =>
 bnd (decide (x1=(-1))) fun x2 =>
 bnd (!decide (a0=0)) fun x3 =>
 bnd (x2&&x3) fun x4 =>
 bif x4 then (
  some ([]:(List Int))
 ) else (
   bnd (decide (x1=(-1))) fun x55 =>
   bif x55 then (
    chk (a6.length=64)<|fV a1 a2 a3 a4 a5 a6 a7 a8 fuel a7 ([]:(List Int))
   ) else (
     bno (gix a6 x1) fun x78 =>
     chk (a6.length=64)<|bno (a6[(x1:Int).toNat]?) fun x80 =>
     fU a1 a2 a3 a4 a5 a6 a7 a8 fuel x80.first ([]:(List Int))
   )
 )

def kF (a0:dL) (a1:Int) (a2:Int) (a3:(List aJ)) (a4:Int) (a5:Int) (a6:(List aI)) (a7:Int) (a8:(List Int)) (x1:Int) (v11:Bool):Af (Int×Int×Int×(List aJ)×Int×Int×(List aI)×Int×(List Int)) :=
 bif v11 then (
  bno (lN a0.ID a0.ap a0.ae a0.am a1 a2 a3 a4 a5 a6 a7 a8) fun x13 =>
  some (x13.1,x13.2.1,x13.2.2.1,x13.2.2.2.1,x13.2.2.2.2.1,x13.2.2.2.2.2.1,x13.2.2.2.2.2.2.1,x13.2.2.2.2.2.2.2.1,x13.2.2.2.2.2.2.2.2)
 ) else (
   bnd (decide (x1=4)) fun x14 =>
   bif x14 then (
    bno (lC a0.ID a1 a2 a3 a4 a5 a6 a7 a8) fun x16 =>
    some (x16.1,x16.2.1,x16.2.2.1,x16.2.2.2.1,x16.2.2.2.2.1,x16.2.2.2.2.2.1,x16.2.2.2.2.2.2.1,x16.2.2.2.2.2.2.2.1,x16.2.2.2.2.2.2.2.2)
   ) else (
     bno (kK a0.ID a1 a2 a3 a4 a5 a6 a7 a8) fun x17 =>
     some (x17.1,x17.2.1,x17.2.2.1,x17.2.2.2.1,x17.2.2.2.2.1,x17.2.2.2.2.2.1,x17.2.2.2.2.2.2.1,x17.2.2.2.2.2.2.2.1,x17.2.2.2.2.2.2.2.2)
   )
 )
def kG (a0:dL) (a1:Int) (a2:Int) (a3:(List aJ)) (a4:Int) (a5:Int) (a6:(List aI)) (a7:Int) (a8:(List Int)) (x1:Int) (v5:Bool):Af (Int×Int×Int×(List aJ)×Int×Int×(List aI)×Int×(List Int)) :=
 bif v5 then (
  bno (gH a0.ID a0.ap a0.ae a0.am a1 a2 a3 a4 a5 a6 a7 a8) fun x7 =>
  some (x7.1,x7.2.1,x7.2.2.1,x7.2.2.2.1,x7.2.2.2.2.1,x7.2.2.2.2.2.1,x7.2.2.2.2.2.2.1,x7.2.2.2.2.2.2.2.1,x7.2.2.2.2.2.2.2.2)
 ) else (
   bnd (decide (x1=2)) fun x18 =>
   bif x18 then (
    kF a0 a1 a2 a3 a4 a5 a6 a7 a8 x1 x18
   ) else (
     bnd (decide (x1=3)) fun x20 =>
     kF a0 a1 a2 a3 a4 a5 a6 a7 a8 x1 x20
   )
 )
def lV (a0:dL) (a1:Int) (a2:Int) (a3:(List aJ)) (a4:Int) (a5:Int) (a6:(List aI)) (a7:Int) (a8:(List Int)):Af (Int×Int×Int×(List aJ)×Int×Int×(List aI)×Int×(List Int)) :=
 bno (remI a0.al 6) fun x1 =>
 bnd (decide (x1=0)) fun x21 =>
 bif x21 then (
  kG a0 a1 a2 a3 a4 a5 a6 a7 a8 x1 x21
 ) else (
   bnd (decide (x1=1)) fun x23 =>
   kG a0 a1 a2 a3 a4 a5 a6 a7 a8 x1 x23
 )

end Go.Fn
open Go Go.IL
namespace Go.Fn
structure T_anon22 where
 c0:Int
 c1:Int
 deriving DecidableEq,Inhabited
variable [Fu]
end Go.Fn
open _root_ renaming UInt8 → DD
open Go Go.IL
namespace Go.Fn
structure aM where
 ID:Int
 ae:Int
 ah:Int
 deriving DecidableEq,Inhabited
def aH:Enc aM:=⟨⟨fun x=>.agg [.int .i64 x.ID,.int .i64 x.ae,.int .i64 x.ah],3,by decide,fun _=>⟨rfl,rfl⟩⟩,fun _=>rfl⟩

structure T_anons24 where
 c0:Int
 c1:Int
 c2:Int
 deriving DecidableEq,Inhabited
structure uP where
 c0:Int
 c1:Int
 deriving DecidableEq,Inhabited
structure aG where
 aa:Int
 ab:(List aM)
 deriving DecidableEq,Inhabited
def aC:Enc aG:=⟨⟨fun x=>.agg [.int .i64 x.aa,.slice false (x.ab.map aH.d)],2,by decide,fun _=>⟨rfl,rfl⟩⟩,fun _=>rfl⟩


def lQ (a0:Int) (a1:Int) (a2:Int):Af Bool :=
 bnd (decide (a1≤a0)) fun x1 =>
 bnd (decide (a0≤a2)) fun x2 =>
 bnd (x1&&x2) fun x3 =>
 some x3

def sC (a0:aM) (a1:aM) (a2:uP) (a3:Int):Af Bool :=
 bno (lQ a0.ae 1 256) fun x1 =>
 bno (gd (x1 == true) (lQ a1.ae 1 256) default) fun x2 =>
 bnd (x1&&x2) fun x3 =>
 bno (lQ a0.ah 0 1099511627776) fun x4 =>
 bno (gd (x4 == true) (lQ a1.ah 0 1099511627776) default) fun x5 =>
 bnd (x4&&x5) fun x6 =>
 bno (gd (x6 == true) (lQ a3 0 1099511627776) default) fun x7 =>
 bnd (x6&&x7) fun x8 =>
 bnd ((!x3)||(!x8)) fun x9 =>
 bno (gd (x9 == false) (lQ a2.c0 0 a0.ah) default) fun x10 =>
 bnd (x9||(!x10)) fun x11 =>
 bno (gd (x11 == false) (lQ a2.c1 0 a1.ah) default) fun x12 =>
 bnd (x11||(!x12)) fun x13 =>
 bif x13 then (
  some false
 ) else (
   bnd (Al .i64 (a0.ah-a2.c0)) fun x15 =>
   bnd (Al .i64 (x15*a1.ae)) fun x16 =>
   bnd (Al .i64 (a1.ah-a2.c1)) fun x17 =>
   bnd (Al .i64 (x17*a0.ae)) fun x18 =>
   bnd (Al .i64 (x16-x18)) fun x19 =>
   bnd (Al .i64 (0-x19)) fun x20 =>
   bnd (max x19 x20) fun x21 =>
   bnd (Al .i64 (a0.ae+a1.ae)) fun x22 =>
   bnd (Al .i64 (a3*x22)) fun x23 =>
   bnd (decide (x21≤x23)) fun x24 =>
   some x24
 )

def eD (a0:(List aM)):Af (List aM) :=
 aAx a0 (
  some []
 ) (
   bno (app 24 ([]:(List aM)) a0) fun x3 =>
   some x3
 )

def gR (a0:(List aG)):Nat→(List aG)→Int→Af (List aG)
 | 0,_,_=>none
 | n0+1,v7,v8 =>
   bnd (decide (v8<(a0.length:Int))) fun x15 =>
   bif x15 then (
    bno (gix a0 v8) fun x17 =>
    bno (eD x17.ab) fun x18 =>
    bno (app 32 v7 (([(⟨x17.aa,x18⟩:aG)]:(List aG)))) fun x19 =>
    bnd (Al .i64 (v8+1)) fun x20 =>
    (gR a0 n0) x19 x20
   ) else (
     some v7
   )
def lK (a0:(List aG)):Af (List aG) :=
 gR a0 fuel ([]:(List aG)) 0

def pC (a0:aG):Af Bool :=
 bnd (decide (24<(a0.ab.length:Int))) fun x1 =>
 some x1

def cG (a0:(List aG)):Nat→Int→Af Int
 | 0,_=>none
 | n0 + 1,v7 =>
   bnd (decide (v7<(a0.length:Int))) fun x14 =>
   bif x14 then (
    bno (gix a0 v7) fun x16 =>
    bno (pC x16) fun x17 =>
    bif x17 then (
     some v7
    ) else (
      bnd (Al .i64 (v7+1)) fun x19 =>
      (cG a0 n0) x19
    )
   ) else (
     some (-1)
   )
def dQ (a0:(List aG)):Af Int :=
 cG a0 fuel 0

def cS (a0:(List aG)):Af Bool :=
 bno (dQ a0) fun x1 =>
 bnd (decide (0≤x1)) fun x2 =>
 some x2

def kY (a0:aM):Af Bool :=
 bno (lQ a0.ID 1 1048576) fun x1 =>
 bno (gd (x1 == true) (lQ a0.ae 1 256) default) fun x2 =>
 bnd (x1&&x2) fun x3 =>
 bno (gd (x3 == true) (lQ a0.ah 0 1099511627776) default) fun x4 =>
 bnd (x3&&x4) fun x5 =>
 some x5

def lL (a0:aM):Af Bool :=
 bno (kY a0) fun x1 =>
 some (!x1)

def bZ (a0:(List aM)):Nat→Int→Af Int
 | 0,_=>none
 | n0 + 1,v7 =>
   bnd (decide (v7<(a0.length:Int))) fun x14 =>
   bif x14 then (
    bno (gix a0 v7) fun x16 =>
    bno (lL x16) fun x17 =>
    bif x17 then (
     some v7
    ) else (
      bnd (Al .i64 (v7+1)) fun x19 =>
      (bZ a0 n0) x19
    )
   ) else (
     some (-1)
   )
def dH (a0:(List aM)):Af Int :=
 bZ a0 fuel 0

def cM (a0:(List aM)):Af Bool :=
 bno (dH a0) fun x1 =>
 bnd (decide (0≤x1)) fun x2 =>
 some x2

def mN (a0:aG):Af Bool :=
 bno (lQ a0.aa 0 1048576) fun x1 =>
 bno (gd ((!x1) == false) (cM a0.ab) default) fun x2 =>
 bnd ((!x1)||x2) fun x3 =>
 some x3

def cF (a0:(List aG)):Nat→Int→Af Int
 | 0,_=>none
 | n0 + 1,v7 =>
   bnd (decide (v7<(a0.length:Int))) fun x14 =>
   bif x14 then (
    bno (gix a0 v7) fun x16 =>
    bno (mN x16) fun x17 =>
    bif x17 then (
     some v7
    ) else (
      bnd (Al .i64 (v7+1)) fun x19 =>
      (cF a0 n0) x19
    )
   ) else (
     some (-1)
   )
def dP (a0:(List aG)):Af Int :=
 cF a0 fuel 0

def cR (a0:(List aG)):Af Bool :=
 bno (dP a0) fun x1 =>
 bnd (decide (0≤x1)) fun x2 =>
 some x2

def gK (a0:aG):Nat→Int→Af Bool
 | 0,_=>none
 | n0 + 1,v9 =>
   bnd (decide (v9<(a0.ab.length:Int))) fun x18 =>
   bif x18 then (
    bnd (Al .i64 (v9-1)) fun x20 =>
    bno (gix a0.ab x20) fun x21 =>
    bno (gix a0.ab v9) fun x22 =>
    bnd (decide (x22.ID≤x21.ID)) fun x23 =>
    bif x23 then (
     some false
    ) else (
      bnd (Al .i64 (v9+1)) fun x25 =>
      (gK a0 n0) x25
    )
   ) else (
     some true
   )
def nO (a0:aG):Af Bool :=
 gK a0 fuel 1

def gV (a0:(List aG)):Nat→Int→Af Int
 | 0,_=>none
 | n1 + 1,v20 =>
   bnd (decide (v20<(a0.length:Int))) fun x33 =>
   bif x33 then (
    bno (gix a0 v20) fun x35 =>
    bnd (decide (0<v20)) fun x36 =>
    bnd (Al .i64 (v20-1)) fun x37 =>
    bno (gd (x36 == true) (gix a0 x37) default) fun x38 =>
    bnd (decide (x35.aa≤x38.aa)) fun x39 =>
    bnd (x36&&x39) fun x40 =>
    bno (gd (x40 == false) (nO x35) default) fun x41 =>
    bnd (x40||(!x41)) fun x42 =>
    bif x42 then (
     some 10
    ) else (
      bnd (Al .i64 (v20+1)) fun x44 =>
      (gV a0 n1) x44
    )
   ) else (
     some 0
   )
def mT (a0:(List aG)) (v4:Bool):Af Int :=
 bif v4 then (
  some 5
 ) else (
   bno (cR a0) fun x6 =>
   bif x6 then (
    some 8
   ) else (
     gV a0 fuel 0
   )
 )
def jL (a0:(List aG)):Af Int :=
 bnd (decide (25<(a0.length:Int))) fun x45 =>
 bif x45 then (
  mT a0 x45
 ) else (
   bno (cS a0) fun x47 =>
   mT a0 x47
 )

def lZ (a0:aG) (a1:(List (Int×aX))) (a2:(List (Int×Bool))) (a3:(List (Int×Bool))) (a4:Int) (a5:Int) (a6:(List aJ)) (a7:Int) (a8:Int) (a9:(List aI)) (a10:Int) (a11:(List Int)):Af Bool :=
 bnd ((mget a1 a0.aa).getD (⟨0,0,0,false⟩:aX)) fun x1 =>
 bnd ((mget a1 a0.aa).isSome) fun x2 =>
 bnd (!decide (a0.aa=0)) fun x3 =>
 bnd (x3&&(!x2)) fun x4 =>
 some x4

def bU (a0:(List aG)) (a1:(List (Int×aX))) (a2:(List (Int×Bool))) (a3:(List (Int×Bool))) (a4:Int) (a5:Int) (a6:(List aJ)) (a7:Int) (a8:Int) (a9:(List aI)) (a10:Int) (a11:(List Int)):Nat→Int→Af Int
 | 0,_=>none
 | n0 + 1,v8 =>
   bnd (decide (v8<(a0.length:Int))) fun x16 =>
   bif x16 then (
    bno (gix a0 v8) fun x18 =>
    bno (a0[(v8:Int).toNat]?) fun x19 =>
    bno (lZ x19 a1 a2 a3 a4 a5 a6 a7 a8 a9 a10 a11) fun x20 =>
    bif x20 then (
     some v8
    ) else (
      bnd (Al .i64 (v8+1)) fun x22 =>
      (bU a0 a1 a2 a3 a4 a5 a6 a7 a8 a9 a10 a11 n0) x22
    )
   ) else (
     some (-1)
   )
def dM (a0:(List aG)) (a1:(List (Int×aX))) (a2:(List (Int×Bool))) (a3:(List (Int×Bool))) (a4:Int) (a5:Int) (a6:(List aJ)) (a7:Int) (a8:Int) (a9:(List aI)) (a10:Int) (a11:(List Int)):Af Int :=
 bU a0 a1 a2 a3 a4 a5 a6 a7 a8 a9 a10 a11 fuel 0

def bR (a1:(List (Int×aX))) (a2:(List (Int×Bool))) (a3:(List (Int×Bool))) (a4:Int) (a5:Int) (a6:(List aJ)) (a7:Int) (a8:Int) (a9:(List aI)) (a10:Int) (a11:(List Int)):Nat→(List aG)→Int→Int→Af (List aG)
 | 0,_,_,_=>none
 | n0 + 1,v17,v18,v19 =>
   bnd (decide (v19<(v17.length:Int))) fun x32 =>
   bif x32 then (
    bno (gix v17 v19) fun x34 =>
    bno (v17[(v19:Int).toNat]?) fun x35 =>
    bno (lZ x35 a1 a2 a3 a4 a5 a6 a7 a8 a9 a10 a11) fun x36 =>
    bif (!x36) then (
     bno (gix v17 v18) fun x38 =>
     bno (v17[(v18:Int).toNat]?) fun x39 =>
     bnd (v17.set ((v18:Int).toNat) x35) fun x40 =>
     bnd (Al .i64 (v18+1)) fun x41 =>
     bnd (Al .i64 (v19+1)) fun x42 =>
     (bR a1 a2 a3 a4 a5 a6 a7 a8 a9 a10 a11 n0) x40 x41 x42
    ) else (
      bnd (Al .i64 (v19+1)) fun x43 =>
      (bR a1 a2 a3 a4 a5 a6 a7 a8 a9 a10 a11 n0) v17 v18 x43
    )
   ) else (
     bno (cut v17 0 v18) fun x44 =>
     bno (cut x44 0 v18) fun x45 =>
     some x45
   )
def cJ (a0:(List aG)) (a1:(List (Int×aX))) (a2:(List (Int×Bool))) (a3:(List (Int×Bool))) (a4:Int) (a5:Int) (a6:(List aJ)) (a7:Int) (a8:Int) (a9:(List aI)) (a10:Int) (a11:(List Int)):Af (List aG) :=
 bno (dM a0 a1 a2 a3 a4 a5 a6 a7 a8 a9 a10 a11) fun x1 =>
 bnd (decide (x1=(-1))) fun x2 =>
 bif x2 then (
  some a0
 ) else (
   bnd (Al .i64 (x1+1)) fun x4 =>
   bR a1 a2 a3 a4 a5 a6 a7 a8 a9 a10 a11 fuel a0 x1 x4
 )

def iH (a0:aG) (a1:Int):Af Int :=
 bnd (Al .i64 (a0.aa-a1)) fun x1 =>
 some x1

def bE (a0:(List aG)) (a1:Int):Nat→Int→Int→Af (Int×Bool)
 | 0,_,_=>none
 | n0 + 1,v12,v13 =>
   bnd (decide (v12<v13)) fun x25 =>
   bif x25 then (
    bnd (Al .i64 (v12+v13)) fun x27 =>
    bnd (Al .u64 x27) fun x28 =>
    bno (shrI .u64 x28 1) fun x29 =>
    bnd (Al .i64 x29) fun x30 =>
    bno (gix a0 x30) fun x31 =>
    bno (iH x31 a1) fun x32 =>
    bnd (decide (x32<0)) fun x33 =>
    bif x33 then (
     bnd (Al .i64 (x30+1)) fun x35 =>
     (bE a0 a1 n0) x35 v13
    ) else (
      (bE a0 a1 n0) v12 x30
    )
   ) else (
     bnd (decide (v12<(a0.length:Int))) fun x36 =>
     bno (gd (x36 == true) (gix a0 v12) default) fun x37 =>
     bno (gd (x36 == true) (iH x37 a1) default) fun x38 =>
     bnd (decide (x38=0)) fun x39 =>
     bnd (x36&&x39) fun x40 =>
     some (v12,x40)
   )
def cY (a0:(List aG)) (a1:Int):Af (Int×Bool) :=
 bE a0 a1 fuel 0 (a0.length:Int)

def gW (a0:(List aG)) (a1:Int):Af (Int×Bool) :=
 bno (cY a0 a1) fun x1 =>
 some (x1.1,x1.2)

def gA (a0:Int) (a1:(List aG)) (a2:(List aG)):Af (List aG):=insS 32 a2 a0 a1

def dD (a0:(List aM)):Af (List aM) :=
 aAx a0 (
  some ([]:(List aM))
 ) (
   bno (app 24 ([]:(List aM)) a0) fun x3 =>
   some x3
 )

def fB (x1:(List aM)):Nat→(List aM)→Int→Af (List aM)
 | 0,_,_=>none
 | n0+1,v8,v9 =>
   bnd (decide (v9<(x1.length:Int))) fun x16 =>
   bif x16 then (
    bno (gix v8 v9) fun x18 =>
    bno (v8[(v9:Int).toNat]?) fun x19 =>
    bnd (v8.set ((v9:Int).toNat) (⟨x19.ID,x19.ae,0⟩:aM)) fun x20 =>
    bnd (Al .i64 (v9+1)) fun x21 =>
    (fB x1 n0) x20 x21
   ) else (
     some v8
   )
def lU (a0:aG):Af (List aM) :=
 bno (dD a0.ab) fun x1 =>
 fB x1 fuel x1 0

def cE (a0:(List aM)) (a1:(List aM)):Nat→Int→Af Bool
 | 0,_=>none
 | n0 + 1,v10 =>
   bnd (decide (v10<(a0.length:Int))) fun x18 =>
   bif x18 then (
    bno (gix a0 v10) fun x20 =>
    bno (gix a1 v10) fun x21 =>
    bnd ((decide (x20.ID=x21.ID)&&(decide (x20.ae=x21.ae)&&(decide (x20.ah=x21.ah)&&true)))) fun x22 =>
    bif (!x22) then (
     some false
    ) else (
      bnd (Al .i64 (v10+1)) fun x24 =>
      (cE a0 a1 n0) x24
    )
   ) else (
     some true
   )
def dI (a0:(List aM)) (a1:(List aM)):Af Bool :=
 bnd (!decide ((a0.length:Int)=(a1.length:Int))) fun x1 =>
 bif x1 then (
  some false
 ) else (
   cE a0 a1 fuel 0
 )

def jH (a0:aG) (a1:(List aG)):Af (List aG) :=
 bno (gW a1 a0.aa) fun x1 =>
 bif (!x1.2) then (
  bno (gA x1.1 ([a0]:(List aG)) a1) fun x3 =>
  some x3
 ) else (
   bno (gix a1 x1.1) fun x4 =>
   bno (a1[(x1.1:Int).toNat]?) fun x5 =>
   bno (lU x5) fun x6 =>
   bno (dI x6 a0.ab) fun x7 =>
   bif (!x7) then (
    bno (gix a1 x1.1) fun x9 =>
    bno (a1[(x1.1:Int).toNat]?) fun x10 =>
    bnd (a1.set ((x1.1:Int).toNat) a0) fun x11 =>
    some x11
   ) else (
     some a1
   )
 )

def fF (x2:(List aM)):Nat→Int→Int→Int→Int→Af Int
 | 0,_,_,_,_=>none
 | n0 + 1,v12,v13,v14,v15 =>
   bnd (decide (v12<(x2.length:Int))) fun x25 =>
   bif x25 then (
    bno (gix x2 v12) fun x27 =>
    bnd (Al .i64 (x27.ah*v14)) fun x28 =>
    bnd (Al .i64 (v15*x27.ae)) fun x29 =>
    bnd (decide (x28<x29)) fun x30 =>
    bif x30 then (
     bnd (Al .i64 (v12+1)) fun x32 =>
     (fF x2 n0) x32 x27.ID x27.ae x27.ah
    ) else (
      bnd (Al .i64 (v12+1)) fun x33 =>
      (fF x2 n0) x33 v13 v14 v15
    )
   ) else (
     some v13
   )
def jX (a0:aG):Af Int :=
 bno (gix a0.ab 0) fun x1 =>
 bno (cut a0.ab 1 (a0.ab.length:Int)) fun x2 =>
 fF x2 fuel 0 x1.ID x1.ae x1.ah

def jE (v32:Int) (kk0:Int→(List (Int×aX))→(List (Int×Bool))→(List (Int×Bool))→Af ((List aG)×Int)) (x68:(List (Int×aX))) (x73:(List (Int×Bool))) (x75:(List Int)):Nat→Int→(List (Int×Bool))→Af ((List aG)×Int)
 | 0,_,_=>none
 | n1+1,v81,v82 =>
   bnd (decide (v81<(x75.length:Int))) fun x88 =>
   bif x88 then (
    bno (gix x75 v81) fun x90 =>
    bnd (mput v82 x90 true) fun x91 =>
    bnd (Al .i64 (v81+1)) fun x92 =>
    (jE v32 kk0 x68 x73 x75 n1) x92 x91
   ) else (
     bnd (Al .i64 (v32+1)) fun x93 =>
     kk0 x93 x68 x73 v82
   )
def iI (v33:(List (Int×aX))) (v34:(List (Int×Bool))) (v35:(List (Int×Bool))) (v137:(List aG)) (v138:Int) (kk2:(List aG)→Int→Af ((List aG)×Int)) (x176:(List Int)):Nat→Int→(List aM)→Af ((List aG)×Int)
 | 0,_,_=>none
 | n3 + 1,v186,v187 =>
   bnd (decide (v186<(x176.length:Int))) fun x197 =>
   bif x197 then (
    bno (gix x176 v186) fun x199 =>
    bnd ((mget v35 x199).getD false) fun x200 =>
    bif x200 then (
     bnd ((mget v33 x199).getD (⟨0,0,0,false⟩:aX)) fun x202 =>
     bno (app 24 v187 (([(⟨x199,x202.ae,0⟩:aM)]:(List aM)))) fun x203 =>
     bnd (Al .i64 (v186+1)) fun x204 =>
     (iI v33 v34 v35 v137 v138 kk2 x176 n3) x204 x203
    ) else (
      bnd (Al .i64 (v186+1)) fun x205 =>
      (iI v33 v34 v35 v137 v138 kk2 x176 n3) x205 v187
    )
   ) else (
     bno (jH (⟨v138,v187⟩:aG) v137) fun x206 =>
     bno (gW x206 v138) fun x207 =>
     bno (gix x206 x207.1) fun x208 =>
     bno (x206[(x207.1:Int).toNat]?) fun x209 =>
     bno (jX x209) fun x210 =>
     bnd ((mget v34 x210).getD false) fun x211 =>
     bif x211 then (
      some (x206,x210)
     ) else (
       kk2 x206 x210
     )
   )
def fG (a2:Int) (a3:Int) (a4:(List aJ)) (a5:Int) (a6:Int) (a7:(List aI)) (a8:Int) (a9:(List Int)) (v33:(List (Int×aX))) (v34:(List (Int×Bool))) (v35:(List (Int×Bool))):Nat→(List aG)→Int→Af ((List aG)×Int)
 | 0,_,_=>none
 | n2+1,v137,v138 =>
   bno (iY v138 a2 a3 a4 a5 a6 a7 a8 a9) fun x176 =>
   iI v33 v34 v35 v137 v138 (fG a2 a3 a4 a5 a6 a7 a8 a9 v33 v34 v35 n2) x176 fuel 0 ([]:(List aM))
def gB (a0:(List aG)) (a1:(List Int)) (a2:Int) (a3:Int) (a4:(List aJ)) (a5:Int) (a6:Int) (a7:(List aI)) (a8:Int) (a9:(List Int)) (x1:(List aG)) (x2:(List aX)):Nat→Int→(List (Int×aX))→(List (Int×Bool))→(List (Int×Bool))→Af ((List aG)×Int)
 | 0,_,_,_,_=>none
 | n0 + 1,v32,v33,v34,v35 =>
   bnd (decide (v32<(x2.length:Int))) fun x65 =>
   bif x65 then (
    bno (gix x2 v32) fun x67 =>
    bnd (mput v33 x67.ID x67) fun x68 =>
    bno (gd (x67.af == false) (cW a1 x67.ID) default) fun x69 =>
    bnd (x67.af||(!x69)) fun x70 =>
    bif x70 then (
     bnd (Al .i64 (v32+1)) fun x72 =>
     (gB a0 a1 a2 a3 a4 a5 a6 a7 a8 a9 x1 x2 n0) x72 x68 v34 v35
    ) else (
      bnd (mput v34 x67.ID true) fun x73 =>
      bnd (mput v35 x67.ID true) fun x74 =>
      bno (jY x67.ID a2 a3 a4 a5 a6 a7 a8 a9) fun x75 =>
      jE v32 (gB a0 a1 a2 a3 a4 a5 a6 a7 a8 a9 x1 x2 n0) x68 x73 x75 fuel 0 x74
    )
   ) else (
     bno (jL a0) fun x94 =>
     bnd (!decide (x94=0)) fun x95 =>
     bnd (decide ((v34.length:Int)=0)) fun x96 =>
     bnd (x95||x96) fun x97 =>
     bif x97 then (
      some (x1,0)
     ) else (
       bno (cJ x1 v33 v34 v35 a2 a3 a4 a5 a6 a7 a8 a9) fun x99 =>
       fG a2 a3 a4 a5 a6 a7 a8 a9 v33 v34 v35 fuel x99 0
     )
   )
def mI (a0:(List aG)) (a1:(List Int)) (a2:Int) (a3:Int) (a4:(List aJ)) (a5:Int) (a6:Int) (a7:(List aI)) (a8:Int) (a9:(List Int)):Af ((List aG)×Int) :=
 bno (lK a0) fun x1 =>
 bno (jI a2 a3 a4 a5 a6 a7 a8 a9) fun x2 =>
 gB a0 a1 a2 a3 a4 a5 a6 a7 a8 a9 x1 x2 fuel 0 ([]:(List (Int×aX))) ([]:(List (Int×Bool))) ([]:(List (Int×Bool)))

def gC (x1:(List aM)):Nat→(List aM)→Int→Af (List aM)
 | 0,_,_=>none
 | n0+1,v8,v9 =>
   bnd (decide (v9<(x1.length:Int))) fun x16 =>
   bif x16 then (
    bno (gix v8 v9) fun x18 =>
    bno (v8[(v9:Int).toNat]?) fun x19 =>
    bnd (v8.set ((v9:Int).toNat) (⟨x19.ID,x19.ae,0⟩:aM)) fun x20 =>
    bnd (Al .i64 (v9+1)) fun x21 =>
    (gC x1 n0) x20 x21
   ) else (
     some v8
   )
def kZ (a0:aG):Af (List aM) :=
 bno (dD a0.ab) fun x1 =>
 gC x1 fuel x1 0

def mD (a0:aM) (a1:Int):Af Bool :=
 bnd (decide (a0.ID=a1)) fun x1 =>
 some x1

def bL (a0:(List aM)) (a1:Int):Nat→Int→Af Int
 | 0,_=>none
 | n0 + 1,v7 =>
   bnd (decide (v7<(a0.length:Int))) fun x14 =>
   bif x14 then (
    bno (gix a0 v7) fun x16 =>
    bno (mD x16 a1) fun x17 =>
    bif x17 then (
     some v7
    ) else (
      bnd (Al .i64 (v7+1)) fun x19 =>
      (bL a0 a1 n0) x19
    )
   ) else (
     some (-1)
   )
def bF (a0:(List aM)) (a1:Int):Af Int :=
 bL a0 a1 fuel 0

def fJ (a0:(List aG)):Nat→(List aG)→Int→Af (List aG)
 | 0,_,_=>none
 | n0+1,v7,v8 =>
   bnd (decide (v8<(a0.length:Int))) fun x15 =>
   bif x15 then (
    bno (gix a0 v8) fun x17 =>
    bno (eD x17.ab) fun x18 =>
    bno (app 32 v7 (([(⟨x17.aa,x18⟩:aG)]:(List aG)))) fun x19 =>
    bnd (Al .i64 (v8+1)) fun x20 =>
    (fJ a0 n0) x19 x20
   ) else (
     some v7
   )
def nN (a0:(List aG)):Af (List aG) :=
 fJ a0 fuel ([]:(List aG)) 0

def fO (a1:Int) (a2:Int) (a3:(List aJ)) (a4:Int) (a5:Int) (a6:(List aI)) (a7:Int) (a8:(List Int)):Nat→(List Int)→Int→Af (List Int)
 | 0,_,_=>none
 | n0+1,v14,v15 =>
   bnd (!decide (v15=(-1))) fun x28 =>
   bno (gd (x28 == true) (gix a6 v15) default) fun x29 =>
   chk ((x28 == true)=true→a6.length=64)<|bno (gd (x28 == true) (a6[(v15:Int).toNat]?) default) fun x31 =>
   bnd (!decide (x31.up=(-1))) fun x32 =>
   bnd (x28&&x32) fun x33 =>
   bif x33 then (
    bno (gix a6 v15) fun x35 =>
    chk (a6.length=64)<|bno (a6[(v15:Int).toNat]?) fun x37 =>
    bno (eU x37.up a1 a2 a3 a4 a5 a6 a7 a8) fun x38 =>
    bno (app 8 v14 ([x38]:(List Int))) fun x39 =>
    (fO a1 a2 a3 a4 a5 a6 a7 a8 n0) x39 x37.up
   ) else (
     some v14
   )
def jO (a0:Int) (a1:Int) (a2:Int) (a3:(List aJ)) (a4:Int) (a5:Int) (a6:(List aI)) (a7:Int) (a8:(List Int)):Af (List Int) :=
 bno (dF a0 a1 a2 a3 a4 a5 a6 a7 a8) fun x1 =>
 fO a1 a2 a3 a4 a5 a6 a7 a8 fuel ([]:(List Int)) x1

def oH (a0:aX) (a1:Int):Af Bool :=
 bnd (decide (a0.ID=a1)) fun x1 =>
 some x1

def cH (a0:(List aX)) (a1:Int):Nat→Int→Af Int
 | 0,_=>none
 | n0 + 1,v7 =>
   bnd (decide (v7<(a0.length:Int))) fun x14 =>
   bif x14 then (
    bno (gix a0 v7) fun x16 =>
    bno (oH x16 a1) fun x17 =>
    bif x17 then (
     some v7
    ) else (
      bnd (Al .i64 (v7+1)) fun x19 =>
      (cH a0 a1 n0) x19
    )
   ) else (
     some (-1)
   )
def dX (a0:(List aX)) (a1:Int):Af Int :=
 cH a0 a1 fuel 0

def cU (a0:(List aX)) (a1:Int):Af Bool :=
 bno (dX a0 a1) fun x1 =>
 bnd (decide (0≤x1)) fun x2 =>
 some x2

def fK (v:List aM) (i b:Int):Af (List aM) :=
 bno (gix v i) fun y1 =>
 bnd (Al .i64 (y1.ah+b)) fun y2 =>
 some (v.set i.toNat (⟨y1.ID,y1.ae,y2⟩:aM))
def gX (g:aG) (a1 a2:Int):Af (List aM) :=
 bno (bF g.ab a1) fun x1 =>
 bnd (decide (x1<0)) fun x2 =>
 bif x2 then some g.ab else
 bno (gix g.ab x1) fun x3 =>
 bnd (Al .i64 (1099511627776-a2)) fun x4 =>
 bnd (decide (x4<x3.ah)) fun x5 =>
 bif x5 then bno (kZ g) fun x6=>fK x6 x1 a2
 else fK g.ab x1 a2
def fH (x11:List Int) (a2:Int):Nat→List aG→Int→Int→Af (List aG)
 | 0,_,_,_=>none
 | n0 + 1,gs,v20,v21 =>
   bnd (decide (v20<(x11.length:Int))) fun x30 =>
   bif x30 then (
    bno (gix x11 v20) fun x32 =>
    bno (x11[(v20:Int).toNat]?) fun x33 =>
    bno (gW gs x33) fun x34 =>
    bif x34.2 then (
     bno (gix gs x34.1) fun x36 =>
     bno (gX x36 v21 a2) fun x38 =>
     bnd (gs.set x34.1.toNat (⟨x36.aa,x38⟩:aG)) fun x39 =>
     bnd (Al .i64 (v20+1)) fun x37 =>
     (fH x11 a2 n0) x39 x37 x33
    ) else (
      bnd (Al .i64 (v20+1)) fun x37 =>
      (fH x11 a2 n0) gs x37 x33
    )
   ) else (
     some gs
   )
def mA (a0:(List aG)) (a1:Int) (a2:Int) (a3:Int) (a4:Int) (a5:(List aJ)) (a6:Int) (a7:Int) (a8:(List aI)) (a9:Int) (a10:(List Int)):Af (List aG) :=
 bno (nN a0) fun x1 =>
 bno (jL a0) fun x2 =>
 bnd (!decide (x2=0)) fun x3 =>
 bno (gd (x3 == false) (lQ a2 0 1048576) default) fun x4 =>
 bnd (x3||(!x4)) fun x5 =>
 bif x5 then (
  some x1
 ) else (
   bno (jO a1 a3 a4 a5 a6 a7 a8 a9 a10) fun x7 =>
   bno (jI a3 a4 a5 a6 a7 a8 a9 a10) fun x8 =>
   bno (cU x8 a1) fun x9 =>
   bif (!x9) then (
    some x1
   ) else (
     bno (app 8 x7 ([0]:(List Int))) fun x11 =>
     fH x11 a2 fuel x1 0 a1
   )
 )

def nH (a0:(List aG)) (a1:(List Int)) (a2:Int) (a3:Int) (a4:Int) (a5:(List aJ)) (a6:Int) (a7:Int) (a8:(List aI)) (a9:Int) (a10:(List Int)):Af ((List aG)×Int) :=
 bno (mI a0 a1 a3 a4 a5 a6 a7 a8 a9 a10) fun x1 =>
 bnd (decide (x1.2=0)) fun x2 =>
 bif x2 then (
  some (x1.1,0)
 ) else (
   bno (mA x1.1 x1.2 a2 a3 a4 a5 a6 a7 a8 a9 a10) fun x4 =>
   some (x4,x1.2)
 )

def rP (a0:aG) (a1:aG):Af Bool :=
 bnd (decide (a0.aa=a1.aa)) fun x1 =>
 bno (gd (x1 == true) (dI a0.ab a1.ab) default) fun x2 =>
 bnd (x1&&x2) fun x3 =>
 some x3

def bM (a0:(List aG)) (a1:(List aG)):Nat→Int→Af Bool
 | 0,_=>none
 | n0 + 1,v10 =>
   bnd (decide (v10<(a0.length:Int))) fun x18 =>
   bif x18 then (
    bno (gix a0 v10) fun x20 =>
    bno (gix a1 v10) fun x21 =>
    bno (rP x20 x21) fun x22 =>
    bif (!x22) then (
     some false
    ) else (
      bnd (Al .i64 (v10+1)) fun x24 =>
      (bM a0 a1 n0) x24
    )
   ) else (
     some true
   )
def cZ (a0:(List aG)) (a1:(List aG)):Af Bool :=
 bnd (!decide ((a0.length:Int)=(a1.length:Int))) fun x1 =>
 bif x1 then (
  some false
 ) else (
   bM a0 a1 fuel 0
 )

def sB (a0:(List aG)) (a1:(List aG)):Af Bool :=
 bno (cZ a0 a1) fun x1 =>
 some x1

def jN (x11:(Int×Int×Int×(List aJ)×Int×Int×(List aI)×Int×(List Int))) (x12:(Int×Int×Int×(List aJ)×Int×Int×(List aI)×Int×(List Int))) (x13:(Int×Int×Int×(List aJ)×Int×Int×(List aI)×Int×(List Int))):Nat→(List aG)→(List DD)→Int→Af Bool
 | 0,_,_,_=>none
 | n0+1,v23,v24,v25 =>
   bnd (decide (v25<7)) fun x35 =>
   bif x35 then (
    bno (nH v23 ([3,1,5]:(List Int)) 10 x13.2.1 x13.2.2.1 x13.2.2.2.1 x13.2.2.2.2.1 x13.2.2.2.2.2.1 x13.2.2.2.2.2.2.1 x13.2.2.2.2.2.2.2.1 x13.2.2.2.2.2.2.2.2) fun x37 =>
    bno (remI x37.2 10) fun x38 =>
    bnd (Al .u8 x38) fun x39 =>
    bnd (Al .u8 (48+x39)) fun x40 =>
    bno (toU8 x40) fun x41 =>
    bno (cat v24 ([x41]:(List DD))) fun x42 =>
    bnd (Al .i64 (v25+1)) fun x43 =>
    (jN x11 x12 x13 n0) x37.1 x42 x43
   ) else (
     bno (mI v23 ([5]:(List Int)) x13.2.1 x13.2.2.1 x13.2.2.2.1 x13.2.2.2.2.1 x13.2.2.2.2.2.1 x13.2.2.2.2.2.2.1 x13.2.2.2.2.2.2.2.1 x13.2.2.2.2.2.2.2.2) fun x44 =>
     bno (mI v23 ([9]:(List Int)) x13.2.1 x13.2.2.1 x13.2.2.2.1 x13.2.2.2.2.1 x13.2.2.2.2.2.1 x13.2.2.2.2.2.2.1 x13.2.2.2.2.2.2.2.1 x13.2.2.2.2.2.2.2.2) fun x45 =>
     bnd (decide (x11.1=0)) fun x46 =>
     bnd (decide (x12.1=0)) fun x47 =>
     bnd (x46&&x47) fun x48 =>
     bnd (decide (x13.1=0)) fun x49 =>
     bnd (x48&&x49) fun x50 =>
     bnd (decide (v24=([49,51,51,49,51,51,49]:List DD))) fun x51 =>
     bnd (x50&&x51) fun x52 =>
     bnd (decide ((v23.length:Int)=1)) fun x53 =>
     bnd (x52&&x53) fun x54 =>
     bnd (decide (x44.2=5)) fun x55 =>
     bnd (x54&&x55) fun x56 =>
     bnd (decide ((x44.1.length:Int)=2)) fun x57 =>
     bnd (x56&&x57) fun x58 =>
     bno (gd (x58 == true) (gix x44.1 1) default) fun x59 =>
     bnd (decide (x59.aa=3)) fun x60 =>
     bnd (x58&&x60) fun x61 =>
     bnd (decide (x45.2=0)) fun x62 =>
     bnd (x61&&x62) fun x63 =>
     bno (gd (x63 == true) (sB v23 x45.1) default) fun x64 =>
     bnd (x63&&x64) fun x65 =>
     bno (gd (x65 == true) (sB v23 x44.1) default) fun x66 =>
     bnd (x65&&(!x66)) fun x67 =>
     bno (gd (x67 == true) (jL x44.1) default) fun x68 =>
     bnd (decide (x68=0)) fun x69 =>
     bnd (x67&&x69) fun x70 =>
     bno (gd (x70 == true) (jL ([(⟨(-1),[]⟩:aG)]:(List aG))) default) fun x71 =>
     bnd (decide (x71=8)) fun x72 =>
     bnd (x70&&x72) fun x73 =>
     bno (gd (x73 == true) (gix v23 0) default) fun x74 =>
     bno (gd (x73 == true) (gix x74.ab 0) default) fun x75 =>
     bno (gd (x73 == true) (gix v23 0) default) fun x76 =>
     bno (gd (x73 == true) (gix x76.ab 1) default) fun x77 =>
     bno (gd (x73 == true) (sC x75 x77 (⟨0,0⟩:uP) 10) default) fun x78 =>
     bnd (x73&&x78) fun x79 =>
     bno (gd (x79 == true) (gix v23 0) default) fun x80 =>
     bno (gd (x79 == true) (gix x80.ab 0) default) fun x81 =>
     bno (gd (x79 == true) (gix v23 0) default) fun x82 =>
     bno (gd (x79 == true) (gix x82.ab 1) default) fun x83 =>
     bno (gd (x79 == true) (sC x81 x83 (⟨0,0⟩:uP) 0) default) fun x84 =>
     bnd (x79&&(!x84)) fun x85 =>
     bnd (bif x85 then true else false) fun x86 =>
     bnd (bif x86 then true else false) fun x87 =>
     bnd (bif x87 then true else false) fun x88 =>
     some x88
   )
def lM  : Af Bool :=
 bno (nQ 8 1 24) fun x1 =>
 bno (gd ((!x1) == false) (nQ 2 0 8) default) fun x2 =>
 bnd ((!x1)||(!x2)) fun x3 =>
 bif x3 then (
  bnd (!decide (8=0)) fun x5 =>
  bnd (x5||true) fun x6 =>
  some false
 ) else (
   bno (uM) fun x7 =>
   bnd (!decide (0=0)) fun x8 =>
   bnd (x8||false) fun x9 =>
   bif x9 then (
    some false
   ) else (
     bno (gH 1 0 16 false 8 2 x7.Cells x7.Free x7.Used ((AF 64 (⟨0,0,0,0,0,false⟩:aI):(List aI))) (-1) []) fun x11 =>
     bno (gH 3 0 32 false x11.2.1 x11.2.2.1 x11.2.2.2.1 x11.2.2.2.2.1 x11.2.2.2.2.2.1 x11.2.2.2.2.2.2.1 x11.2.2.2.2.2.2.2.1 x11.2.2.2.2.2.2.2.2) fun x12 =>
     bno (gH 5 3 1 false x12.2.1 x12.2.2.1 x12.2.2.2.1 x12.2.2.2.2.1 x12.2.2.2.2.2.1 x12.2.2.2.2.2.2.1 x12.2.2.2.2.2.2.2.1 x12.2.2.2.2.2.2.2.2) fun x13 =>
     jN x11 x12 x13 fuel ([]:(List aG)) ([]:(List DD)) 0
   )
 )

def iA (a0:(List Int)) (a1:Int):Nat→Int→Af Bool
 | 0,_=>none
 | n0 + 1,v7 =>
   bnd (decide (v7<(a0.length:Int))) fun x14 =>
   bif x14 then (
    bno (gix a0 v7) fun x16 =>
    bnd (decide (x16=a1)) fun x17 =>
    bif x17 then (
     some true
    ) else (
      bnd (Al .i64 (v7+1)) fun x19 =>
      (iA a0 a1 n0) x19
    )
   ) else (
     some false
   )
def mB (a0:(List Int)) (a1:Int):Af Bool :=
 iA a0 a1 fuel 0

def eF (a1:(List Int)) (v22:Int) (v23:Int) (v24:(List aJ)) (v25:Int) (v26:Int) (v27:(List aI)) (v28:Int) (v29:(List Int)) (x40:(List Int)):Nat→(List aG)→Int→Af Bool
 | 0,_,_=>none
 | n1 + 1,v57,v58 =>
   bnd (decide (v58<12)) fun x75 =>
   bif x75 then (
    bnd (Al .i64 (1+v58)) fun x77 =>
    bno (nH v57 a1 x77 v22 v23 v24 v25 v26 v27 v28 v29) fun x78 =>
    bnd (decide (x78.2=0)) fun x79 =>
    bnd (decide ((x40.length:Int)=0)) fun x80 =>
    bnd (!(x79 == x80)) fun x81 =>
    bnd (!decide (x78.2=0)) fun x82 =>
    bno (gd ((x81 == false)&&(x82 == true)) (mB x40 x78.2) default) fun x83 =>
    bnd (x82&&(!x83)) fun x84 =>
    bnd (x81||x84) fun x85 =>
    bno (gd (x85 == false) (jL x78.1) default) fun x86 =>
    bnd (!decide (x86=0)) fun x87 =>
    bnd (x85||x87) fun x88 =>
    bif x88 then (
     some false
    ) else (
      bnd (Al .i64 (v58+1)) fun x90 =>
      (eF a1 v22 v23 v24 v25 v26 v27 v28 v29 x40 n1) x78.1 x90
    )
   ) else (
     bno (lM) fun x91 =>
     some x91
   )
def eG (a0:(List dL)) (a1:(List Int)):Nat→Int→Int→Int→(List aJ)→Int→Int→(List aI)→Int→(List Int)→Af Bool
 | 0,_,_,_,_,_,_,_,_,_=>none
 | n0+1,v21,v22,v23,v24,v25,v26,v27,v28,v29 =>
   bnd (decide (v21<(a0.length:Int))) fun x35 =>
   bif x35 then (
    bno (gix a0 v21) fun x37 =>
    bno (lV x37 v22 v23 v24 v25 v26 v27 v28 v29) fun x38 =>
    bnd (Al .i64 (v21+1)) fun x39 =>
    (eG a0 a1 n0) x39 x38.2.1 x38.2.2.1 x38.2.2.2.1 x38.2.2.2.2.1 x38.2.2.2.2.2.1 x38.2.2.2.2.2.2.1 x38.2.2.2.2.2.2.2.1 x38.2.2.2.2.2.2.2.2
   ) else (
     bno (lB a1 v22 v23 v24 v25 v26 v27 v28 v29) fun x40 =>
     eF a1 v22 v23 v24 v25 v26 v27 v28 v29 x40 fuel ([]:(List aG)) 0
   )
def iS (a0:(List dL)) (a1:(List Int)):Af Bool :=
 bnd (decide (40<(a0.length:Int))) fun x1 =>
 bnd (decide (30<(a1.length:Int))) fun x2 =>
 bnd (x1||x2) fun x3 =>
 bif x3 then (
  bno (lM) fun x5 =>
  some x5
 ) else (
   bno (nQ 24 1 24) fun x6 =>
   bno (gd ((!x6) == false) (nQ 3 0 24) default) fun x7 =>
   bnd ((!x6)||(!x7)) fun x8 =>
   bif x8 then (
    bnd (!decide (8=0)) fun x10 =>
    bnd (x10||true) fun x11 =>
    some false
   ) else (
     bno (uM) fun x12 =>
     bnd (!decide (0=0)) fun x13 =>
     bnd (x13||false) fun x14 =>
     bif x14 then (
      some false
     ) else (
       eG a0 a1 fuel 0 24 3 x12.Cells x12.Free x12.Used ((AF 64 (⟨0,0,0,0,0,false⟩:aI):(List aI))) (-1) ([]:(List Int))
     )
   )
 )

end Go.Fn
