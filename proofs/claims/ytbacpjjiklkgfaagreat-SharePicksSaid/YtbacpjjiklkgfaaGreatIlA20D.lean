/-
  A part of the proof: rules and plain facts. No condition.
-/
import Derived.Test.YtbacpjjiklkgfaaGreatIlAr
import Derived.Lib.AppendZerosOnto
import Derived.Laws.CopyRow
import Derived.Lib.Overlaps
import Derived.Lib.Bytealg
import Derived.Lib.ItoaNum
import Derived.Lib.Join
import Derived.Laws.Pointers
import Derived.LaidEqlPtr
import Derived.Lib.Builder
import Derived.Lib.UnsafeStr
import Derived.Shelf.Sort.Plain
import Derived.Shelf.Slices.In.SortNone
import Derived.Shelf.SlSortCmp.WholeK
import Derived.Shelf.SlSortCmp.NoneTotal
import Derived.MapKept
set_option linter.all false
open Go renaming Operand → Am,Program → Ba,TypeId → At,Value → AG
open Go.IL.D renaming one → Ee
open Go.IL.HOk renaming put → Dd
open Go.IL.Rd renaming mono → CA
open Go.IL.RdL renaming mono → AW
open Go.IL.St renaming ent → BA,get → Cf,set → Bo,setE → Br
open Iff renaming rfl → Dy
open List renaming all_eq_true → Bb,append_assoc → AA,append_nil → Ax,drop_append_of_le_length → Bn,getElem?_append_left → AJ,getElem?_drop → Ep,getElem?_eq_some_iff → Aj,getElem?_take → Ca,length_append → AO,length_eq_zero_iff → AV,length_nil → Cj,length_take → Bm,mem_of_mem_take → Dp,replicate → AK,size_toArray → Cm,take_append_drop → AX,take_append_of_le_length → AT,take_length → Cx,toArray → Cw
open Nat renaming add_mul → Bw,add_zero → CP,le_refl → AP,min_eq_left → Cg,min_le_right → FQ,mul_le_mul_right → AU,zero_add → Bj,zero_mul → CY
open _root_ renaming Option → Ag,absurd → Ay
open Go.RowKit (Below)
namespace Go.IL
section
variable {P:Ba} {O:bZ} {N:Nat} {S S':St} {o:Oper} {t:Nat} {Q:Exit→St→Prop}
theorem yK{E:Env}{β:bY}{v:Value}{id sz off len cap:Nat}(h:Rd E β v (.rsl id sz off len cap)) :
 ∃ b p c e f,v = .slice (some ⟨b,p,none⟩) len cap∧β id=some b∧len≤cap∧0<sz∧(0<cap→p=off)∧p≤off∧E.w.heap[b]? = some (Obj.cells c e f)∧off+cap*sz≤c.size∧cap≤maxLen:=by
 cases h with
 | rsl _ _ _ _ _ _ b p h1 h2 h3 h4 c e f h5 h6 h7=>exact ⟨b,p,c,e,f,rfl,h1,h2,h3,h4.1,h4.2,h5,h6,h7⟩
theorem zK{S:St}{id t:Nat}{e:Ent}{d:D}:((S.setE id e).set t d).ent id=e:=by simp [BA,entL,Br,Bo,aV]
theorem xE{S:St}{id t j:Nat}{e:Ent}{d:D}(h:j≠id):((S.setE id e).set t d).ent j=S.ent j:=by simp [BA,entL,Br,Bo,aV,Ne.symm h]
theorem Rel.turn{E:Env}{β:bY}{a:Act}(h:Rel O N S E β a){id b:Nat}{e:At}{ds ds':List D}{d:D}(he:S.ent id = .blk e ds)(hb:β id=some b)(hk:∀ vs sp,E.w.heap[b]? = some (.cells (Cw (vs++sp)) e (0,0))→RdL E β vs ds→∃ vs' sp',vs'++sp'=vs++sp∧RdL E β vs' ds')(hd:Rd E β (a.tmps.getD t undef) d) :
 Rel O N ((S.setE id (.blk e ds')).set t d) E β a:=by
 have hent:=h.h.ent id;rw [he] at hent;obtain ⟨vs,sp,h1,h2,h3,h4⟩:=sZ hent hb;obtain ⟨vs',sp',h5,h6⟩:=hk vs sp h2 h4;have held:∀ j,(((S.setE id (.blk e ds')).set t d).ent j).held=(S.ent j).held:=fun j=>by
  by_cases hj:j=id
  · subst hj; rw [zK,he]; rfl
  · rw [xE hj]
 refine ⟨h.n,h.nd,?_,fun s=>?_⟩
 · refine { h.h with ent:=fun j=>?_,inj:=fun i j k hi hj=>h.h.inj i j k (held i ▸ hi) (held j ▸ hj) }
   by_cases hj:j=id
   · subst hj; rw [zK]; exact .inr ⟨b,vs',sp',hb,h1,by rw [h5]; exact h2,h3,h6⟩
   · rw [xE hj]; exact h.h.ent j
 · by_cases hst:t=s
   · subst hst; simpa [Cf,Bo,aV] using hd
   · have:=h.sl s;simpa [Cf,Bo,Br,aV,hst] using this
theorem Rel.opened{E:Env}{β:bY}{a:Act}(h:Rel O N S E β a){id sz n:Nat}{e:At}{ds:List D}(hS:S.get t = .osl id sz n)(he:S.ent id = .blk e ds)(hl:ds.length=n*sz) :
 (n=0∧Rel O N (S.set t .nils) E β a)∨∃ cap,n≤cap∧cap≤maxLen∧Rel O N ((S.setE id (.blk e (ds++AK ((cap-n)*sz) .dead))).set t (.rsl id sz 0 n cap)) E β a:=by
 have h1:=h.sl t;rw [hS] at h1;generalize hv:a.tmps.getD t undef=v at h1;cases h1 with
 | nosl =>
   left;refine ⟨rfl,h.n,h.nd,?_,fun s=>?_⟩
   · exact h.h
   · by_cases hst:t=s
     · subst hst; simp only [Cf,Bo,aV,if_true]; rw [hv]; exact .nils _
     · have:=h.sl s;simpa [Cf,Bo,aV,hst] using this
 | osl _ _ b _ cap _ hb hc hsz c e' f hcap hcs hcm =>
   right;refine ⟨cap,hc,hcm,h.turn he hb (fun vs sp hh hvs=>?_) ?_⟩
   · rw [hh] at hcap; cases hcap;have hvl:=hvs.length;have hle:(cap-n)*sz≤sp.length:=by
      simp only [Cm,AO,hvl,hl] at hcs;have:cap*sz=n*sz+(cap-n)*sz:=by rw [←Bw]; congr 1; omega
      omega
     refine ⟨vs++sp.take ((cap-n)*sz),sp.drop ((cap-n)*sz),by rw [AA,AX],hvs.append ?_⟩;have:=vA E β (sp.take ((cap-n)*sz))
     rwa [Bm,Cg hle] at this
   · rw [hv]; exact .rsl _ _ _ _ _ _ b 0 hb hc hsz ⟨fun _=>rfl,AP _⟩ c e' f hcap (by rw [Bj]; exact hcs) hcm
theorem Rel.closed{E:Env}{β:bY}{a:Act}(h:Rel O N S E β a){id sz n cap:Nat}{e:At}{ds j:List D}(hS:S.get t = .rsl id sz 0 n cap)(he:S.ent id = .blk e (ds++j))(hl:ds.length=n*sz) :
 Rel O N ((S.setE id (.blk e ds)).set t (.osl id sz n)) E β a:=by
 have h1:=h.sl t;rw [hS] at h1;obtain ⟨b,p,c,e',f,hv,hb,hc,hsz,hp,hp',hcap,hcs,hcm⟩:=yK h1;refine h.turn he hb (fun vs sp hh hvs=>?_) ?_
 · refine ⟨vs.take ds.length,vs.drop ds.length++sp,by rw [←AA,AX],?_⟩;have:=hvs.take ds.length
   rwa [AT (AP _),Cx] at this
 · rw [hv];have:p=0:=by omega
   subst this;exact .osl _ _ b n cap sz hb hc hsz c e' f hcap (by omega) hcm
theorem aFK{c:Code}(t:Nat){id sz n:Nat}{e:At}{ds:List D}(hS:S.get t = .osl id sz n)(he:S.ent id = .blk e ds)(hl:ds.length=n*sz)(h0:n=0→IWP P O N c (S.set t .nils) Q)(h1:∀ cap,n≤cap→cap≤maxLen→IWP P O N c ((S.setE id (.blk e (ds++AK ((cap-n)*sz) .dead))).set t (.rsl id sz 0 n cap)) Q):IWP P O N c S Q:=by
 intro E β a hr
 rcases hr.opened hS he hl with ⟨h2,h3⟩ | ⟨cap,h2,h3,h4⟩
 · exact h0 h2 E β a h3
 · exact h1 cap h2 h3 E β a h4
theorem aBd{c:Code}(t:Nat){id sz n cap:Nat}{e:At}{ds j:List D}(hS:S.get t = .rsl id sz 0 n cap)(he:S.ent id = .blk e (ds++j))(hl:ds.length=n*sz)(h:IWP P O N c ((S.setE id (.blk e ds)).set t (.osl id sz n)) Q):IWP P O N c S Q :=
 fun E β a hr=>h E β a (hr.closed hS he hl)
theorem aHZ{ops:Array Oper}{c:List Oper}(t:Nat){id sz n cap:Nat}{e:At}{ds j:List D}(hS:S.get t = .rsl id sz 0 n cap)(he:S.ent id = .blk e (ds++j))(hl:ds.length=n*sz)(h:ILS P O N ops c ((S.setE id (.blk e ds)).set t (.osl id sz n)) Q):ILS P O N ops c S Q :=
 fun E β a hr=>h E β a (hr.closed hS he hl)
theorem aEZ{T e:At}{x:Am}{id sz off len cap:Nat}{n:Int}(ho:o.op = .call { callee:=.builtin .cap,args:=#[x],argTypes:=#[T] })(hd:o.dst=some t)(ht:t<N)(hu:P.underlying T=some (.slice e))(hx:SV S x (.rsl id sz off len cap))(hn:(cap:Int)=n):IOp P O N o S (S.set t (.int .i64 n)) :=
 kG hd ht fun E β a hr=>⟨.int .i64 n,by
  subst hn;obtain ⟨b,p,c,e',f,hv,_⟩:=yK (hx.rd hr);simp [execOp,ho,resolve,invoke,builtin,Builtin.cap_,run_underlying hu,hv,goInt],.int _ _ _⟩
theorem aEW{T e:At}{x:Am}{id sz off len cap:Nat}{n:Int}(ho:o.op = .call { callee:=.builtin .len,args:=#[x],argTypes:=#[T] })(hd:o.dst=some t)(ht:t<N)(hu:P.underlying T=some (.slice e))(hx:SV S x (.rsl id sz off len cap))(hn:(len:Int)=n):IOp P O N o S (S.set t (.int .i64 n)) :=
 kG hd ht fun E β a hr=>⟨.int .i64 n,by
  subst hn;obtain ⟨b,p,c,e',f,hv,_⟩:=yK (hx.rd hr);simp [execOp,ho,resolve,invoke,builtin,Builtin.len_,run_underlying hu,hv,goInt],.int _ _ _⟩
theorem aEE{E:Env}{β:bY}{a:Act}(hr:Rel O N S E β a){len cap:Nat}{lo hi mx:Ag Am}{l h m:Int}(hlo:zS S 0 lo l)(hhi:zS S len hi h)(hmx:zS S cap mx m)(hs:mx.isSome=true→hi.isSome=true)(h0:0≤l)(h1:l≤h)(h2:h≤m)(h3:m≤cap) :
 (Instr.sliceBounds true len cap (lo.map a.eval) (hi.map a.eval) (mx.map a.eval)).run P E.w = .ok (l.toNat,h.toNat,m.toNat) E.w:=by
 have e1:0≤h:=by omega
 have e0:0≤m:=by omega
 have e2:l≤(h.toNat:Int):=by omega
 have e3:h≤(m.toNat:Int):=by omega
 have m1:max h 0=h:=Int.max_eq_left e1;have m2:max m 0=m:=Int.max_eq_left e0;cases mx with
 | none =>
   have hmx:m=cap:=hmx;subst hmx;cases lo with
   | none =>
     have hlo:l=0:=hlo;subst hlo;cases hi with
     | none=>have hhi:h=len:=hhi; subst hhi; simp [Instr.sliceBounds]
     | some y=>obtain ⟨k,hy⟩:=hhi; simp [Instr.sliceBounds,Instr.sliceBound,lS (hy.rd hr),asIntOf,e1,h2]
   | some x =>
     obtain ⟨k,hx⟩:=hlo;cases hi with
     | none=>have hhi:h=len:=hhi; subst hhi; simp [Instr.sliceBounds,Instr.sliceBound,lS (hx.rd hr),asIntOf,h0,h1]
     | some y=>obtain ⟨k',hy⟩:=hhi; simp [Instr.sliceBounds,Instr.sliceBound,lS (hx.rd hr),lS (hy.rd hr),asIntOf,h0,e1,e2,h2,m1,h1]
 | some z =>
   obtain ⟨kz,hz⟩:=hmx;cases hi with
   | none=>exact Ay (hs rfl) (by simp)
   | some y =>
     obtain ⟨k',hy⟩:=hhi;cases lo with
     | none =>
       have hlo:l=0:=hlo;subst hlo;simp [Instr.sliceBounds,Instr.sliceBound,lS (hy.rd hr),lS (hz.rd hr),asIntOf,e0,e1,e3,h3,m2,h2]
     | some x =>
       obtain ⟨k,hx⟩:=hlo;simp [Instr.sliceBounds,Instr.sliceBound,lS (hx.rd hr),lS (hy.rd hr),lS (hz.rd hr),asIntOf,h0,e0,e1,e2,e3,h3,m1,m2,h1,h2]
theorem kQ{T e:At}{x:Am}{lo hi mx:Ag Am}{id sz off len cap:Nat}{l h m:Int}{z:Ag AG}{bytes:Nat}{d:D}(ho:o.op = .slice T x lo hi mx)(hd:o.dst=some t)(ht:t<N)(hu:P.underlying T=some (.slice e))(hi':TI P e z sz bytes)(hx:SV S x (.rsl id sz off len cap))(hlo:zS S 0 lo l)(hhi:zS S len hi h)(hmx:zS S cap mx m)(hs:mx.isSome=true→hi.isSome=true)(h0:0≤l)(h1:l≤h)(h2:h≤m)(h3:m≤cap)(hdd:D.rsl id sz (off+l.toNat*sz) (h.toNat-l.toNat) (m.toNat-l.toNat)=d):IOp P O N o S (S.set t d) :=
 kG hd ht fun E β a hr=>by
  subst hdd;obtain ⟨b,p,c,e',f,hv,hb,hlc,hsz,hp,hp',hcap,hcs,hcm⟩:=yK (hx.rd hr);have hbd:=aEE (P:=P) hr hlo hhi hmx hs h0 h1 h2 h3;have hmc:m.toNat≤cap:=by omega
  have hlm:l.toNat≤m.toNat:=by omega
  have hfit:off+l.toNat*sz+(m.toNat-l.toNat)*sz≤c.size:=by
   have:l.toNat*sz+(m.toNat-l.toNat)*sz≤cap*sz:=by rw [←Bw]; exact AU _ (by omega)
   omega
  refine ⟨.slice (if m.toNat=l.toNat then some ⟨b,p,none⟩ else some ⟨b,p+l.toNat*sz,none⟩) (h.toNat-l.toNat) (m.toNat-l.toNat),?_,?_⟩
  · simp only [execOp,ho,hv,Instr.sliceAt,Instr.slice,Sem.run_bind,run_underlying hu,Result.andThen_ok,hbd,hi'.run_size,Sem.run_pure];split <;> simp [nR]
  · split
    · rename_i hml;exact .rsl _ _ _ _ _ _ b p hb (by omega) hsz ⟨fun h=>by omega,by omega⟩ c e' f hcap hfit (by omega)
    · rename_i hml;have hpo:=hp (by omega);exact .rsl _ _ _ _ _ _ b _ hb (by omega) hsz ⟨fun _=>by rw [hpo],by omega⟩ c e' f hcap hfit (by omega)
theorem aGZ{y:Operand}{id sz off len cap:Nat}{e:At}{ds:List D}(hy:SV S y (.rsl id sz off len cap))(he:S.ent id = .blk e ds)(hl:off+len*sz≤ds.length):∀ E β a,Rel O N S E β a→Src E β (a.eval y) len ((ds.drop off).take (len*sz)):=by
 intro E β a hr;obtain ⟨b,p,c,e',f,hv,hb,hlc,hsz,hp,hp',hcap,hcs,hcm⟩:=yK (hy.rd hr);have hent:=hr.h.ent id;rw [he] at hent;obtain ⟨vs,sp,_,hh,_,hvs⟩:=sZ hent hb
 by_cases h0:len=0
 · subst h0; exact .inl ⟨.inr ⟨_,_,hv⟩,rfl,by simp⟩
 · have hpo:=hp (by omega);subst hpo;have hvl:=hvs.length;refine .inr ⟨b,p,cap,(vs.drop p).take (len*sz),hv,fun j u hj=>?_,(hvs.drop p).take _⟩;rw [nR,cell_of_row _ _ _ _ _ _ hh];rw [Ca] at hj;split at hj
   · rename_i hjl;rw [Ep] at hj;have hlt:=(Aj.1 hj).1;simpa [AJ hlt] using hj
   · cases hj
theorem aFo{vs us sp:List AG}{off:Nat}(h:off+us.length≤vs.length):((vs++sp).take off++us++(vs++sp).drop (off+us.length))=(vs.take off++us++vs.drop (off+us.length))++sp:=by
 rw [AT (by omega),Bn h]; simp
theorem aE1{E:Env}{β:bY}{a:Act}(hr:Rel O N S E β a){id b off:Nat}{e:At}{ds es:List D}{vs us sp:List AG}(he:S.ent id = .blk e ds)(hb:β id=some b)(hown:O.own b)(hh:E.w.heap[b]? = some (.cells (Cw (vs++sp)) e (0,0)))(hX:∀ o,E.X b o)(hl:RdL E β vs ds)(hc:RdL E β us es)(hn:off+es.length≤ds.length) :
 ∃ E':Env,E'.w=E.w.setRow b ((vs++sp).take off++us++(vs++sp).drop (off+us.length)).toArray∧E'.X=E.X∧E.le E'∧Rel O N (S.setE id (.blk e (jG ds off es))) E' β a:=by
 have hvl:=hl.length;have hul:=hc.length;have e1:=aFo (sp:=sp) (show off+us.length≤vs.length by omega)
 let E':Env:=⟨E.w.setRow b ((vs++sp).take off++us++(vs++sp).drop (off+us.length)).toArray,E.X⟩
 have hs:Step O E E' b:=⟨rfl,rfl,rfl,by simp [E'],by simpa [E'] using dR hh,hown,fun k _ hk=>setRow_other _ _ _ _ hk,fun _ _ _=>Dy,fun _ h=>by rw [hh] at h; cases h⟩;have hle:E.le E':=hs.le (fun o v _ h2=>Ay (hX o) h2) (fun c e' f h3=>by
  rw [hh] at h3; cases h3;exact ⟨_,_,setRow_heap _ _ _ _ _ _ hh,by rw [e1]; simp; omega⟩)
 refine ⟨E',rfl,rfl,hle,hr.n,hr.nd.step hs,?_,fun s=>CA hle (bY.le.refl _) (hr.sl s)⟩;refine Dd hr.h hs hle (bY.le.refl _) ?_ ?_ hb ?_ (fun _ _=>trivial)
 · intro j hj; left; exact ⟨by simp [BA,entL,Br,aV,Ne.symm hj],rfl⟩
 · intro j hj hheld hbj;have:(S.ent j).held=true:=by simpa [BA,entL,Br,aV,Ne.symm hj] using hheld
   exact hj (hr.h.inj j id b this (by rw [he]; rfl) hbj hb)
 · simp only [BA,entL,Br,aV,if_true];refine ⟨_,sp,by rw [←e1]; exact setRow_heap _ _ _ _ _ _ hh,hX,?_⟩;rw [jG,←hul];exact AW hle (bY.le.refl _) (((hl.take off).append hc).append (hl.drop _))
theorem aBz{es:List D}(h:es.all Ee=true)(k:Nat):(es.take k).all Ee=true:=by
 rw [Bb] at h ⊢;exact fun x hx=>h x (Dp hx)
theorem aH0{T T2 e:At}{x y:Am}{id sz off len cap m:Nat}{e':At}{ds es ds':List D}{z:Ag AG}{bytes:Nat}{k:Int}(ho:o.op = .call { callee:=.builtin .copy,args:=#[x,y],argTypes:=#[T,T2] })(hd:o.dst=some t)(ht:t<N)(hu:P.underlying T=some (.slice e))(hi:TI P e z sz bytes)(he:S.ent id = .blk e' ds)(hy:∀ E β a,Rel O N S E β a→Src E β (a.eval y) m es)(hes:es.length=m*sz)(hone:(es.take (min m len*sz)).all Ee=true)(hfit:off+len*sz≤ds.length)(hk:((min m len:Nat):Int)=k)(hds:jG ds off (es.take (min m len*sz))=ds'):∀ E β a,Rel O N S E β a→Rd E β (a.eval x) (.rsl id sz off len cap)→∀ (next:Act→World→Prop) Q,(∀ E' β' a',Rel O N ((S.setE id (.blk e' ds')).set t (.int .i64 k)) E' β' a'→next a' E'.w)→o.wp P a E.w next Q:=by
 intro E β a hr hxr next Q hn;subst hk hds;obtain ⟨b,p,c,e'',f,hv,hb,hlc,hsz,hp,hp',hcap,hcs,hcm⟩:=yK hxr;have hent:=hr.h.ent id;rw [he] at hent;obtain ⟨vs,sp,hown,hh,hX,hvs⟩:=sZ hent hb;obtain ⟨i,hi1,hi2,hi3,hi4⟩:=hi.at;have hvl:=hvs.length;have hrun0:∀ r,(Builtin.copy_ #[T,T2] o.type #[a.eval x,a.eval y]).run P E.w=r→(execOp a.eval o).run P E.w=r.andThen fun v w'=>.ok (.value v) w':=fun r hr'=>by
  simp [execOp,ho,resolve,invoke,builtin,hr']
 have key:∀ us:List AG,RdL E β us (es.take (min m len*sz))→(0<min m len→p=off)→(Builtin.copy_ #[T,T2] o.type #[a.eval x,a.eval y]).run P E.w = .ok (goInt ((min m len:Nat):Int)) (E.w.setRow b ((vs++sp).take p++us++(vs++sp).drop (p+us.length)).toArray) →
  o.wp P a E.w next Q:=by
  intro us hus hpo hra;unfold Oper.wp;rw [hrun0 _ hra];have hul:=hus.length;rw [Bm,hes] at hul;have hmin:min (min m len*sz) (m*sz)=min m len*sz:=Cg (AU _ (Nat.min_le_left _ _));rw [hmin] at hul;have hle2:min m len*sz≤len*sz:=AU _ (FQ _ _);have hlt:(es.take (min m len*sz)).length=min m len*sz:=by rw [Bm,hes,hmin]
  have heq:E.w.setRow b ((vs++sp).take p++us++(vs++sp).drop (p+us.length)).toArray=E.w.setRow b ((vs++sp).take off++us++(vs++sp).drop (off+us.length)).toArray:=by
   by_cases h0:0<min m len
   · rw [hpo h0]
   · have:us=[]:=AV.1 (by rw [hul,show min m len=0 by omega,CY]);subst this
     simp
  rw [heq];obtain ⟨E',h1,h2,h3,h4⟩:=aE1 hr he hb hown hh hX hvs hus (off:=off) (by rw [hlt]; omega);simp only [Result.andThen_ok,Oper.upon,hd];rw [←h1];have:=h4.set ht (v:=goInt ((min m len:Nat):Int)) (d:=.int .i64 ((min m len:Nat):Int)) (by unfold goInt; exact .int _ _ _);exact hn E' β _ this
 have none_:m=0∨len=0→∀ yo sc,a.eval y = .slice yo m sc→o.wp P a E.w next Q:=by
  intro h0 yo sc hyv;have hm0:min m len=0:=by omega
  refine key [] (by rw [hm0,CY]; exact .nil _) (fun h=>by omega) ?_;have e1:E.w.setRow b ((vs++sp).take p++[]++(vs++sp).drop (p+([]:List AG).length)).toArray=E.w:=by
   simp only [Ax,Cj,CP,AX];exact setRow_self _ _ _ _ _ hh
  rw [e1,hm0,hv,hyv];have hl0:∀ q:Addr,(loadCells q 0).run P E.w = .ok #[] E.w:=fun q=>by simpa using run_loadCells_list (P:=P) E.w q [] (by simp)
  have hmn:Nat.min m len=0:=hm0;cases yo <;> simp [Builtin.copy_,run_underlying hu,Builtin.lenOf,Builtin.firstCells,hi.run_size,hmn,storeCells,hl0]
 rcases hy E β a hr with ⟨hyv,hm0,he0⟩ | ⟨yb,yoff,ycap,us,hyv,hyr,hus⟩
 · subst hm0
   rcases hyv with hyv | ⟨ad,sc,hyv⟩
   · exact none_ (.inl rfl) _ _ hyv
   · exact none_ (.inl rfl) _ _ hyv
 · by_cases h0:m=0∨len=0
   · exact none_ h0 _ _ hyv
   · have hmin:min m len*sz≤m*sz:=AU _ (Nat.min_le_left _ _);have hle2:min m len*sz≤len*sz:=AU _ (FQ _ _);have hul:us.length=m*sz:=by rw [hus.length,hes]
     have hpo:=hp (by omega);have hus':=hus.take (min m len*sz);have hlt:(us.take (min m len*sz)).length=min m len*sz:=by rw [Bm,hul]; omega
     refine key _ hus' (fun _=>hpo) ?_;have hl:=run_loadCells_list (P:=P) E.w ⟨yb,yoff,none⟩ (us.take (min m len*sz)) (fun j u hj=>by
      rw [Ca] at hj;split at hj
      · exact hyr j u hj
      · cases hj)
     have hst:=run_storeCells_at P b p e' (us.take (min m len*sz)) 0 (vs++sp).toArray E.w hh (by simp; omega) (aBG hus' hone);simp only [CP] at hst;rw [hv,hyv];have hmm:Nat.min m len=min m len:=rfl;rw [hlt] at hl hst ⊢;simp [Builtin.copy_,run_underlying hu,Builtin.lenOf,Builtin.firstCells,hi.run_size,hmm,hl,hst]
theorem uB{T T2 e:At}{x y:Am}{id sz off len cap m:Nat}{e':At}{ds es ds':List D}{z:Ag AG}{bytes:Nat}{k:Int}(ho:o.op = .call { callee:=.builtin .copy,args:=#[x,y],argTypes:=#[T,T2] })(hd:o.dst=some t)(ht:t<N)(hu:P.underlying T=some (.slice e))(hi:TI P e z sz bytes)(hx:SV S x (.rsl id sz off len cap))(he:S.ent id = .blk e' ds)(hy:∀ E β a,Rel O N S E β a→Src E β (a.eval y) m es)(hes:es.length=m*sz)(hone:(es.take (min m len*sz)).all Ee=true)(hfit:off+len*sz≤ds.length)(hk:((min m len:Nat):Int)=k)(hds:jG ds off (es.take (min m len*sz))=ds'):IOp P O N o S ((S.setE id (.blk e' ds')).set t (.int .i64 k)) :=
 fun E β a hr next Q hn=>aH0 ho hd ht hu hi he hy hes hone hfit hk hds E β a hr (hx.rd hr) next Q hn
end
end Go.IL
open _root_.Array renaming getD_eq_getD_getElem? → BI,getElem?_eq_some_iff → Cy,getElem?_setIfInBounds_ne → Bf,getElem?_setIfInBounds_self → BZ,length_toList → Fj,size_append → DP
open Go.IL.D renaming flat → Ac
open List renaming getElem?_cons_zero → DG,getElem?_eq_getElem → AY,getElem?_toArray → CD,length_pos_iff → Fh,length_replicate → CC,mem_map → Ak
open Nat renaming lt_irrefl → BU
open Option renaming getD_some → CM
open _root_ renaming if_pos → Ao
open Go.RowKit (Below)
namespace Go.IL
section
variable {P:Ba} {O:bZ} {N:Nat} {S S':St} {o:Oper} {t:Nat} {Q:Exit→St→Prop}
theorem aDr{T tn e:At}{x y:Am}{z:AG}{id sz l cap k bytes:Nat}{ki kn:IntKind}{n:Int}{ds:List D}(id':Nat)(ho:o.op = .call { callee:=.builtin .append,args:=#[x,y],argTypes:=#[T,tn] })(hd:o.dst=some t)(ht:t<N)(hu:P.underlying T=some (.slice e))(htn:P.underlying tn=some (.int kn))(hi:TI P e (some z) sz bytes)(hz:z.cells.size=sz)(hx:SV S x (.rsl id sz 0 l cap))(he:S.ent id = .blk e ds)(hfr:S.ent id' = .fresh)(hy:SV S y (.int ki n))(hn:n=(k:Int))(hk:0<k)(hl:l*sz≤ds.length)(hg:cap<l+k)(hm:l+k≤maxLen)(hb:(l+k)*bytes≤140737488355328) :
 IOp P O N o S ((S.setE id' (.blk e (ds.take (l*sz)++AK (k*sz) .dead))).set t (.osl id' sz (l+k))):=by
 intro E β a hr next Q hnx;subst hn;obtain ⟨b,p,c,e'',f,hv,hb',hlc,hsz,hp,hp',hcap,hcs,hcm⟩:=yK (hx.rd hr);have hp0:p=0:=by omega
 subst hp0;have hent:=hr.h.ent id;rw [he] at hent;obtain ⟨vs,sp,hown,hh,hX,hvs⟩:=sZ hent hb';obtain ⟨i,hi1,hi2,hi3,hi4⟩:=hi.at;have hvl:=hvs.length;have hfre:β id'=none:=by have:=hr.h.ent id'; rw [hfr] at this; exact this
 have hold:(Builtin.firstCells i.size l (.slice (some ⟨b,0,none⟩) l cap)).run P E.w.drew = .ok (vs.take (l*sz)).toArray E.w.drew:=by
  refine run_firstCells_some (P:=P) E.w.drew i.size l ⟨b,0,none⟩ l cap (vs.take (l*sz)) (by rw [Bm,hi3]; omega) fun j u hj=>?_
  rw [nR,Bj];have h1:E.w.drew.cell? ⟨b,j,none⟩=E.w.cell? ⟨b,j,none⟩:=rfl;rw [h1,cell_of_row _ _ _ _ _ _ hh];rw [Ca] at hj;split at hj
  · have hlt:=(Aj.1 hj).1;simpa [AJ hlt] using hj
  · cases hj
 have hkb:k*i.bytes≤281474976710656:=by
  have:k*i.bytes≤(l+k)*i.bytes:=AU _ (by omega);rw [hi4] at this ⊢; omega
 have hra:=Go.Lib.run_append_grow_zeros (P:=P) E.w T tn o.type e i z ki kn hu htn hi1 hi2 (some ⟨b,0,none⟩) l cap (vs.take (l*sz)) hold k hk (by rw [hi3]; exact hsz) hg (by simp [maxLen] at hm; omega) hkb (growslice_fits (by omega) (by rw [hi4]; exact hb));have hyv:=lS (hy.rd hr);have hrun:(execOp a.eval o).run P E.w=((Builtin.append_ #[T,tn] o.type #[a.eval x,a.eval y]).run P E.w).andThen fun v w'=>.ok (.value v) w':=by
  simp [execOp,ho,resolve,invoke,builtin]
 unfold Oper.wp;rw [hrun,hv,hyv,hra];simp only [Result.andThen_ok,Oper.upon,hd]
 let C:Array AG:=(vs.take (l*sz)).toArray++Builtin.zeroCells z.cells k++Builtin.zeroCells z.cells (grownCap E.w (l+k) cap e-(l+k))
 let E':Env:=⟨E.w.drew.alloc (.cells C e),fun b o=>b=E.w.heap.size∨E.X b o⟩
 let β':bY:=fun j=>if j=id' then some E.w.heap.size else β j
 have hβ:β.le β':=fun j b hj=>by
  by_cases hji:j=id'
  · subst hji; rw [hfre] at hj; cases hj
  · simp [β',hji,hj]
 have hs:Step O E E' E.w.heap.size :=
  ⟨rfl,rfl,rfl,by simp [E'],by simp [E'],.inl hr.h.size,fun k hk _=>heap_alloc_old E.w.drew _ hk,fun k o hk=>by simp [E',hk],fun _ h=>BU _ (dR h)⟩
 have hle:E.le E':=hs.le (fun o v h1 _=>by have:=World.block_lt_of_cell? _ _ h1; simp at this) (fun c e f h1=>by have:=dR h1; simp at this);have hnew:E'.w.heap[E.w.heap.size]? = some (.cells C e (0,0)):=heap_alloc_new E.w.drew _;have hts:t<a.tmps.size:=hr.n ▸ ht;refine hnx E' β' _ ⟨by simp [Act.put,hr.n],hr.nd.step hs,?_,fun s=>?_⟩
 · refine Dd hr.h hs hle hβ ?_ ?_ (id:=id') (by simp [β']) ?_ (fun _ _=>trivial)
   · intro j hj; left; constructor
     · simp [BA,entL,Br,Bo,aV,Ne.symm hj]
     · simp [β',hj]
   · intro j hj hheld hbj;have:(S.ent j).held=true:=by simpa [BA,entL,Br,Bo,aV,Ne.symm hj] using hheld
     have:=hr.h.held_lt this hbj;omega
   · simp only [BA,entL,Br,Bo,aV,if_true];refine ⟨vs.take (l*sz)++(Builtin.zeroCells z.cells k).toList,(Builtin.zeroCells z.cells (grownCap E.w (l+k) cap e-(l+k))).toList,by rw [hnew]; simp [C],fun o=>.inl rfl,(AW hle hβ (hvs.take _)).append ?_⟩;have:=vA E' β' (Builtin.zeroCells z.cells k).toList
     rwa [show (Builtin.zeroCells z.cells k).toList.length=k*sz by rw [Fj,size_zeroCells,hz]] at this
 · by_cases hst:t=s
   · subst hst;simp only [Act.put,Cf,Bo,aV,if_true,BI,BZ,hts,CM];refine .osl _ _ E.w.heap.size _ (grownCap E.w (l+k) cap e) sz (by simp [β']) (grownCap_ge _ _ _ _) hsz _ _ _ hnew ?_ (grownCap_le_maxLen _ _ _ _ hm);have h1:=grownCap_ge E.w (l+k) cap e;simp only [C,DP,Cm,size_zeroCells,hz,Bm];rw [Cg (by omega),←Bw,←Bw];exact AU _ (by omega)
   · have:=CA hle hβ (hr.sl s);simpa [Act.put,Cf,Bo,Br,aV,hst,Bf] using this
theorem aC7{T e:At}{x:Am}{z:AG}{id sz off len cap bytes:Nat}{e':At}{ds ds':List D}(ho:o.op = .call { callee:=.builtin .clear,args:=#[x],argTypes:=#[T] })(hd:o.dst=none)(hu:P.underlying T=some (.slice e))(hi:TI P e (some z) sz bytes)(hz:z.cells.size=sz)(hz1:z.cells.toList.all Value.oneCell'=true)(hx:SV S x (.rsl id sz off len cap))(he:S.ent id = .blk e' ds)(hfit:off+len*sz≤ds.length)(hds:jG ds off (AK (len*sz) .dead)=ds'):IOp P O N o S (S.setE id (.blk e' ds')):=by
 intro E β a hr next Q hn;subst hds;obtain ⟨b,p,c,e'',f,hv,hb,hlc,hsz,hp,hp',hcap,hcs,hcm⟩:=yK (hx.rd hr);have hent:=hr.h.ent id;rw [he] at hent;obtain ⟨vs,sp,hown,hh,hX,hvs⟩:=sZ hent hb;obtain ⟨i,hi1,hi2,hi3,hi4⟩:=hi.at;have hvl:=hvs.length;have hrun0:∀ r,(Builtin.clear_ #[T] o.type #[a.eval x]).run P E.w=r→(execOp a.eval o).run P E.w=r.andThen fun v w'=>.ok (.value v) w':=fun r hr'=>by
  simp [execOp,ho,resolve,invoke,builtin,hr']
 have key:∀ us:List AG,us.length=len*sz→(Builtin.clear_ #[T] o.type #[a.eval x]).run P E.w = .ok (.tuple #[]) (E.w.setRow b ((vs++sp).take off++us++(vs++sp).drop (off+us.length)).toArray)→o.wp P a E.w next Q:=by
  intro us hul hra;unfold Oper.wp;rw [hrun0 _ hra];have hus:=vA E β us;rw [hul] at hus;obtain ⟨E',h1,h2,h3,h4⟩:=aE1 hr he hb hown hh hX hvs hus (off:=off) (by rw [CC]; exact hfit);simp only [Result.andThen_ok,Oper.upon,hd,Act.put];rw [←h1];exact hn E' β _ h4
 by_cases h0:len=0
 · subst h0;refine key [] (by simp) ?_;have e1:E.w.setRow b ((vs++sp).take off++[]++(vs++sp).drop (off+([]:List AG).length)).toArray=E.w:=by
    simp only [Ax,Cj,CP,AX];exact setRow_self _ _ _ _ _ hh
   rw [e1,hv];simp [Builtin.clear_,run_underlying hu]
 · have hpo:=hp (by omega);have hl:(Builtin.zeroCells z.cells len).toList.length=len*sz:=by rw [Fj,size_zeroCells,hz]
   refine key (Builtin.zeroCells z.cells len).toList hl ?_;have hone:∀ v∈(Builtin.zeroCells z.cells len).toList,v.oneCell'=true:=by
    intro v hv;rw [Bb] at hz1;simp only [Builtin.zeroCells,Array.toList_map,Ak] at hv;obtain ⟨j,_,rfl⟩:=hv;have hlt:j % z.cells.size<z.cells.size:=Nat.mod_lt _ (by rw [hz]; exact hsz);rw [getElem!_pos z.cells (j % z.cells.size) hlt];exact hz1 _ (by simp)
   have hst:=run_storeCells_at P b p e' (Builtin.zeroCells z.cells len).toList 0 (vs++sp).toArray E.w hh (by rw [hl]; simp; omega) hone;simp only [CP] at hst;rw [hv];subst hpo;cases len with
   | zero=>exact Ay rfl h0
   | succ len=>simp [Builtin.clear_,run_underlying hu,zeroValue,typeInfo,hi1,hi2,hst]
theorem aEY{f:FuncId}{g:Array AG→Sem AG}{xs:List Am}{ts:Array At}{d:D}(ho:o.op = .call { callee:=.value (.func f),args:=xs.toArray,argTypes:=ts })(hd:o.dst=some t)(ht:t<N)(hc:aDO P f g)(hg:∀ (E:Env) β a,Rel O N S E β a→∃ v,(g (xs.map a.eval).toArray).run P E.w = .ok v E.w∧Rd E β v d):IOp P O N o S (S.set t d) :=
 kG hd ht fun E β a hr=>by
  obtain ⟨fn,h1,h2,h3,h4,h5⟩:=hc;obtain ⟨v,hv,hrd⟩:=hg E β a hr;exact ⟨v,by simp [execOp,ho,resolve,Deferred.ofValue,Act.eval,invoke,run_callFunc_extern h1 h2 h3 h4 h5,hv,Result.andThen],hrd⟩
theorem aDo{f:FuncId}{T tr e:At}{x y:Am}{ts:Array At}{l:List D}{full:Bool}{id sz off len cap:Nat}{e':At}{ds:List D}{z:Ag AG}{bytes:Nat}(ho:o.op = .call { callee:=.value (.func f),args:=#[x,y],argTypes:=ts })(hd:o.dst=some t)(ht:t<N)(hc:aDO P f (Extern.SlicesOverlaps.overlaps #[T,T] #[tr]))(hu:P.underlying T=some (.slice e))(hi:TI P e z sz bytes)(hx:SV S x (.slice full l))(hne:l≠[])(hy:SV S y (.rsl id sz off len cap))(he:S.ent id = .blk e' ds)(hlen:ds≠[]):IOp P O N o S (S.set t (.bool false)):=by
 refine aEY (xs:=[x,y]) ho hd ht hc fun E β a hr=>?_
 obtain ⟨b,p,c,e'',f',hv,hb,hlc,hsz,hp,hp',hcap,hcs,hcm⟩:=yK (hy.rd hr);have hent:=hr.h.ent id;rw [he] at hent;obtain ⟨vs,sp,hown,hh,hX,hvs⟩:=sZ hent hb;refine ⟨.bool false,?_,.bool _ _⟩
 show (Extern.SlicesOverlaps.overlaps #[T,T] #[tr] #[a.eval x,a.eval y]).run P E.w = .ok (.bool false) E.w
 · skip
   rcases tV (hx.rd hr) with ⟨hev,rfl⟩ | ⟨yb,yoff,ycap,ysz,us,hev,hyc,_,hyz,hysp,hyrow,hus⟩ | ⟨ad,ycap,hev,rfl⟩
   · exact Ay rfl hne
   rotate_left
   · exact Ay rfl hne
   · -- a cell of the list
     have hpos:0<us.length:=by
      rw [hus.length];obtain ⟨d,r,rfl⟩:=List.exists_cons_of_ne_nil hne;have:=hyz d (by simp);simp [Ac,this]; omega
     have hcell:=hyrow 0 us[0] (AY hpos);rw [CP] at hcell;have hbne:yb≠b:=by rintro rfl; exact hcell.2 (hX _)
     have hybk:∃ cs te fe,E.w.heap[yb]? = some (.cells cs te fe)∧0<cs.size:=by
      have h6:=hcell.1;unfold World.cell? at h6;simp only at h6;split at h6
      · rename_i cs te fe hhb;refine ⟨cs,te,fe,hhb,?_⟩;have h7:cs[yoff]? = some us[0]:=by simpa using h6
        have:=(Cy.1 h7).1;omega
      · cases h6
     obtain ⟨cs,te,fe,hyh,hys⟩:=hybk;rw [hev,hv];have g1:(yb != b)=true:=by simpa using hbne
     have g2:(yb == b)=false:=by simpa using hbne
     have f1:E.w.frozen? ⟨b,p,none⟩=false:=by simp [World.frozen?,hh]
     have f2:E.w.frozen? ⟨b,(vs++sp).length,none⟩=false:=by simp [World.frozen?,hh]
     have s1:E.w.shape? b=some (e',(vs++sp).length):=by simp [World.shape?,hh]
     have s2:E.w.shape? yb=some (te,cs.size):=by simp [World.shape?,hyh]
     change Sem.run P (α:=AG) (do
      let some t := (#[T, T] : Array At)[0]? | stuck "slices.overlaps: no parameter types"
      let .slice elem ← underlying t | stuck "slices.overlaps: slice type expected"
      let size ←sizeOf elem
      match (some (⟨yb,yoff,none⟩:Addr):Ag Addr),(some (⟨b,p,none⟩:Addr):Ag Addr) with
      | some a,some b =>
        if l.length=0∨len=0∨size=0 then pure (Value.bool false)
        else if a.block != b.block&&(←frozen a)&&(←frozen b) then unsupported .addressObserved
        else do
         if a.block != b.block then do
          noView a; noView b
          if ← mayBeOne a b then return Value.bool ((← choose (.extern "sameAddr.stringBytes" 2)) == 1)
         pure (Value.bool (a.block == b.block&&a.off<b.off+len*size&&b.off<a.off+l.length*size))
      | _,_=>pure (Value.bool false)) E.w=_
     by_cases h0:l.length=0∨len=0∨sz=0
     · simp only [Sem.run_bind,CD,run_underlying hu,Result.andThen_ok,hi.run_size,DG];rw [Ao h0]; rfl
     · obtain ⟨q,hq⟩:∃ q,cs.size=q+1:=⟨cs.size-1,by omega⟩;rw [hq] at s2;obtain ⟨u,hu1⟩:∃ u,(vs++sp).length=u+1:=⟨(vs++sp).length-1,by
        have:=hvs.length;have h8:0<ds.length:=Fh.2 hlen
        simp; omega⟩
       rw [hu1] at s1 f2;cases hfz:E.w.frozen? ⟨yb,yoff,none⟩ <;> cases hfe:E.w.frozen? ⟨yb,q+1,none⟩ <;>
       simp [run_underlying hu,hi.run_size,h0,g1,g2,frozen,noView,viewAt,mayBeOne,stringish,shape,Sem.run,s1,s2,f1,f2,hfz,hfe]
end
end Go.IL
open Go.IntKind renaming wrap → Af
open List renaming drop_length → FR,drop_of_length_le → BY,nil_append → Bp,take_of_length_le → Cr
open Go.RowKit (Below)
namespace Go.IL
def insS{α:Type}(b:Nat)(l:List α)(i:Int)(vs:List α):Ag (List α) :=
 if 0≤i∧i≤(l.length:Int)∧l.length+vs.length≤9223372036854775807∧(l.length+vs.length)*b≤140737488355328 then some (l.take i.toNat++vs++l.drop i.toNat) else none
theorem insS_e{α:Type}{b:Nat}{l vs r:List α}{i:Int}(h:insS b l i vs=some r):∃ k:Nat,i=(k:Int)∧k≤l.length∧l.length+vs.length≤maxLen∧(l.length+vs.length)*b≤140737488355328∧l.take k++vs++l.drop k=r:=by
 unfold insS at h;split at h
 · rename_i hh;obtain ⟨h1,h2,h3,h4⟩:=hh;exact ⟨i.toNat,by omega,by omega,by unfold maxLen; omega,h4,Option.some.inj h⟩
 · cases h
theorem insS_ok{α:Type}{b:Nat}{l vs:List α}{i:Int}(h0:0≤i)(h1:i≤(l.length:Int))(h2:l.length+vs.length≤9223372036854775807)(h3:(l.length+vs.length)*b≤140737488355328):insS b l i vs=some (l.take i.toNat++vs++l.drop i.toNat):=Ao ⟨h0,h1,h2,h3⟩
section
variable {α:Type} (f:Enc0 α)
theorem Enc0.flat_take(l:List α)(k:Nat):(Ac (l.map f.d)).take (k*f.sz)=Ac ((l.take k).map f.d):=by
 by_cases hk:k≤l.length
 · have h1:=f.flat_append (l.take k) (l.drop k);rw [AX] at h1;have h2:(Ac ((l.take k).map f.d)).length=k*f.sz:=by rw [f.flat_len,Bm,Cg hk]
   rw [←h1,AT (by rw [h2]; exact AP _),←h2,Cx]
 · rw [Cr (l:=l) (by omega),Cr (by rw [f.flat_len]; exact AU _ (by omega))]
theorem Enc0.flat_drop(l:List α)(k:Nat):(Ac (l.map f.d)).drop (k*f.sz)=Ac ((l.drop k).map f.d):=by
 by_cases hk:k≤l.length
 · have h1:=f.flat_append (l.take k) (l.drop k);rw [AX] at h1;have h2:(Ac ((l.take k).map f.d)).length=k*f.sz:=by rw [f.flat_len,Bm,Cg hk]
   rw [←h1,←h2,Bn (AP _),FR,Bp]
 · rw [BY (l:=l) (by omega),BY (by rw [f.flat_len]; exact AU _ (by omega))]; rfl
end
theorem vV{A B C D':List D}{off:Nat}(h:A.length=off)(hl:B.length=C.length):jG (A++B++D') off C=A++C++D':=by
 subst h;unfold jG;have e1:(A++B++D').take A.length=A:=by rw [AA,AT (AP _),Cx]
 have e2:(A++B++D').drop (A.length+C.length)=D':=by
  rw [←hl,←AO,Bn (AP _),FR,Bp]
 rw [e1,e2]
theorem aHX{X Y V J:List D}{a m:Nat}(ha:X.length=a)(hv:V.length=m)(hj:m≤J.length) :
 jG (jG (X++Y++J) (a+m) Y) a V=X++V++Y++J.drop m:=by
 -- first the tail goes up
 have e1:∃ U W,X++Y++J=(X++U)++W++J.drop m∧U.length=m∧W.length=Y.length:=by
  have hUW:=AX m (Y++J.take m);have h1:X++Y++J=X++(Y++J.take m)++J.drop m:=by rw [AA X (Y++_),AA Y,AX,AA]
  refine ⟨(Y++J.take m).take m,(Y++J.take m).drop m,?_,by simp; omega,by simp; omega⟩;rw [h1,AA X (List.take m (Y++List.take m J)),hUW]
 obtain ⟨U,W,e1,e2,e3⟩:=e1;rw [e1,vV (by simp [ha,e2]) e3];have e4:X++U++Y++J.drop m=X++U++(Y++J.drop m):=by rw [AA (X++U)]
 rw [e4,vV ha (by rw [e2,hv]),AA (X++V)]
theorem ins_new{X V Y Z J:List D}{a m:Nat}(ha:X.length=a)(hv:V.length=m)(hz:Z.length=m+Y.length) :
 jG (jG (X++Z++J) a V) (a+m) Y=X++V++Y++J:=by
 have e1:X++Z++J=X++Z.take m++(Z.drop m++J):=by
  rw [AA X,AA X (Z.take m),←AA (Z.take m),AX]
 rw [e1,vV ha (by simp; omega)];have e2:X++V++(Z.drop m++J)=X++V++Z.drop m++J:=by rw [AA (X++V)]
 rw [e2,vV (by simp [ha,hv]) (by simp; omega)]
theorem aB4{l c:List D}{o:Nat}(h:o+c.length≤l.length):(jG l o c).length=l.length:=by unfold jG; simp; omega
theorem wN{a b:Nat}(h:a+b≤maxLen):Af .i64 ((a:Int)+(b:Int))=((a+b:Nat):Int):=by
 unfold maxLen at h; rw [aJQ (by omega) (by omega)]; omega
theorem wS{a b:Nat}(h:b≤a)(h1:a≤maxLen):Af .i64 ((a:Int)-(b:Int))=((a-b:Nat):Int):=by
 unfold maxLen at h1; rw [aJQ (by omega) (by omega)]; omega
end Go.IL
open Int renaming le_refl → Dj
open List renaming length_drop → BV
open Nat renaming le_add_right → Db
open Option renaming map_none → Ei,map_some → DH
open Go.RowKit (Below)
namespace Go.IL
section
variable {P:Ba} {O:bZ} {N:Nat} {S S':St} {o:Oper} {t:Nat} {Q:Exit→St→Prop}
theorem Rel.same{E:Env}{β:bY}{a:Act}(h:Rel O N S E β a)(h1:∀ s,S'.get s=S.get s)(h2:∀ j,S'.ent j=S.ent j):Rel O N S' E β a:=by
 have h3:S'.ent=S.ent:=funext h2;exact ⟨h.n,h.nd,h3 ▸ h.h,fun s=>(h1 s).symm ▸ h.sl s⟩
theorem Rel.kill{E:Env}{β:bY}{a:Act}(h:Rel O N S E β a)(t:Nat):Rel O N (S.set t .dead) E β a:=by
 refine ⟨h.n,h.nd,h.h,fun s=>?_⟩
 by_cases hst:t=s
 · subst hst; simp only [Cf,Bo,aV,if_true]; exact .dead _ _
 · have:=h.sl s;simpa [Cf,Bo,aV,hst] using this
theorem aDF{S:St}{id:Nat}{e:Ent}:(S.setE id e).ent id=e:=by simp [BA,entL,Br,aV]
theorem aBs{S:St}{id j:Nat}{e:Ent}(h:j≠id):(S.setE id e).ent j=S.ent j:=by simp [BA,entL,Br,aV,Ne.symm h]
theorem Rel.shrunk{E:Env}{β:bY}{a:Act}(h:Rel O N S E β a){id:Nat}{e:At}{ds ds' j:List D}(he:S.ent id = .blk e ds)(hd:ds=ds'++j):Rel O N (S.setE id (.blk e ds')) E β a:=by
 subst hd;have hent:=h.h.ent id;rw [he] at hent;have held:∀ j,((S.setE id (.blk e ds')).ent j).held=(S.ent j).held:=fun j=>by
  by_cases hj:j=id
  · subst hj; rw [aDF,he]; rfl
  · rw [aBs hj]
 refine ⟨h.n,h.nd,{ h.h with ent:=fun k=>?_,inj:=fun i j k hi hj=>h.h.inj i j k (held i ▸ hi) (held j ▸ hj) },h.sl⟩
 by_cases hk:k=id
 · subst hk;rw [aDF]
   rcases hent with ⟨h1,h2⟩ | ⟨b,vs,sp,h1,h2,h3,h4,h5⟩
   · exact .inl ⟨h1,(List.append_eq_nil_iff.1 h2).1⟩
   · refine .inr ⟨b,vs.take ds'.length,vs.drop ds'.length++sp,h1,h2,by rw [←AA,AX]; exact h3,h4,?_⟩;have:=h5.take ds'.length
     rwa [AT (AP _),Cx] at this
 · rw [aBs hk]; exact h.h.ent k
theorem aGD{α:Type}(f:Enc0 α)(l:List α)(k:Nat):Ac (l.map f.d)=Ac ((l.take k).map f.d)++Ac ((l.drop k).map f.d):=by
 rw [f.flat_append,AX]
theorem aCO{α:Type}(f:Enc0 α){T e e':At}{x y:Am}{z:Ag AG}{bytes id n:Nat}{l r:List α}{k:IntKind}{h:Int}(ho:o.op = .slice T x none (some y) none)(hd:o.dst=some t)(ht:t<N)(hu:P.underlying T=some (.slice e))(hi:TI P e z f.sz bytes)(hx:SV S x (.osl id f.sz n))(he:S.ent id = .blk e' (Ac (l.map f.d)))(hn:l.length≤n)(hy:SV S y (.int k h))(hc:cut l 0 h=some r) :
 IOp P O N o S ((S.setE id (.blk e' (Ac (r.map f.d)))).set t (.osl id f.sz r.length)):=by
 obtain ⟨⟨_,h0,h1⟩,hr'⟩:=aJB hc;have hr2:l.take h.toNat=r:=by simpa using hr'
 have hrl:r.length=h.toNat:=by rw [←hr2,Bm]; omega
 have key:IOp P O N o S (S.set t (.osl id f.sz r.length)):=kG hd ht fun E β a hr=>by
  have hhi:zS S (n:Int) (some y) h:=⟨_,hy⟩;have hlo:zS S 0 none 0:=rfl;have h1:=hx.rd hr;generalize hv:a.eval x=v at h1;cases h1 with
  | nosl =>
    have hb:=uL (P:=P) hr (isS:=true) hlo hhi (Dj 0) h0 (by omega) (AP _);have e1:h.toNat=0:=by omega
    refine ⟨.slice none 0 0,?_,by rw [hrl,e1]; exact .nosl _ _ _⟩;simp only [Ei,DH] at hb;simp [execOp,ho,hv,Instr.sliceAt,Instr.slice,run_underlying hu,hb,hi.run_size,e1]
  | osl _ _ b _ cap _ hb' hc' hsz c e2 f2 hcap hcs hcm =>
    have hb:=uL (P:=P) hr (isS:=true) hlo hhi (Dj 0) h0 (by omega) hc';simp only [Ei,DH] at hb;refine ⟨.slice (some ⟨b,0,none⟩) h.toNat cap,?_,by rw [hrl]; exact .osl _ _ b _ cap _ hb' (by omega) hsz c e2 f2 hcap hcs hcm⟩;simp [execOp,ho,hv,Instr.sliceAt,Instr.slice,run_underlying hu,hb,hi.run_size,Addr.add]
 intro E β a hr next Q hn';refine key E β a hr next Q fun E' β' a' hr'=>hn' E' β' a' ?_
 exact hr'.shrunk (ds':=Ac (r.map f.d)) (j:=Ac ((l.drop h.toNat).map f.d)) he (by rw [←hr2]; exact aGD f l _)
theorem aB6{T e:At}{x y:Am}{z:Ag AG}{size bytes:Nat}{k:IntKind}(ho:o.op = .slice T x (some y) none none)(hd:o.dst=some t)(ht:t<N)(hu:P.underlying T=some (.slice e))(hi:TI P e z size bytes)(hx:SV S x .nils)(hy:SV S y (.int k 0)):IOp P O N o S (S.set t .nils) :=
 kG hd ht fun E β a hr=>by
  have h1:=hx.rd hr;generalize hv:a.eval x=v at h1;cases h1;refine ⟨.slice none 0 0,?_,.nils _⟩;simp [execOp,ho,hv,Instr.sliceAt,Instr.slice,run_underlying hu,hi.run_size,Instr.sliceBounds,Instr.sliceBound,lS (hy.rd hr),asIntOf]
theorem aB7{T e:At}{x:Am}(ho:o.op = .call { callee:=.builtin .clear,args:=#[x],argTypes:=#[T] })(hd:o.dst=none)(hu:P.underlying T=some (.slice e))(hx:SV S x .nils):IOp P O N o S S:=by
 intro E β a hr next Q hn;have h1:=hx.rd hr;generalize hv:a.eval x=v at h1;cases h1;have:(execOp a.eval o).run P E.w = .ok (.value (.tuple #[])) E.w:=by
  simp [execOp,ho,resolve,invoke,builtin,hv,Builtin.clear_,run_underlying hu]
 unfold Oper.wp;rw [this];simp only [Oper.upon,hd,Act.put];exact hn E β _ hr
theorem aBn{α:Type}(f:Enc0 α){ops:Array Oper}{o1 o2:Oper}{c:List Oper}{T e e':At}{y:Am}{z:AG}{bytes id n t1 tx:Nat}{l r:List α}{k:IntKind}{i:Int}(g1:rC o1=true)(g2:rC o2=true)(ho1:o1.op = .slice T (.tmp tx) (some y) none none)(hd1:o1.dst=some t1)(ht:t1<N)(ho2:o2.op = .call { callee:=.builtin .clear,args:=#[.tmp t1],argTypes:=#[T] })(hd2:o2.dst=none)(hu:P.underlying T=some (.slice e))(hi:TI P e (some z) f.sz bytes)(hz:z.cells.size=f.sz)(hz1:z.cells.toList.all Value.oneCell'=true)(hx:S.get tx = .osl id f.sz n)(he:S.ent id = .blk e' (Ac (l.map f.d)))(hn:l.length=n)(hy:∀ S1:St,(∀ s,tx≠s→S1.get s=S.get s)→SV S1 y (.int k i))(hc:cut l 0 i=some r)(K:ILS P O N ops c (((S.setE id (.blk e' (Ac (r.map f.d)))).set tx .dead).set t1 .dead) Q):ILS P O N ops (o1::o2::c) S Q:=by
 obtain ⟨⟨_,h0,h1⟩,hr'⟩:=aJB hc;have hr2:l.take i.toNat=r:=by simpa using hr'
 have hfl:=f.flat_len l;intro E β a hr
 rcases hr.opened hx he (by rw [hfl,hn]) with ⟨hn0,h3⟩ | ⟨cap,hc1,hc2,h3⟩
 · have hl0:l=[]:=AV.1 (by omega);subst hl0;obtain rfl:i=0:=by simp at h1; omega
   obtain rfl:r=[]:=by simpa using hr2.symm
   refine aA g1 (aB6 ho1 hd1 ht hu hi (sv (d:=.nils) (by simp [St.op,Cf,Bo,aV])) (hy _ fun s hs=>by simp [Cf,Bo,aV,hs])) (aA g2 (aB7 ho2 hd2 hu (sv (d:=.nils) (by simp [St.op,Cf,Bo,aV]))) ?_) E β a h3;intro E' β' a' h4;refine K E' β' a' (((h4.kill tx).kill t1).same (fun s=>?_) (fun j=>?_))
   · by_cases h6:t1=s <;> by_cases h7:tx=s <;> simp [Cf,Bo,Br,aV,h6,h7]
   · simp only [BA,entL,Bo,Br,aV];split
     · rename_i h5; subst h5; exact he.symm
     · rfl
 · have hyS:=hy ((S.setE id (.blk e' (Ac (l.map f.d)++AK ((cap-n)*f.sz) .dead))).set tx (.rsl id f.sz 0 n cap)) fun s hs=>by simp [Cf,Bo,Br,aV,hs]
   have hin:i.toNat≤n:=by omega
   have hmul:i.toNat*f.sz+(n-i.toNat)*f.sz=n*f.sz:=by rw [←Bw]; congr 1; omega
   refine aA g1 (kQ (id:=id) (off:=0) (len:=n) (cap:=cap) (sz:=f.sz) (l:=i) (h:=n) (m:=cap) (d:=.rsl id f.sz (i.toNat*f.sz) (n-i.toNat) (cap-i.toNat)) ho1 hd1 ht hu hi (sv (d:=.rsl _ _ _ _ _) (by simp [St.op,Cf,Bo,aV])) ⟨_,hyS⟩ rfl rfl (by simp) h0 (by omega) (by omega) (by omega) (by simp))
    (aA g2 (aC7 (e':=e') (ds:=Ac (l.map f.d)++AK ((cap-n)*f.sz) D.dead) ho2 hd2 hu hi hz hz1 (sv (d:=.rsl id f.sz (i.toNat*f.sz) (n-i.toNat) (cap-i.toNat)) (by simp [St.op,Cf,Bo,aV])) (by simp [BA,entL,Bo,Br,aV]) (by rw [AO,hfl,hn,hmul]; exact Db _ _) rfl) ?_) E β a h3
   intro E' β' a' h4;have h5:=h4.shrunk (id:=id) (e:=e') (ds':=Ac (r.map f.d)) (j:=AK ((n-i.toNat)*f.sz) .dead++(Ac (l.map f.d)++AK ((cap-n)*f.sz) D.dead).drop (n*f.sz)) aDF (by
    unfold jG;rw [CC,hmul,AT (by rw [hfl,hn]; exact AU _ hin),f.flat_take,hr2,AA])
   refine K E' β' a' (((h5.kill tx).kill t1).same (fun s=>?_) (fun j=>?_))
   · by_cases h6:t1=s <;> by_cases h7:tx=s <;> simp [Cf,Bo,Br,aV,h6,h7]
   · simp only [BA,entL,Bo,Br,aV]; repeat' split <;> rfl
theorem aEA{b:Frame}{a:Act}{k:List Item}{cs:List Frame}{w:World}{c:Code}:step P (lone (b.atR a (.code (.scope c)::k)) cs w) = .next (lone (b.atR a (.code c :: .inScope c::k)) cs w) :=
 step_lone_go (by simp [stepG,stepG.exec,Frame.atR])
theorem aCf{b:Frame}{a:Act}{k:List Item}{cs:List Frame}{w:World}{c:Code}:step P (lone (b.atR a (.inScope c::k)) cs w) = .next (lone (b.atR a k) cs w) :=
 step_lone_go (by simp [stepG,stepG.exec,Frame.atR])
theorem aJp{α:Type}{l r:List α}{a b:Int}(h:cut l a b=some r):r.length≤l.length:=by
 obtain ⟨_,hr⟩:=aJB h;rw [←hr,BV,Bm]; omega
end
end Go.IL
open Bool renaming and_eq_true → Av,or_false → CJ
open Go.IL.D renaming refsInL → AE,renL → BD
open Go.IL.Ent renaming held → DD,held_ren → BT
open Go.IL.Env.le renaming refl → Co
open Go.IL.RdL renaming ren → Cv,renp → DF
open List renaming map_cons → Ai,map_map → BM,mem_cons → Au,mem_cons_of_mem → Bg,mem_cons_self → Cb,mem_range → DT,range → By
open Nat renaming ble → AZ,ble_eq → BX,blt → DS,blt_eq → BQ,le_of_ble_eq_true → Di,le_trans → BG,lt_of_lt_of_le → BH
open Prod renaming fst → CG
open _root_ renaming if_neg → Al
open Go.RowKit (Below)
namespace Go.IL
section
variable {P:Ba} {O:bZ} {N:Nat} {S S':St} {o:Oper} {t:Nat} {Q:Exit→St→Prop}
structure HandM (S:St) (k:Nat) (A:List Nat) (H0:List (Nat×Ent)):Prop where
 nd:A.Nodup
 cov:A.all (fun i=>(H0.map fun x=>sig k A x.1).contains i)=true
 ents:∀ x∈H0,fT A x.1=true∧x.2.held=true∧S.ent (sig k A x.1)=x.2.ren (sig k A)∧x.2.refsIn (fT A)=true
def tT(m:Nat)(A:List Nat)(i:Nat):Bool:=DS i m||fT A i
theorem aF3{f:FuncId}{ds ds':List D}{r r':D}{H0 H1 H2:List (Nat×Ent)}(k m:Nat)(A:List Nat)(hd:o.dst=some t)(ht:t<N)(h:∀ E β a,Rel O N S E β a→∃ vs:List AG,(execOp a.eval o).run P E.w = .ok (.enter f vs.toArray) E.w∧RdL E β vs ds')(hds:BD (sig k A) ds=ds')(hp:AE (fT A) ds=true)(hkm:k+m≤1000)(hfr:∀ j,j<m→S.ent (k+j) = .fresh)(hh:HandM S k A H0)(hf:FnH P f ds H0 r H1)(hrr:r.ren (sig k A)=r')(hrp:r.refsIn (tT m A)=true)(hH1:∀ x∈H1,tT m A x.1=true∧x.2.refsIn (tT m A)=true)(hH2:zP k A H0 H1 S.H=H2):IOp P O N o S (Bo ⟨S.sl,H2⟩ t r'):=by
 intro E β a hr next Q hn;obtain ⟨vs,hrun,hv⟩:=h E β a hr;unfold Oper.wp;rw [hrun];simp only [Oper.upon,hd];subst hds hrr hH2
 let βc:bY:=fun i=>if fT A i=true then β (sig k A i) else none
 have hβc:∀ id,fT A id=true→βc id=β (sig k A id):=fun id hid=>by simp [βc,hid]
 have hvc:RdL E βc vs ds:=Cv hβc ds hv hp;have h0:∀ i,(entL H0 i).held=true→fT A i=true∧S.ent (sig k A i)=(entL H0 i).ren (sig k A)∧(entL H0 i).refsIn (fT A)=true:=fun i hi=>by
  have h1:=hh.ents _ (uW hi);exact ⟨h1.1,h1.2.2.1,h1.2.2.2⟩
 have hcall:HOk ⟨E.w,E.X,nF βc H0,βc,none,fun _=>[],fun _=>0,fun _=>[],fun _=>(#[],.skip,.skip),E.w.heap.size⟩ E βc (entL H0):={
  tab:=hr.h.good.tab,os:=rfl,tape:=rfl,output:=rfl,size:=AP _,mbs:=AP _,block:=fun _ _ _=>rfl,xlt:=hr.h.xlt,xold:=fun _ _ _ _=>Dy,le:=Co _
  gid:=fun i b hi=>by
   by_cases hg:fT A i=true
   · simp only [fT,Av,BX] at hg; exact hg.1
   · simp [βc,hg] at hi
  given:=fun _ _ hi=>hi
  ent := fun i=>by
   cases hhe:(entL H0 i).held with
   | true =>
     obtain ⟨h1,h2,h3⟩:=h0 i hhe;have he:=hr.h.ent (sig k A i);rw [h2] at he;have hown:∀ b,βc i=some b→(⟨E.w,E.X,nF βc H0,βc,none,fun _=>[],fun _=>0,fun _=>[],fun _=>(#[],.skip,.skip),E.w.heap.size⟩:bZ).own b:=fun b hb=>.inr ⟨i,hhe,hb⟩
     cases hE:entL H0 i with
     | none=>trivial
     | fresh=>rw [hE] at hhe; cases hhe
     | blk e es =>
       rw [hE] at he h3
       rcases he with ⟨g1,g2⟩ | ⟨b,ws,sp,g1,g2,g3,g4,g5⟩
       · exact .inl ⟨(hβc i h1).trans g1,tC g2⟩
       · exact .inr ⟨b,ws,sp,(hβc i h1).trans g1,hown b ((hβc i h1).trans g1),g3,g4,Cv hβc es g5 h3⟩
     | tail e sz n =>
       rw [hE] at he
       rcases he with ⟨g1,g2⟩ | ⟨b,c,g1,g2,g3,g4⟩
       · exact .inl ⟨(hβc i h1).trans g1,g2⟩
       · exact .inr ⟨b,c,(hβc i h1).trans g1,hown b ((hβc i h1).trans g1),g3,g4⟩
     | loop lk es st pe =>
       rw [hE] at h3; cases h3
     | mp ks es =>
       rw [hE] at he h3;obtain ⟨b,xs,cl,g1,g2,g3,g4,g5,g6⟩:=he;exact ⟨b,xs,cl,(hβc i h1).trans g1,hown b ((hβc i h1).trans g1),g3,g4,g5,Cv hβc es g6 h3⟩
     | kept n es=>rw [hE] at hhe; cases hhe
   | false =>
     cases hE:entL H0 i with
     | none=>trivial
     | fresh =>
       show βc i=none
       by_cases hm:i∈H0.map (·.1)
       · obtain ⟨e,h1,h2⟩:=kP (z:=defE i) hm;have h3:=hh.ents _ h1;have:entL H0 i=e:=h2;rw [hE] at this; rw [←this] at h3; exact Ay h3.2.1 (by simp [DD])
       · have:entL H0 i=defE i:=kE hm;rw [hE] at this;unfold defE at this;split at this
         · cases this
         · rename_i hlt;have:¬ fT A i=true:=by simp only [fT,Av,BX]; omega
           simp [βc,this]
     | blk=>rw [hE] at hhe; cases hhe
     | tail=>rw [hE] at hhe; cases hhe
     | loop=>rw [hE] at hhe; cases hhe
     | mp=>rw [hE] at hhe; cases hhe
     | kept n es =>
       exfalso
       by_cases hm:i∈H0.map (·.1)
       · obtain ⟨e,h1,h2⟩:=kP (z:=defE i) hm;have h3:=hh.ents _ h1;have:entL H0 i=e:=h2;rw [hE] at this; rw [←this] at h3; exact Ay h3.2.1 (by simp [DD])
       · have:entL H0 i=defE i:=kE hm;rw [hE] at this;unfold defE at this;split at this <;> cases this
  inj:=fun i j b hi hj h1 h2=>by
   obtain ⟨a1,a2,_⟩:=h0 i hi;obtain ⟨b1,b2,_⟩:=h0 j hj;have h1:β (sig k A i)=some b:=(hβc i a1).symm.trans h1;have h2:β (sig k A j)=some b:=(hβc j b1).symm.trans h2;exact aA8 hh.nd a1 b1 (hr.h.inj _ _ b (by rw [a2,BT]; exact hi) (by rw [b2,BT]; exact hj) h1 h2) }
 refine (hf E βc vs hr.h.good hcall.gid hcall hvc).mono ?_;rintro e w' ⟨v,rfl,E',β',rfl,hok,hrd⟩
 -- old blocks that were not handed over
 have hfoot:∀ b,nF βc H0 b→∃ i,fT A i=true∧(S.ent (sig k A i)).held=true∧β (sig k A i)=some b:=fun b ⟨i,hi,hb⟩=>by
  obtain ⟨h1,h2,_⟩:=h0 i hi;exact ⟨i,h1,by rw [h2,BT]; exact hi,by rw [←hβc i h1]; exact hb⟩
 have hfown:∀ b,nF βc H0 b→O.own b:=fun b hb=>by
  obtain ⟨i,_,h2,h3⟩:=hfoot b hb;have he:=hr.h.ent (sig k A i);exact hr.h.own h2 h3
 have hcown:∀ b,(⟨E.w,E.X,nF βc H0,βc,none,fun _=>[],fun _=>0,fun _=>[],fun _=>(#[],.skip,.skip),E.w.heap.size⟩:bZ).own b→O.own b:=fun b hb=>by
  rcases hb with hb | hb
  · exact .inl (BG hr.h.size hb)
  · exact hfown b hb
 have hfrE:∀ i,k≤i∧i<k+m→S.ent i = .fresh:=fun i h1=>by
  have:=hfr (i-k) (by omega)
  rwa [show k+(i-k)=i by omega] at this
 have hfresh:∀ i,k≤i→i<k+m→β i=none:=fun i h1 h2=>by
  have he:=hr.h.ent i;rw [hfrE i ⟨h1,h2⟩] at he; exact he
 let βn:bY:=fun i=>if k≤i∧i<k+m then β' (i-k) else if i∈A then β' (1000+A.idxOf i) else β i
 have hAk:∀ i,i∈A→¬ (k≤i∧i<k+m):=fun i hi hki=>by
  have h1:=Bb.1 hh.cov i hi;obtain ⟨x,hx,hxe⟩:=Ak.1 (by simpa using h1:i∈H0.map (fun x=>sig k A x.1));have h2:=hh.ents x hx;rw [hxe,hfrE i hki] at h2;have h3:(x.2.ren (sig k A)).held=true:=by rw [BT]; exact h2.2.1
  rw [←h2.2.2.1] at h3; cases h3
 have hnA:∀ i,i∈A→βn i=β' (1000+A.idxOf i):=fun i hi=>by simp [βn,hAk i hi,hi]
 have hnO:∀ i,i ∉ A→¬ (k≤i∧i<k+m)→βn i=β i:=fun i h1 h2=>by simp [βn,h1,h2]
 have hβ1:β.le βn:=fun i b hi=>by
  by_cases hki:k≤i∧i<k+m
  · rw [hfresh i hki.1 hki.2] at hi; cases hi
  · by_cases hA:i∈A
    · rw [hnA i hA];obtain ⟨h1,h2⟩:=wG (k:=k) hA;exact hok.given _ _ (((hβc _ h1).trans (by rw [h2])).trans hi)
    · rw [hnO i hA hki]; exact hi
 have hβ2:∀ i,tT m A i=true→βn (sig k A i)=β' i:=fun i hi=>by
  by_cases hg:fT A i=true
  · rw [hnA _ (qA hg),aA9 hh.nd hg]
  · simp only [tT,hg,CJ,BQ] at hi;have h2:¬ 1000≤i:=by omega
    have h1:sig k A i=k+i:=by simp [sig,h2]
    rw [h1];simp [βn,hi]
 have hle:E.le E':=hok.le
 -- the entries behind the call
 have hkey1:∀ i,tT m A i=true→∀ j,tT m A j=true→sig k A i=sig k A j→i=j:=fun i hi j hj hij=>by
  by_cases hgi:fT A i=true
  · by_cases hgj:fT A j=true
    · exact aA8 hh.nd hgi hgj hij
    · exfalso;simp only [tT,hgj,CJ,BQ] at hj;have h2:sig k A j=k+j:=by simp [sig,show ¬1000≤j by omega]
      exact hAk _ (qA (k:=k) hgi) (by rw [hij,h2]; omega)
  · by_cases hgj:fT A j=true
    · exfalso;simp only [tT,hgi,CJ,BQ] at hi;have h2:sig k A i=k+i:=by simp [sig,show ¬1000≤i by omega]
      exact hAk _ (qA (k:=k) hgj) (by rw [←hij,h2]; omega)
    · simp only [tT,hgi,hgj,CJ,BQ] at hi hj;simp only [sig,show ¬1000≤i by omega,show ¬1000≤j by omega,if_false] at hij;omega
 have hent:∀ i,(Bo ⟨S.sl,zP k A H0 H1 S.H⟩ t (r.ren (sig k A))).ent i =
  if i∈H1.map (fun x=>sig k A x.1) then (look (defE i) i (H1.map fun x=>(sig k A x.1,x.2.ren (sig k A)))) else if i∈H0.map (fun x=>sig k A x.1) then .none else S.ent i:=fun i=>by
  simp only [BA,entL,Bo,zP,rU,BM];have e1:(CG ∘ fun x:Nat×Ent=>(sig k A x.1,x.2.ren (sig k A)))=fun x=>sig k A x.1:=rfl
  have e2:(CG ∘ fun x:Nat×Ent=>(sig k A x.1,Ent.none))=fun x=>sig k A x.1:=rfl
  rw [e1,e2];split
  · rfl
  · split
    · rename_i h1 h2;obtain ⟨e,h3,h4⟩:=kP (z:=defE i) (l:=H0.map fun x=>(sig k A x.1,Ent.none)) (by rw [BM,e2]; exact h2);rw [h4];obtain ⟨x,_,hx⟩:=Ak.1 h3;cases hx; rfl
    · rfl
 have hlook1:∀ j,tT m A j=true→j∈H1.map (·.1)→look (defE (sig k A j)) (sig k A j) (H1.map fun x=>(sig k A x.1,x.2.ren (sig k A)))=(entL H1 j).ren (sig k A):=by
  intro j hj;unfold entL;have aux:∀ (z z':Ent) (l:List (Nat×Ent)),(∀ x∈l,tT m A x.1=true)→j∈l.map (·.1)→look z (sig k A j) (l.map fun x=>(sig k A x.1,x.2.ren (sig k A)))=(look z' j l).ren (sig k A):=by
   intro z z' l
   induction l with
   | nil=>intro _ h; simp at h
   | cons x l ih =>
     obtain ⟨i,e⟩:=x;intro hl hm;simp only [Ai,aV]
     by_cases hij:i=j
     · subst hij; rw [Ao rfl,Ao rfl]
     · rw [Al (fun h=>hij (hkey1 i (hl (i,e) Cb) j hj h)),Al hij];refine ih (fun x hx=>hl x (Bg _ hx)) ?_;simp only [Ai,Au] at hm
       rcases hm with h | h
       · exact Ay h.symm hij
       · exact h
  exact aux _ _ H1 (fun x hx=>(hH1 x hx).1)
 have hH1r:∀ j,j∈H1.map (·.1)→tT m A j=true∧(entL H1 j).refsIn (tT m A)=true:=fun j hj=>by
  obtain ⟨e,h1,h2⟩:=kP (z:=defE j) hj;have h3:=hH1 _ h1;exact ⟨h3.1,by rw [show entL H1 j=e from h2]; exact h3.2⟩
 have cases1:∀ i,i∈H1.map (fun x=>sig k A x.1)→∃ j,j∈H1.map (·.1)∧tT m A j=true∧i=sig k A j:=fun i hi=>by
  obtain ⟨x,hx,rfl⟩:=Ak.1 hi;exact ⟨x.1,Ak.2 ⟨x,hx,rfl⟩,(hH1 x hx).1,rfl⟩
 -- an entry that was not handed over
 have hold:∀ i,i ∉ H1.map (fun x=>sig k A x.1)→i ∉ H0.map (fun x=>sig k A x.1)→(S.ent i).held=true→∀ b,β i=some b→βn i=some b∧b<E.w.heap.size∧¬ nF βc H0 b:=fun i h1 h2 h3 b hb=>by
  refine ⟨hβ1 i b hb,?_,?_⟩
  · exact hr.h.lt h3 hb
  · rintro ⟨j,hj,hbj⟩;obtain ⟨g1,g2,_⟩:=h0 j hj;have:i=sig k A j:=hr.h.inj i (sig k A j) b h3 (by rw [g2,BT]; exact hj) hb (by rw [←hβc j g1]; exact hbj);exact h2 (Ak.2 ⟨_,uW hj,this.symm⟩)
 have hcov:∀ i,i∈A→i∈H0.map (fun x=>sig k A x.1):=fun i hi=>by
  have:=Bb.1 hh.cov i hi;simpa using this
 have hold':∀ i,i ∉ H0.map (fun x=>sig k A x.1)→S.ent i ≠ .fresh→βn i=β i:=fun i h0 hf=>by
  refine hnO i (fun hA=>h0 (hcov i hA)) (fun hki=>hf ?_);exact hfrE i hki
 refine hn E' βn _ ⟨by simp [Act.put,hr.n],hr.nd.mono (fun b hx=>(hok.block b (dR hx) (fun hf=>by obtain ⟨i,_,h2,h3⟩:=hfoot b hf; exact hr.h.nodef h2 h3 _ hx)).trans hx),?_,?_⟩
 · exact {
    tab:=hr.h.tab,os:=hok.os.trans hr.h.os,tape:=hok.tape.trans hr.h.tape,output:=hok.output.trans hr.h.output,size:=BG hr.h.size hok.size,mbs:=hr.h.mbs
    block:=fun j hj hf=>by
     have hnf:¬ nF βc H0 j:=fun h=>by
      rcases hfown j h with h1 | h1
      · omega
      · exact hf h1
     exact (hok.block j (BH hj hr.h.size) hnf).trans (hr.h.block j hj hf)
    xlt:=hok.xlt
    xold:=fun b o hb hf=>by
     have hnf:¬ nF βc H0 b:=fun h=>by
      rcases hfown b h with h1 | h1
      · omega
      · exact hf h1
     exact (hok.xold b o (BH hb hr.h.size) hnf).trans (hr.h.xold b o hb hf)
    le:=hr.h.le.trans hle
    gid:=hr.h.gid
    given:=fun i b hi=>hβ1 i b (hr.h.given i b hi)
    ent := fun i=>by
     rw [hent i]
     by_cases hi1:i∈H1.map (fun x=>sig k A x.1)
     · rw [Ao hi1];obtain ⟨j,hj,hbj,rfl⟩:=cases1 i hi1;rw [hlook1 j hbj hj];have he:=hok.ent j;have hrf:=(hH1r j hj).2;have hb2:=hβ2 j hbj;cases hE:entL H1 j with
       | none=>trivial
       | fresh=>rw [hE] at he; exact hb2.trans he
       | blk e es =>
         rw [hE] at he hrf
         rcases he with ⟨g1,g2⟩ | ⟨b,ws,sp,g1,g2,g3,g4,g5⟩
         · exact .inl ⟨hb2.trans g1,by rw [g2]; rfl⟩
         · exact .inr ⟨b,ws,sp,hb2.trans g1,hcown b g2,g3,g4,DF (fun id b hid hb=>(hβ2 id hid).trans hb) g5 hrf⟩
       | tail e sz n =>
         rw [hE] at he
         rcases he with ⟨g1,g2⟩ | ⟨b,c,g1,g2,g3,g4⟩
         · exact .inl ⟨hb2.trans g1,g2⟩
         · exact .inr ⟨b,c,hb2.trans g1,hcown b g2,g3,g4⟩
       | loop lk es st pe =>
         rw [hE] at hrf; cases hrf
       | mp ks es =>
         rw [hE] at he hrf;obtain ⟨b,xs,cl,g1,g2,g3,g4,g5,g6⟩:=he;exact ⟨b,xs,cl,hb2.trans g1,hcown b g2,g3,g4,g5,DF (fun id b hid hb=>(hβ2 id hid).trans hb) g6 hrf⟩
       | kept n es=>rw [hE] at hrf; cases hrf
     · rw [Al hi1]
       by_cases hi0:i∈H0.map (fun x=>sig k A x.1)
       · rw [Ao hi0]; trivial
       · rw [Al hi0];have he:=hr.h.ent i;have hnb:∀ b,(S.ent i).held=true→β i=some b→βn i=some b∧E'.w.heap[b]? = E.w.heap[b]? ∧ ∀ o,(E'.X b o↔E.X b o):=fun b hhe hb=>by
          obtain ⟨g1,g2,g3⟩:=hold i hi1 hi0 hhe b hb;exact ⟨g1,hok.block b g2 g3,fun o=>hok.xold b o g2 g3⟩
         cases hE:S.ent i with
         | none=>trivial
         | fresh =>
           rw [hE] at he
           show βn i=none
           by_cases hki:k≤i∧i<k+m
           · -- a fresh name of the callee's that is told by nothing
             have hbi:i-k ∉ H1.map (·.1):=fun hm=>by
              have hbb:=(hH1r _ hm).1;refine hi1 ?_;obtain ⟨x,hx,hxe⟩:=Ak.1 hm;refine Ak.2 ⟨x,hx,?_⟩;have hx':x.1=i-k:=hxe;rw [hx'];simp only [sig,show ¬1000≤i-k by omega,if_false];omega
             have h3:=hok.ent (i-k);have h4:entL H1 (i-k)=defE (i-k):=kE hbi;rw [h4,defE,Al (by omega)] at h3;simp only [βn,hki,and_self,if_true];exact h3
           · rw [hnO i (fun hA=>hi0 (hcov i hA)) hki]; exact he
         | blk e es =>
           rw [hE] at he
           rcases he with ⟨g1,g2⟩ | ⟨b,ws,sp,g1,g2,g3,g4,g5⟩
           · exact .inl ⟨(hold' i hi0 (by rw [hE]; exact fun h=>by cases h)).trans g1,g2⟩
           · obtain ⟨f1,f2,f3⟩:=hnb b (by rw [hE]; rfl) g1;exact .inr ⟨b,ws,sp,f1,g2,f2.trans g3,fun o=>(f3 o).2 (g4 o),AW hle hβ1 g5⟩
         | tail e sz n =>
           rw [hE] at he
           rcases he with ⟨g1,g2⟩ | ⟨b,c,g1,g2,g3,g4⟩
           · exact .inl ⟨(hold' i hi0 (by rw [hE]; exact fun h=>by cases h)).trans g1,g2⟩
           · obtain ⟨f1,f2,f3⟩:=hnb b (by rw [hE]; rfl) g1;exact .inr ⟨b,c,f1,g2,f2.trans g3,fun o ho=>(f3 o).2 (g4 o ho)⟩
         | loop lk es st pe =>
           rw [hE] at he;obtain ⟨b,q,g1,g2,g3,g4,g5,g6,g7,g8,g9,g10⟩:=he;obtain ⟨f1,f2,f3⟩:=hnb b (by rw [hE]; rfl) g1;exact ⟨b,q,f1,g2,f2.trans g3,fun o=>(f3 o).2 (g4 o),g5,g6,g7,g8,g9,g10.1,AW hle hβ1 g10.2⟩
         | mp ks es =>
           rw [hE] at he;obtain ⟨b,xs,cl,g1,g2,g3,g4,g5,g6⟩:=he;obtain ⟨f1,f2,f3⟩:=hnb b (by rw [hE]; rfl) g1;exact ⟨b,xs,cl,f1,g2,f2.trans g3,fun o=>(f3 o).2 (g4 o),g5,AW hle hβ1 g6⟩
         | kept n es =>
           rw [hE] at he;exact ⟨AW hle hβ1 he.1,fun c hc=>(hok.block c (dR (he.2 c hc)) (fun hf=>by obtain ⟨i,_,h2,h3⟩:=hfoot c hf; exact hr.h.nodef h2 h3 _ (he.2 c hc))).trans (he.2 c hc)⟩
    inj := fun i j b hi hj hbi hbj=>by
     rw [hent i] at hi;rw [hent j] at hj;have hone:∀ i,i∈H1.map (fun x=>sig k A x.1)→(look (defE i) i (H1.map fun x=>(sig k A x.1,x.2.ren (sig k A)))).held=true→βn i=some b→∃ a,(entL H1 a).held=true∧β' a=some b∧i=sig k A a∧tT m A a=true:=fun i hm hh hb=>by
      obtain ⟨a,ha,hba,rfl⟩:=cases1 i hm;rw [hlook1 a hba ha,BT] at hh;exact ⟨a,hh,(hβ2 a hba).symm.trans hb,rfl,hba⟩
     have hown1:∀ a,(entL H1 a).held=true→β' a=some b→E.w.heap.size≤b∨nF βc H0 b:=fun a hh hb=>by
      exact hok.own hh hb
     have hto:∀ i,i ∉ H0.map (fun x=>sig k A x.1)→(S.ent i).held=true→βn i=some b→β i=some b:=fun i h0 hh hb=>by
      rw [←hold' i h0 (fun h=>by rw [h] at hh; cases hh)]; exact hb
     have hmix:∀ i j,i∈H1.map (fun x=>sig k A x.1)→(look (defE i) i (H1.map fun x=>(sig k A x.1,x.2.ren (sig k A)))).held=true→βn i=some b→j ∉ H1.map (fun x=>sig k A x.1)→j ∉ H0.map (fun x=>sig k A x.1)→(S.ent j).held=true→βn j=some b→False:=fun i j h1 h2 h3 h4 h5 h6 h7=>by
      obtain ⟨a,ha,hb,_⟩:=hone i h1 h2 h3;obtain ⟨_,f2,f3⟩:=hold j h4 h5 h6 b (hto j h5 h6 h7)
      rcases hown1 a ha hb with h | h
      · omega
      · exact f3 h
     by_cases hi1:i∈H1.map (fun x=>sig k A x.1)
     · rw [Ao hi1] at hi
       by_cases hj1:j∈H1.map (fun x=>sig k A x.1)
       · rw [Ao hj1] at hj;obtain ⟨a,ha,hab,rfl,_⟩:=hone i hi1 hi hbi;obtain ⟨c,hc,hcb,rfl,_⟩:=hone j hj1 hj hbj;rw [hok.inj a c b ha hc hab hcb]
       · rw [Al hj1] at hj
         by_cases hj0:j∈H0.map (fun x=>sig k A x.1)
         · rw [Ao hj0] at hj; cases hj
         · rw [Al hj0] at hj;exact (hmix i j hi1 hi hbi hj1 hj0 hj hbj).elim
     · rw [Al hi1] at hi
       by_cases hi0:i∈H0.map (fun x=>sig k A x.1)
       · rw [Ao hi0] at hi; cases hi
       · rw [Al hi0] at hi
         by_cases hj1:j∈H1.map (fun x=>sig k A x.1)
         · rw [Ao hj1] at hj;exact (hmix j i hj1 hj hbj hi1 hi0 hi hbi).elim
         · rw [Al hj1] at hj
           by_cases hj0:j∈H0.map (fun x=>sig k A x.1)
           · rw [Ao hj0] at hj; cases hj
           · rw [Al hj0] at hj;exact hr.h.inj i j b hi hj (hto i hi0 hi hbi) (hto j hj0 hj hbj) }
 · intro s;have hts:t<a.tmps.size:=hr.n ▸ ht
   by_cases hst:t=s
   · subst hst;have h1:=Rd.renp (p:=tT m A) (fun id b hid hb=>(hβ2 id hid).trans hb) hrd hrp;simpa [Act.put,Cf,Bo,aV,hts] using h1
   · have:=CA hle hβ1 (hr.sl s);simpa [Act.put,Cf,Bo,aV,hst,Bf] using this

theorem tR{f:FuncId}{xs:List Am}{ts:Array At}{ds ds':List D}{r r':D}{H0 H1 U:List (Nat×Ent)}(k m:Nat)(A:List Nat)(ho:o.op = .call { callee:=.value (.func f),args:=xs.toArray,argTypes:=ts })(hd:o.dst=some t)(ht:t<N)(hc:bB P f)(hx:SVs S xs ds')(hds:BD (sig k A) ds=ds')(hp:AE (fT A) ds=true)(hkm:AZ (k+m) 1000=true)(hfr:∀ e∈(By m).map (fun j=>S.ent (k+j)),e = .fresh)(hh:HandM S k A H0)(hf:FnH P f ds H0 r H1)(hrr:r.ren (sig k A)=r')(hrp:r.refsIn (tT m A)=true)(hH1:∀ x∈H1,tT m A x.1=true∧x.2.refsIn (tT m A)=true)(hU:(H1.map fun x=>(sig k A x.1,x.2.ren (sig k A)))++(H0.map fun x=>(sig k A x.1,Ent.none))=U):IOp P O N o S ⟨(t,r')::S.sl,U++S.H⟩:=by
 have h:=aF3 (P:=P) (O:=O) (N:=N) (S:=S) (o:=o) (t:=t) (f:=f) (ds:=ds) (ds':=ds') (r:=r) (r':=r') (H0:=H0) (H1:=H1) (H2:=U++S.H) k m A hd ht (fun E β a hr=>⟨xs.map a.eval,by
  simp [execOp,ho,resolve,Deferred.ofValue,Act.eval,invoke,kB hc],hx.rd hr⟩) hds hp (Di hkm) (fun j hj=>hfr _ (Ak.2 ⟨j,DT.2 hj,rfl⟩)) hh hf hrr hrp hH1 (by rw [←hU,zP,AA])
 exact h
end
end Go.IL
namespace Go.IL
section
variable {P:Ba} {O:bZ} {N:Nat} {S S':St} {o:Oper} {t:Nat} {Q:Exit→St→Prop}

end
end Go.IL
open Bool renaming or_true → EP
namespace Go.IL
theorem M.{u}{α : Sort u}{a : α} : a = a := rfl
def dd_ : Nat → List D → List D
  | 0, l => l
  | n + 1, l => .dead :: dd_ n l
def kp_(n : Nat)(l : List (Nat × D)) : List D := (By n).map fun s => look .dead s l
theorem sj_{α : Type}{a b : α}(h : some a = some b) : a = b := Option.some.inj h
section
variable {P:Ba} {O:bZ} {N:Nat} {S S':St} {o:Oper} {t:Nat} {Q:Exit→St→Prop}
theorem lb{a b:Nat}(h:AZ (a+1) b=true):a<b:=Di h
theorem svI{x:Operand}{k:IntKind}{n:Int}(h:S.op x = .int k n):SV S x (.int k n):=sv h
theorem svB{x:Operand}{n:Bool}(h:S.op x = .bool n):SV S x (.bool n):=sv h
theorem svR{x:Operand}{i j:Nat}(h:S.op x = .ref i j):SV S x (.ref i j):=sv h
theorem svL{x:Operand}{f:Bool}{l:List D}(h:S.op x = .slice f l):SV S x (.slice f l):=sv h
theorem svi{x:Operand}{k:IntKind}(n:Int)(h:S.op x = .int k n):SV S x (.int k n):=sv h
theorem svf{x:Operand}(l:List D)(h:S.op x = .fptr l):SV S x (.fptr l):=sv h
theorem svo{x:Operand}{i z n:Nat}(h:S.op x = .osl i z n):SV S x (.osl i z n):=sv h
theorem sta{P O N c Q}(S)(h:IWP P O N c S Q):IWP P O N c S Q:=h
theorem svA{x:Operand}(l:List D)(h:S.op x = .agg l):SV S x (.agg l):=sv h
theorem svcI{x:Operand}{b:Bool}{k:IntKind}{n:Int}(h:S.op x = .cnd b (.int k n))(hb:b=true):SV S x (.int k n):=svc h hb
theorem svcB{x:Operand}{b n:Bool}(h:S.op x = .cnd b (.bool n))(hb:b=true):SV S x (.bool n):=svc h hb
theorem svcR{x:Operand}{b:Bool}{i j:Nat}(h:S.op x = .cnd b (.ref i j))(hb:b=true):SV S x (.ref i j):=svc h hb
theorem svcL{x:Operand}{b:Bool}{f:Bool}{l:List D}(h:S.op x = .cnd b (.slice f l))(hb:b=true):SV S x (.slice f l):=svc h hb
theorem svcA{x:Operand}{b:Bool}(l:List D)(h:S.op x = .cnd b (.agg l))(hb:b=true):SV S x (.agg l):=svc h hb
theorem mvI{x:Operand}{k:IntKind}{n:Int}(ho:o.op = .move x)(hd:o.dst=some t)(ht:AZ (t+1) N=true)(hx:S.op x = .int k n):IOp P O N o S (S.set t (.int k n)):=bM ho hd (lb ht) (sv hx)
theorem mvB{x:Operand}{n:Bool}(ho:o.op = .move x)(hd:o.dst=some t)(ht:AZ (t+1) N=true)(hx:S.op x = .bool n):IOp P O N o S (S.set t (.bool n)):=bM ho hd (lb ht) (sv hx)
theorem mvR{x:Operand}{i j:Nat}(ho:o.op = .move x)(hd:o.dst=some t)(ht:AZ (t+1) N=true)(hx:S.op x = .ref i j):IOp P O N o S (S.set t (.ref i j)):=bM ho hd (lb ht) (sv hx)
theorem mvL{x:Operand}{f:Bool}{l:List D}(ho:o.op = .move x)(hd:o.dst=some t)(ht:AZ (t+1) N=true)(hx:S.op x = .slice f l):IOp P O N o S (S.set t (.slice f l)):=bM ho hd (lb ht) (sv hx)
theorem asI{x:Operand}{k:IntKind}{n:Int}(ho:o.op = .assign x)(hd:o.dst=some t)(ht:AZ (t+1) N=true)(hx:S.op x = .int k n):IOp P O N o S (S.set t (.int k n)):=bH ho hd (lb ht) (sv hx)
theorem asB{x:Operand}{n:Bool}(ho:o.op = .assign x)(hd:o.dst=some t)(ht:AZ (t+1) N=true)(hx:S.op x = .bool n):IOp P O N o S (S.set t (.bool n)):=bH ho hd (lb ht) (sv hx)
def LA(P:Program)(T:TypeId)(u:TypeDesc)(z:Option AG)(size bytes:Nat)(g:Bool):Prop:=P.underlying T=some u∧kT P T=g∧TI P T z size bytes∧0<size
theorem LA.mk{T:TypeId}{u:TypeDesc}{z:Option AG}{size bytes:Nat}{g:Bool}(h1:P.underlying T=some u)(h2:kT P T=g)(h3:TI P T z size bytes)(h4:0<size):LA P T u z size bytes g:=⟨h1,h2,h3,h4⟩
theorem lra{T:TypeId}{x:Operand}{u:TypeDesc}{z:Option AG}{size bytes:Nat}{id off:Nat}{e:At}{ds:List D}(cs:List D)(l:LA P T u z size bytes true)(ho:o.op = .load T x)(hd:o.dst=some t)(ht:AZ (t+1) N=true)(hx:S.op x = .ref id off)(he:S.ent id = .blk e ds)(hn:off+size≤ds.length)(hdd:(ds.drop off).take size=cs):IOp P O N o S (S.set t (.agg cs)):=nX ho hd (lb ht) l.1 l.2.1 l.2.2.1 l.2.2.2 (sv hx) he hn hdd
theorem lrL{T:TypeId}{x:Operand}{u:TypeDesc}{z:Option AG}{size bytes:Nat}{id off:Nat}{e:At}{ds r:List D}{f:Bool}{m:List D}(l:LA P T u z size bytes false)(ho:o.op = .load T x)(hd:o.dst=some t)(ht:AZ (t+1) N=true)(hx:S.op x = .ref id off)(he:S.ent id = .blk e ds)(hn:off+size≤ds.length)(hdd:ds.drop off = .slice f m::r):IOp P O N o S (S.set t (.slice f m)):=iP ho hd (lb ht) l.1 l.2.1 l.2.2.1 l.2.2.2 (sv hx) he hn hdd
theorem rva{x:Nat}{T:TypeId}{id off:Nat}{e:At}{ds cs:List D}{u:TypeDesc}{z:Ag AG}{size bytes:Nat}(l:LA P T u z size bytes true)(hx:S.get x = .ref id off)(he:S.ent id = .blk e ds)(hn:off+size≤ds.length)(hd:(ds.drop off).take size=cs):ResV P S (.cell x T) (.agg cs):=resv_a hx he l.1 l.2.1 l.2.2.1 l.2.2.2 hn hd
theorem stA{T:TypeId}{x y:Am}{z:Ag AG}{size bytes:Nat}{id off:Nat}{e:At}{ds:List D}(c ds':List D)(hi:TI P T z size bytes)(ho:o.op = .store T x y)(hd:o.dst=none)(hx:S.op x = .ref id off)(he:S.ent id = .blk e ds)(hy:S.op y = .agg c)(hb:(D.agg c).boxable=true)(hsz:(D.agg c).cells.length=size)(h1:(D.agg c).cells.all Ee=true)(hn:off+size≤ds.length)(hds:jG ds off (D.agg c).cells=ds'):IOp P O N o S (S.setE id (.blk e ds')):=dA ho hd hi (sv hx) he (sv hy) hb hsz h1 hn hds
theorem faR{T:TypeId}{x:Operand}{i:Nat}{fs:Array Field}{F:Field}{z:Ag AG}{size bytes:Nat}{id off:Nat}(off':Nat)(ho:o.op = .fieldAddr T x i)(hd:o.dst=some t)(ht:AZ (t+1) N=true)(hu:P.underlying T=some (.struct fs))(hf:fs[i]? = some F)(hi:TI P F.type z size bytes)(hs:0<size)(hx:S.op x = .ref id off)(ho':off+F.offset=off'):IOp P O N o S (S.set t (.ref id off')) :=
 fG ho hd (lb ht) hu hf hi hs (sv hx) ho'
theorem svaI{n:Node}{S0:St}{s:Nat}{k:IntKind}{m:Int}(hA:vR n S S0)(hm:n.rs.elem s=true)(h:S0.get s = .int k m):SV S (.tmp s) (.int k m):=sv (agr hA hm h)
theorem svaB{n:Node}{S0:St}{s:Nat}{m:Bool}(hA:vR n S S0)(hm:n.rs.elem s=true)(h:S0.get s = .bool m):SV S (.tmp s) (.bool m):=sv (agr hA hm h)
theorem svaR{n:Node}{S0:St}{s i j:Nat}(hA:vR n S S0)(hm:n.rs.elem s=true)(h:S0.get s = .ref i j):SV S (.tmp s) (.ref i j):=sv (agr hA hm h)
theorem svaL{n:Node}{S0:St}{s:Nat}{f:Bool}{l:List D}(hA:vR n S S0)(hm:n.rs.elem s=true)(h:S0.get s = .slice f l):SV S (.tmp s) (.slice f l):=sv (agr hA hm h)
theorem svaA{n:Node}{S0:St}{s:Nat}(l:List D)(hA:vR n S S0)(hm:n.rs.elem s=true)(h:S0.get s = .agg l):SV S (.tmp s) (.agg l):=sv (agr hA hm h)
theorem AllW.s{ρ:Nat→Nat}{t:Nat}{d:D}{l:List (Nat×D)}(h:S.get t=d.ren ρ)(hr:d.refsIn S'.okn=true)(k:AllW (SlW S S' ρ) l):AllW (SlW S S' ρ) ((t,d)::l):=.cons (.same h hr) k
theorem AllW.sames{ρ:Nat→Nat}:∀ {l:List (Nat×D)},l.map (fun p=>S.get p.1)=l.map (fun p=>p.2.ren ρ)→(l.all fun p=>p.2.refsIn S'.okn)=true→AllW (SlW S S' ρ) l
 | [],_,_=>.nil
 | (t,d)::l,h,hr=>by
   simp only [Ai,List.cons.injEq] at h;simp only [List.all_cons,Av] at hr;exact .cons (.same h.1 hr.1) (AllW.sames h.2 hr.2)
end
theorem SubL.k{d:D}{ds ds':List D}(t:SubL ds ds'):SubL (d::ds) (d::ds'):=.cons (.refl d) t
theorem FDL.k{S:St}{d:D}{ds ds':List D}(t:FDL S ds ds'):FDL S (d::ds) (d::ds'):=.cons (.refl d) t
theorem SubL.all:∀ (l:List D),SubL l l
 | []=>.nil
 | d::l=>.cons (.refl d) (SubL.all l)
theorem FDL.all{S:St}(l:List D):FDL S l l:=uC l
theorem or_tt{a b:Bool}(h:(a||true)=b):b=true:=by rw [←h,EP]
end Go.IL
open Go.RowKit (Below)
namespace Go.IL
section
variable {P:Ba} {O:bZ} {N:Nat} {S S':St} {o:Oper} {t:Nat} {Q:Exit→St→Prop}
end
end Go.IL
namespace Go.IL
section
variable {P:Ba} {O:bZ} {N:Nat} {S S':St} {o:Oper} {t:Nat}
end
end Go.IL
namespace Go.IL
section
variable {P:Ba} {O:bZ} {N:Nat} {S S':St} {o:Oper} {t:Nat}
theorem aCG{T e:At}(h:P.underlying T=some (.pointer e)):P.underlying T=some (.pointer (P.pointee T)):=by
 unfold Program.pointee; rw [h]
theorem aG4{E:Env}{β:bY}{a:Act}{y:Operand}(hr:Rel O N S E β a)(hy:SV S y .nilp):a.eval y = .pointer none:=by
 have:=hy.rd hr;generalize a.eval y=v at this;cases this; rfl
theorem aGg{T e:At}{p:Ag Addr}(hu:P.underlying T=some (.pointer e))(w:World)(neq:Bool):(binOp (if neq then .neq else .eql) T (.pointer p) (.pointer none)).run P w = .ok (.bool (if neq then !p.isNone else p.isNone)) w:=by
 cases neq
 · exact run_eql_pointer_nil w T p (aCG hu)
 · exact run_neq_pointer_nil w T p (aCG hu)
theorem zD{T T2 e:At}{x y:Am}{neq r:Bool}(ho:o.op = .binOp (if neq then .neq else .eql) T x y T2)(hd:o.dst=some t)(ht:t<N)(hu:P.underlying T=some (.pointer e))(hx:∀ E β a,Rel O N S E β a→∃ p,a.eval x = .pointer p∧(if neq then !p.isNone else p.isNone)=r)(hy:SV S y .nilp):IOp P O N o S (S.set t (.bool r)) :=
 kG hd ht fun E β a hr=>by
  obtain ⟨p,hp,hq⟩:=hx E β a hr;have hyv:=aG4 hr hy;have h1:=aGg (p:=p) hu E.w neq;rw [hq] at h1;exact ⟨_,by simp [execOp,ho,hp,hyv,eqGuard,h1],.bool _ _⟩
theorem tQ{T T2 e:At}{x y:Am}{id off:Nat}(ho:o.op = .binOp .eql T x y T2)(hd:o.dst=some t)(ht:t<N)(hu:P.underlying T=some (.pointer e))(hx:SV S x (.ref id off))(hy:SV S y .nilp):IOp P O N o S (S.set t (.bool false)) :=
 zD (neq:=false) ho hd ht hu (fun E β a hr=>by obtain ⟨b,_,h⟩:=aDY (hx.rd hr); exact ⟨_,h,rfl⟩) hy
theorem aFN{T T2 e:At}{x y:Am}(ho:o.op = .binOp .eql T x y T2)(hd:o.dst=some t)(ht:t<N)(hu:P.underlying T=some (.pointer e))(hx:SV S x .nilp)(hy:SV S y .nilp):IOp P O N o S (S.set t (.bool true)) :=
 zD (neq:=false) ho hd ht hu (fun E β a hr=>⟨_,aG4 hr hx,rfl⟩) hy
end
end Go.IL
open _root_.Array renaming replicate → BL
open Go renaming FuncId → Ce
open Go.IL.HOk renaming swap → FX
open List renaming nodup_cons → Bl
open Nat renaming strongRecOn → Ej
open Go.Lib
open Go.RowKit (Below)
namespace Go.IL
section
variable {P:Ba} {O:bZ} {N:Nat} {S S':St} {o:Oper} {t:Nat} {Q:Exit→St→Prop}
structure bZ.Semi (O:bZ):Prop where
 round:O.round=none
 foot:O.FootOk
structure bZ.SemiL (L:List Nat) (O:bZ):Prop where
 round:O.round=none
 foot:O.FootOk
 dv:∀ j,j ∉ L→O.dv j=[]
theorem bZ.Plain.semiL{O:bZ}(h:O.Plain):O.SemiL []:=⟨h.round,h.foot,fun j _=>h.dv j⟩
theorem wO{g : Am}{ps:Array Tmp}{acx bd:Code}{f:Ce}{fn:Func}{c:Code}{caps:List D}{L:List Nat}(k idL idK:Nat)(hg:SV S g (.fn f caps))(hc:bB P f)(hf:P.funcs[f]? = some fn)(hb:fn.body=some c)(hres:fn.results = #[]){N':Nat}(hn:fn.ntmps=N')(hN':caps.length+1≤N')(hfr:aDz k [] S.H=true)(hL:S.ent idL = .fresh)(hO:O.SemiL L)(hkL:∀ j∈L,∃ i ds,S.ent i = .kept j ds)(h:∀ O',O'.SemiL (k::L)→O'.lc k=(ps,acx,bd)→IWP P O' N' c ⟨(By (.yld idL::caps).length).zip (.yld idL::caps),(idK,.kept k (allD N S))::(idL,.loop k (allD N S) .ready none)::S.H⟩ (aJZ P O N k Q)):IWP P O N (.rangeFunc g ps acx bd) S Q:=by
 subst hn;obtain ⟨Ow,OX,Of,Og,Or,Okv,Olv,Odv,Olc,Omb⟩:=O;obtain ⟨hro,hfoot,hdv⟩:=hO;simp only at hro hfoot hdv;subst hro;intro E β a hr;obtain ⟨bs,hbs,hnd,hall⟩:=hr.nd;have hdvn:∀ j,E.w.heap.size ∉ Odv j:=fun j hm=>by
  by_cases hj:j∈L
  · obtain ⟨i,ds,hi⟩:=hkL j hj;have he:=hr.h.ent i;rw [hi] at he;exact BU _ (dR (he.2 _ hm))
  · rw [hdv j hj] at hm; cases hm
 obtain ⟨vs,hev,hcaps⟩:=aFs (hg.rd hr);refine wpIn_rangeFunc ?_;intro fn0 _
 let r0:Loop:={ state:=.ready,pending:=none,fn:=fn0,tmps:=a.tmps,params:=ps,assign:=acx,body:=bd,defers:=E.w.heap.size }
 let W0:=E.w.alloc (.deferred (some []))
 have hsz0:W0.heap.size=E.w.heap.size+1:=by simp [W0]
 let W1:=W0.alloc (.loop r0)
 have hb0:Below E.w.heap.size E.w W0:=(Below.refl _ _).alloc (AP _) _
 refine ⟨E.w.heap.size+1,[{ target:=.collected E.w.heap.size,args:=#[] }],W1,{ target:=.fn (.func f) vs.toArray,args:=#[.func (.yield (E.w.heap.size+1)) #[] #[]] },W1,f,
  #[.func (.yield (E.w.heap.size+1)) #[] #[]]++vs.toArray,W1,run_enterLoop_outer _ _ _ _ _,?_,fun _ _=>trivial,?_,fun h=>by simp [fen,Fence.wide] at h,?_⟩
 · simp only [resolve,hev];simp [go_sem]
 · simp [invoke,kB hc]
 let O':bZ:=⟨Ow,OX,Of,Og,none,fun j=>if j=k then a.tmps.toList else Okv j,fun j=>if j=k then E.w.heap.size+1 else Olv j,fun j=>if j=k then E.w.heap.size::bs else Odv j,fun j=>if j=k then (ps,acx,bd) else Olc j,Omb⟩
 have hsame:(⟨Ow,OX,Of,Og,none,Okv,Olv,Odv,Olc,Omb⟩:bZ).same O':=⟨rfl,rfl,rfl,rfl,rfl⟩;have hcomp : ∀ e,noK k e=true→sM ⟨Ow,OX,Of,Og,none,Okv,Olv,Odv,Olc,Omb⟩ O' e∧sM O' ⟨Ow,OX,Of,Og,none,Okv,Olv,Odv,Olc,Omb⟩ e:=fun e he=>by
  cases e with
  | kept j ds => have:j≠k:=by simpa [noK] using he
                 simp [sM,O',this]
  | loop j => have:j≠k:=by simpa [noK] using he
              simp [sM,O',this]
  | _=>exact ⟨trivial,trivial⟩
 have h0:HOk O' ⟨W0,E.X⟩ β (entL S.H):=(hr.h.below hb0).swap hsame fun id=>.inl ⟨rfl,(hcomp _ (rK hfr (by simp))).1⟩
 let E1:Env:=⟨W1,fun b o=>b=E.w.heap.size+1∨E.X b o⟩
 let β1:bY:=fun j=>if j=idL then some (E.w.heap.size+1) else β j
 have hfrL:β idL=none:=by have:=hr.h.ent idL; rw [hL] at this; exact this
 have hβ:β.le β1:=fun j b hj=>by
  by_cases hji:j=idL
  · subst hji; rw [hfrL] at hj; cases hj
  · simp [β1,hji,hj]
 have hs:Step O' ⟨W0,E.X⟩ E1 (E.w.heap.size+1) :=
  ⟨rfl,rfl,rfl,by simp [E1,W1],by simp [E1,W1,hsz0],.inl (by have:=h0.size; simp only [hsz0] at this; exact this),fun j hj _=>heap_alloc_old _ _ hj,fun j o hj=>by simp [E1,hj],fun _ hx=>by have h9:E.w.heap.size+1<W0.heap.size:=dR hx; omega⟩
 have hle:(⟨W0,E.X⟩:Env).le E1:=hs.le (fun o v hx _=>by have:=World.block_lt_of_cell? _ _ hx; simp [hsz0] at this) (fun c e f hx=>by have:=dR hx; simp [hsz0] at this);have hle0:E.le E1:=(qK hb0).trans hle;have hnew:W1.heap[E.w.heap.size+1]? = some (.loop r0):=by have:=World.alloc_heap_new W0 (.loop r0); rwa [hsz0] at this
 have hdef:W1.heap[E.w.heap.size]? = some (.deferred (some [])):=(heap_alloc_old _ _ (by omega)).trans (World.alloc_heap_new E.w _);have hrd:RdL E1 β1 a.tmps.toList (allD N S):=AW hle0 hβ (aAo hr);have h1:HOk O' E1 β1 (entL ((idL,.loop k (allD N S) .ready none)::S.H)):=by
  refine Dd h0 hs hle hβ (id:=idL) (fun j hj=>?_) (fun j hj hh hb=>?_) (by simp [β1]) ?_ (fun _ _=>trivial)
  · left; exact ⟨by show look _ _ _=_; rw [aV,Al (Ne.symm hj)]; rfl,by simp [β1,hj]⟩
  · have hh':(look (defE j) j ((idL,.loop k (allD N S) .ready none)::S.H)).held=true:=hh;rw [aV,Al (Ne.symm hj)] at hh';have:=h0.lt (j:=j) hh' hb;simp [hsz0] at this
  · show aGQ O' E1 β1 _ (look _ _ _)
    rw [aV,Ao rfl];exact ⟨r0,hnew,fun o=>.inl rfl,by simp [O',r0],by simp [O',r0],by simp [O',r0],rfl,rfl,by simp [O'],hrd⟩
 have h2:HOk O' E1 β1 (entL ((idK,.kept k (allD N S))::(idL,.loop k (allD N S) .ready none)::S.H)):=by
  refine h1.addK (by simpa [O'] using hrd) fun b hb=>?_
  have hb':b∈E.w.heap.size::bs:=by simpa [O'] using hb
  rcases Au.1 hb' with rfl | hb'
  · exact hdef
  · have hx:=(hall b hb').2;have hlt:=dR hx;exact ((heap_alloc_old W0 _ (by omega)).trans (heap_alloc_old E.w _ hlt)).trans hx
 have hargs:RdL E1 β1 (Value.func (.yield (E.w.heap.size+1)) #[] #[]::vs) (.yld idL::caps):=.cons (.yld _ _ _ (by simp [β1])) (AW hle0 hβ hcaps);have hlen:=hargs.length
 have hrel:Rel O' fn.ntmps ⟨(By (D.yld idL::caps).length).zip (.yld idL::caps),(idK,.kept k (allD N S))::(idL,.loop k (allD N S) .ready none)::S.H⟩ E1 β1
  { tmps:=(#[Value.func (.yield (E.w.heap.size+1)) #[] #[]]++vs.toArray)++BL (fn.ntmps-(#[Value.func (.yield (E.w.heap.size+1)) #[] #[]]++vs.toArray).size) undef,defers:=[] }:=by
  refine ⟨by simp at hlen ⊢; omega,uJ.nil,h2,fun s=>?_⟩;have:=yJ hargs (fn.ntmps-(#[Value.func (.yield (E.w.heap.size+1)) #[] #[]]++vs.toArray).size) s
  show Rd E1 β1 _ (look _ _ _)
  simpa using this
 refine callsIn_wide (n:=0) |>.2 (qV (E:=E1) (O:=O') hf hb rfl hfoot hrel (h O' ⟨rfl,hfoot,fun j hj=>by
  have h1:j≠k:=fun e=>hj (by simp [e])
  have h2:j ∉ L:=fun e=>hj (by simp [e])
  show (if j=k then _ else Odv j)=[]
  rw [Al h1]; exact hdv j h2⟩ (by simp [O'])) ?_)
 rintro e S2 E2 β2 a2 hr2 ⟨he,iL,iK,dl,ds',st,pend,hentL,hst,hentK,hfree,S3,ρ3,hw3,hQ⟩;refine ⟨he,.tuple #[],by simp [results,hres],?_⟩;obtain ⟨r,g1,g2,g3,g4,g5,g6,g7,g8⟩:=hr2.h.turn (H:=S2.H) hentL;obtain ⟨g9,g10⟩:=g8 .exhausted pend;have hlk:O'.lv k=E.w.heap.size+1:=by simp [O']
 rw [hlk] at g1 g9 g10;have hkept:=hr2.h.ent iK;rw [hentK] at hkept;obtain ⟨k1,k2⟩:=hkept;have hkv:O'.kv k=a.tmps.toList:=by simp [O']
 have hdk:O'.dv k=E.w.heap.size::bs:=by simp [O']
 rw [hkv] at k1; rw [hdk] at k2;have hds':ds'.length=N:=by rw [←k1.length]; simpa using hr.n
 let E3:Env:=⟨E2.w.putObj (E.w.heap.size+1) (.loop { r with state:=.exhausted,pending:=pend }),E2.X⟩
 have hrel3:Rel ⟨Ow,OX,Of,Og,none,Okv,Olv,Odv,Olc,Omb⟩ N ⟨(By N).zip ds',(iK,.none)::(iL,.none)::S2.H⟩ E3 β2 { a with defers:={ target:=.collected E.w.heap.size,args:=#[] }::a.defers }:=by
  refine ⟨hr.n,⟨E.w.heap.size::bs,by rw [Ai,←hbs],?_,?_⟩,?_,fun s=>?_⟩
  · rw [Bl];exact ⟨fun hm=>BU _ (dR (hall _ hm).2),hnd⟩
  · intro b hb;refine ⟨⟨?_,?_⟩,(World.putObj_heap_other ?_).trans (k2 b hb)⟩
    rotate_left
    · rcases Au.1 hb with rfl | hb
      · exact hdvn
      · exact (hall b hb).1.2
    rotate_left
    · rcases Au.1 hb with rfl | hb
      · exact BG hr.h.mbs hr.h.size
      · exact (hall b hb).1.1
    · rintro rfl; have:=k2 _ hb; rw [g1] at this; cases this
  · refine FX (O:=O') (H:=entL ((iL,.loop k dl .exhausted pend)::S2.H)) g10 ⟨rfl,rfl,rfl,rfl,rfl⟩ fun id=>?_
    show (look _ _ _=look _ _ _∧_)∨_
    simp only [aV]
    by_cases h5:iK=id
    · right; show look _ _ _=_; rw [aV,Ao h5]
    · by_cases h6:iL=id
      · right; show look _ _ _=_; rw [aV,Al h5,aV,Ao h6]
      · left;rw [Al h5,Al h6];refine ⟨by first | rfl | rw [Al h6],(hcomp _ ?_).2⟩
        show noK k (look _ _ _)=true
        rw [aV,Al h6];exact rK hfree (by simp; exact ⟨Ne.symm h6,Ne.symm h5⟩)
  · have:=uN (AW g9 (bY.le.refl _) k1) s;rw [hds'] at this;exact this
 refine ⟨pend,E3.w,?_,?_⟩
 · have:=run_endLoop (P:=P) (l:=E.w.heap.size+1) g1 (by rw [g6]; exact hst);rw [g7] at this;exact this
 · cases pend with
   | none=>obtain ⟨β4,hr4⟩:=hrel3.weak hw3; exact ⟨_,E3,β4,rfl,hr4,hQ⟩
   | some c=>obtain ⟨β4,hr4⟩:=hrel3.weak hw3; exact hQ E3 β4 _ hr4

theorem mY{ops:Array Oper}{o:Oper}{l:List Oper}{xs:List Am}{ts:Array At}{f:Ce}{fn:Func}{c:Code}{t:Nat}{ds:List D}{L:List Nat}(k2 idK:Nat)(hg:rC o=true)(ho:o.op = .call { callee:=.value (.func f),args:=xs.toArray,argTypes:=ts })(hd:o.dst=some t)(ht:t<N)(hc:bB P f)(hf:P.funcs[f]? = some fn)(hb:fn.body=some c)(hxs:SVs S xs ds){N':Nat}(hn:fn.ntmps=N')(hN:ds.length≤N')(hfr:aDz k2 [] S.H=true)(hO:O.SemiL L)(h:∀ O',O'.SemiL (k2::L)→IWP P O' N' c ⟨(By ds.length).zip ds,(idK,.kept k2 (allD N S))::S.H⟩ (inlQ P O N t k2 fn ops l Q)):ILS P O N ops (o::l) S Q:=by
 subst hn;obtain ⟨Ow,OX,Of,Og,Or,Okv,Olv,Odv,Olc,Omb⟩:=O;obtain ⟨hro,hfoot,hdv⟩:=hO;simp only at hro hfoot hdv;subst hro;intro E β a hr;obtain ⟨bs,hbs,hnd,hall⟩:=hr.nd;refine wpListIn_plain (sH hg).1 fun K hK'=>aFk _ (sH hg).2 ?_
 have hrun:(execOp a.eval o).run P E.w = .ok (.enter f (xs.map a.eval).toArray) E.w:=by
  simp [execOp,ho,resolve,Deferred.ofValue,Act.eval,invoke,kB hc]
 unfold Oper.wp;rw [hrun];simp only [Oper.upon,hd]
 let O':bZ:=⟨Ow,OX,Of,Og,none,fun j=>if j=k2 then a.tmps.toList else Okv j,Olv,fun j=>if j=k2 then bs else Odv j,Olc,Omb⟩
 have hcomp:∀ e,noK k2 e=true→sM ⟨Ow,OX,Of,Og,none,Okv,Olv,Odv,Olc,Omb⟩ O' e∧sM O' ⟨Ow,OX,Of,Og,none,Okv,Olv,Odv,Olc,Omb⟩ e:=fun e he=>by
  cases e with
  | kept j ds => have:j≠k2:=by simpa [noK] using he
                 simp [sM,O',this]
  | loop j=>simp [sM,O']
  | _=>exact ⟨trivial,trivial⟩
 have h0:HOk O' E β (entL S.H):=hr.h.swap ⟨rfl,rfl,rfl,rfl,rfl⟩ fun id=>.inl ⟨rfl,(hcomp _ (rK hfr (by simp))).1⟩
 have h1:HOk O' E β (entL ((idK,.kept k2 (allD N S))::S.H)):=h0.addK (by simpa [O'] using aAo hr) fun c hc=>(hall c (by simpa [O'] using hc)).2
 have hargs:=hxs.rd hr;have hlen:=hargs.length;have hrel:Rel O' fn.ntmps ⟨(By ds.length).zip ds,(idK,.kept k2 (allD N S))::S.H⟩ E β { tmps:=(xs.map a.eval).toArray++BL (fn.ntmps-(xs.map a.eval).toArray.size) undef,defers:=[] }:=by
  refine ⟨by simp at hlen ⊢; omega,uJ.nil,h1,fun s=>?_⟩;have:=yJ hargs (fn.ntmps-(xs.map a.eval).toArray.size) s
  show Rd E β _ (look _ _ _)
  simpa using this
 refine qV (E:=E) (O:=O') hf hb rfl hfoot hrel (h O' ⟨rfl,hfoot,fun j hj=>by
  have h1:j≠k2:=fun e=>hj (by simp [e])
  have h2:j ∉ L:=fun e=>hj (by simp [e])
  show (if j=k2 then _ else Odv j)=[]
  rw [Al h1]; exact hdv j h2⟩) ?_
 rintro e S2 E2 β2 a2 hr2 ⟨he,iK,dk,rs,hres,hentK,hfree,S5,ρ5,hw5,hils⟩;refine ⟨he,?_⟩;obtain ⟨v,hv,hrd⟩:=aIW hr2 hres;have hkept:=hr2.h.ent iK;rw [hentK] at hkept;obtain ⟨k1,k2'⟩:=hkept;have hkv:O'.kv k2=a.tmps.toList:=by simp [O']
 have hdk:O'.dv k2=bs:=by simp [O']
 rw [hkv] at k1; rw [hdk] at k2';have hdk3:dk.length=N:=by rw [←k1.length]; simpa using hr.n
 suffices hrel5:Rel ⟨Ow,OX,Of,Og,none,Okv,Olv,Odv,Olc,Omb⟩ N ⟨(t,retD rs)::(By N).zip dk,(iK,.none)::S2.H⟩ E2 β2 (a.put (some t) v) by
  obtain ⟨β5,hr5⟩:=hrel5.weak hw5;exact ⟨v,hv,hK' _ _ (hils E2 β5 _ hr5)⟩
 refine Rel.set (S:=⟨(By N).zip dk,(iK,.none)::S2.H⟩) ⟨hr.n,⟨bs,hbs,hnd,fun c hc=>⟨(hall c hc).1,k2' c hc⟩⟩,?_,fun s=>?_⟩ ht hrd
 · refine FX (O:=O') (H:=entL S2.H) hr2.h ⟨rfl,rfl,rfl,rfl,rfl⟩ fun id=>?_
   by_cases h5:iK=id
   · right; show look _ _ _=_; rw [aV,Ao h5]
   · left;refine ⟨by show look _ _ _=look _ _ _; rw [aV,Al h5],(hcomp _ ?_).2⟩;exact rK hfree (by simp; exact Ne.symm h5)
 · have:=uN k1 s;rw [hdk3] at this;exact this
def LG(P:Program)(O:bZ)(N:Nat)(c:Code)(Q:Exit→St→Prop)(S:St):Prop :=
 ∀ E β a,Rel O N S E β a→∀ (b:Frame) (k:List Item) (cs:List Frame),b.roundOf=(fen O.round).round→(fen O.round).fn b.fn→(fen O.round).room (cs.length+1+0) →
   ∃ e a' w',(∃ S' E' β',E'.w=w'∧Rel O N S' E' β' a'∧Q e S')∧ArrivesIn (Machine.fenced P (fen O.round)) P (lone (b.atR a (.code c :: .inLoop c::k)) cs E.w) b k cs e a' w'
theorem aFI{c:Code}(h:IWP P O N c S (aCe (LG P O N c Q) Q)):LG P O N c Q S:=by
 intro E β a hr b k cs hro hb hroom;obtain ⟨e,a₁,w₁,⟨S₁,E₁,β₁,rfl,hr₁,hq⟩,harr⟩:=h E β a hr b (.inLoop c::k) cs hro hb hroom;cases e with
 | normal =>
   obtain ⟨e₂,a₂,w₂,hq₂,harr₂⟩:=hq E₁ β₁ a₁ hr₁ b k cs hro hb hroom;exact ⟨e₂,a₂,w₂,hq₂,.of_steps (StepsIn.trans harr (.one (fenced_calm hb hroom rfl) stepR_inLoop)) harr₂⟩
 | exit id=>exact ⟨_,a₁,_,⟨S₁,E₁,β₁,rfl,hr₁,hq⟩,.pass (x:=.inLoop c) rfl (fun _ _=>.inl (by simp)) harr⟩
 | goto l=>exact ⟨_,a₁,_,⟨S₁,E₁,β₁,rfl,hr₁,hq⟩,.pass (x:=.inLoop c) rfl (fun _ _=>.inl (by simp)) harr⟩
 | ret=>exact ⟨_,a₁,_,⟨S₁,E₁,β₁,rfl,hr₁,hq⟩,.pass (x:=.inLoop c) rfl (fun _ _=>.inl (by simp)) harr⟩
 | panic ch=>exact ⟨_,a₁,_,⟨S₁,E₁,β₁,rfl,hr₁,hq⟩,.pass (x:=.inLoop c) rfl (fun _ _=>.inl (by simp)) harr⟩
 | outgrown=>exact ⟨_,a₁,_,⟨S₁,E₁,β₁,rfl,hr₁,hq⟩,.pass (x:=.inLoop c) rfl (fun _ _=>.inl (by simp)) harr⟩
theorem aBb{c:Code}(h:LG P O N c Q S):IWP P O N (.loop c) S Q:=by
 intro E β a hr b k cs hro hb hroom;obtain ⟨e,a',w',hq,harr⟩:=h E β a hr b k cs hro hb hroom;exact ⟨e,a',w',hq,.of_steps (.one (fenced_calm hb hroom rfl) stepR_loop) harr⟩
theorem aFJ{α:Type}{c:Code}(st:α→St)(inv:α→Prop)(m:α→Nat)(a0:α)(ρ0:Nat→Nat)(h0:Weak S (st a0) ρ0)(i0:inv a0)(round:∀ x,inv x→IWP P O N c (st x) (aCe (fun S'=>∃ y ρ,Weak S' (st y) ρ∧inv y∧m y<m x) Q)):LG P O N c Q S:=by
 intro E β a hr b k cs hro hb hroom
 have key:∀ n x E β a,m x=n→inv x→Rel O N (st x) E β a →
  ∃ e a' w',(∃ S' E' β',E'.w=w'∧Rel O N S' E' β' a'∧Q e S')∧ArrivesIn (Machine.fenced P (fen O.round)) P (lone (b.atR a (.code c :: .inLoop c::k)) cs E.w) b k cs e a' w':=by
  intro n
  induction n using Ej with
  | _ n ih =>
    intro x E β a hn hI hr;obtain ⟨e,a₁,w₁,⟨S₁,E₁,β₁,rfl,hr₁,hq⟩,harr⟩:=round x hI E β a hr b (.inLoop c::k) cs hro hb hroom;cases e with
    | normal =>
      obtain ⟨y,ρ,hw,hI₁,hlt⟩:=hq;obtain ⟨β₂,hr₂⟩:=hr₁.weak hw;obtain ⟨e₂,a₂,w₂,hq₂,harr₂⟩:=ih (m y) (hn ▸ hlt) y E₁ β₂ a₁ rfl hI₁ hr₂;exact ⟨e₂,a₂,w₂,hq₂,.of_steps (StepsIn.trans harr (.one (fenced_calm hb hroom rfl) stepR_inLoop)) harr₂⟩
    | exit id=>exact ⟨_,a₁,_,⟨S₁,E₁,β₁,rfl,hr₁,hq⟩,.pass (x:=.inLoop c) rfl (fun _ _=>.inl (by simp)) harr⟩
    | goto l=>exact ⟨_,a₁,_,⟨S₁,E₁,β₁,rfl,hr₁,hq⟩,.pass (x:=.inLoop c) rfl (fun _ _=>.inl (by simp)) harr⟩
    | ret=>exact ⟨_,a₁,_,⟨S₁,E₁,β₁,rfl,hr₁,hq⟩,.pass (x:=.inLoop c) rfl (fun _ _=>.inl (by simp)) harr⟩
    | panic ch=>exact ⟨_,a₁,_,⟨S₁,E₁,β₁,rfl,hr₁,hq⟩,.pass (x:=.inLoop c) rfl (fun _ _=>.inl (by simp)) harr⟩
    | outgrown=>exact ⟨_,a₁,_,⟨S₁,E₁,β₁,rfl,hr₁,hq⟩,.pass (x:=.inLoop c) rfl (fun _ _=>.inl (by simp)) harr⟩
 obtain ⟨β₀,hr₀⟩:=hr.weak h0;exact key _ a0 E β₀ a rfl i0 hr₀
def aGB(l:Nat)(J:St→Prop)(Q:Exit→St→Prop):Exit→St→Prop
 | .goto l',S=>l'=l∧J S
 | e,S=>Q e S
theorem aHg{l:Nat}{J:St→Prop}(h:Q .ret S):aGB l J Q .ret S:=h
theorem lL{b:Frame}{k:List Item}{cs:List Frame}{m:Machine}{c:Code}{e:Exit}{a:Act}{w:World}(hro:b.roundOf=(fen O.round).round)(hb:(fen O.round).fn b.fn)(hr:(fen O.round).room (cs.length+1+0))(he:∀ l,e ≠ .goto l)(h:ArrivesIn (Machine.fenced P (fen O.round)) P m b (.inScope c::k) cs e a w):ArrivesIn (Machine.fenced P (fen O.round)) P m b k cs e a w:=by
 cases e with
 | normal=>exact StepsIn.trans h (.one (fenced_calm hb hr rfl) aCf)
 | exit id =>
   have hx:exitTo id (.inScope c::k)=exitTo id k:=by simp [exitTo]
   exact ⟨fun k' hk=>h.1 k' (by rw [hx]; exact hk),fun hr' hk=>h.2 hr' (by rw [hx]; exact hk)⟩
 | goto l=>exact Ay rfl (he l)
 | ret=>exact h
 | panic ch=>exact h
 | outgrown=>exact h
theorem aB5{α:Type}{c A:Code}(l:Nat)(st:α→St)(inv:α→Prop)(m:α→Nat)(hg:findLabel c l=some (.seq .skip A))(round:∀ x,inv x→IWP P O N A (st x) (aGB l (fun S'=>∃ y ρ,Weak S' (st y) ρ∧inv y∧m y<m x) Q))(h:(∀ S,(∃ y ρ,Weak S (st y) ρ∧inv y)→IWP P O N A S (aGB l (fun S'=>∃ y ρ,Weak S' (st y) ρ∧inv y) Q))→IWP P O N c S (aGB l (fun S'=>∃ y ρ,Weak S' (st y) ρ∧inv y) Q)):IWP P O N (.scope c) S Q:=by
 have hsk:∀ x,inv x→IWP P O N (.seq .skip A) (st x) (aGB l (fun S'=>∃ y ρ,Weak S' (st y) ρ∧inv y∧m y<m x) Q):=fun x hx=>aQ (aR (round x hx))
 have hgo:∀ S,(∃ y ρ,Weak S (st y) ρ∧inv y)→IWP P O N A S (aGB l (fun S'=>∃ y ρ,Weak S' (st y) ρ∧inv y) Q):=by
  rintro S ⟨y,ρ,hw,hy⟩;refine vI ρ hw (vJ (round y hy) fun e S' hq=>?_);cases e with
  | goto l'=>obtain ⟨h1,z,ρ',h2,h3,_⟩:=hq; exact ⟨h1,z,ρ',h2,h3⟩
  | _=>exact hq
 intro E β a hr b k cs hro hb hroom;have hk:gotoIn l (.inScope c::k)=some (.code (.seq .skip A) :: .inScope c::k):=by simp [gotoIn,hg]
 have key:∀ n x E β a,m x=n→inv x→Rel O N (st x) E β a →
  ∃ e a' w',(∃ S' E' β',E'.w=w'∧Rel O N S' E' β' a'∧Q e S')∧ArrivesIn (Machine.fenced P (fen O.round)) P (lone (b.atR a (.code (.seq .skip A) :: .inScope c::k)) cs E.w) b k cs e a' w':=by
  intro n
  induction n using Ej with
  | _ n ih =>
    intro x E β a hn hI hr;obtain ⟨e,a₁,w₁,⟨S₁,E₁,β₁,rfl,hr₁,hq⟩,harr⟩:=hsk x hI E β a hr b (.inScope c::k) cs hro hb hroom;cases e with
    | goto l' =>
      obtain ⟨rfl,y,ρ,hw,hI₁,hlt⟩:=hq;obtain ⟨β₂,hr₂⟩:=hr₁.weak hw;obtain ⟨e₂,a₂,w₂,hq₂,harr₂⟩:=ih (m y) (hn ▸ hlt) y E₁ β₂ a₁ rfl hI₁ hr₂;exact ⟨e₂,a₂,w₂,hq₂,.of_steps (harr.1 _ hk) harr₂⟩
    | normal=>exact ⟨_,a₁,_,⟨S₁,E₁,β₁,rfl,hr₁,hq⟩,lL hro hb hroom (fun _ h=>by cases h) harr⟩
    | exit id=>exact ⟨_,a₁,_,⟨S₁,E₁,β₁,rfl,hr₁,hq⟩,lL hro hb hroom (fun _ h=>by cases h) harr⟩
    | ret=>exact ⟨_,a₁,_,⟨S₁,E₁,β₁,rfl,hr₁,hq⟩,lL (c:=c) hro hb hroom (fun _ h=>by cases h) harr⟩
    | panic ch=>exact ⟨_,a₁,_,⟨S₁,E₁,β₁,rfl,hr₁,hq⟩,lL (c:=c) hro hb hroom (fun _ h=>by cases h) harr⟩
    | outgrown=>exact ⟨_,a₁,_,⟨S₁,E₁,β₁,rfl,hr₁,hq⟩,lL (c:=c) hro hb hroom (fun _ h=>by cases h) harr⟩
 obtain ⟨e,a₁,w₁,⟨S₁,E₁,β₁,rfl,hr₁,hq⟩,harr⟩:=h hgo E β a hr b (.inScope c::k) cs hro hb hroom;have hst:StepsIn (Machine.fenced P (fen O.round)) P (lone (b.atR a (.code (.scope c)::k)) cs E.w) (lone (b.atR a (.code c :: .inScope c::k)) cs E.w):=.one (fenced_calm hb hroom rfl) aEA;cases e with
 | goto l' =>
   obtain ⟨rfl,y,ρ,hw,hI₁⟩:=hq;obtain ⟨β₂,hr₂⟩:=hr₁.weak hw;obtain ⟨e₂,a₂,w₂,hq₂,harr₂⟩:=key (m y) y E₁ β₂ a₁ rfl hI₁ hr₂;exact ⟨e₂,a₂,w₂,hq₂,.of_steps hst (.of_steps (harr.1 _ hk) harr₂)⟩
 | normal=>exact ⟨_,a₁,_,⟨S₁,E₁,β₁,rfl,hr₁,hq⟩,.of_steps hst (lL hro hb hroom (fun _ h=>by cases h) harr)⟩
 | exit id=>exact ⟨_,a₁,_,⟨S₁,E₁,β₁,rfl,hr₁,hq⟩,.of_steps hst (lL hro hb hroom (fun _ h=>by cases h) harr)⟩
 | ret=>exact ⟨_,a₁,_,⟨S₁,E₁,β₁,rfl,hr₁,hq⟩,.of_steps hst (lL (c:=c) hro hb hroom (fun _ h=>by cases h) harr)⟩
 | panic ch=>exact ⟨_,a₁,_,⟨S₁,E₁,β₁,rfl,hr₁,hq⟩,.of_steps hst (lL (c:=c) hro hb hroom (fun _ h=>by cases h) harr)⟩
 | outgrown=>exact ⟨_,a₁,_,⟨S₁,E₁,β₁,rfl,hr₁,hq⟩,.of_steps hst (lL (c:=c) hro hb hroom (fun _ h=>by cases h) harr)⟩
end
end Go.IL
open Go.IL.D renaming refsInL_mono → Cl,renL_bare → CR
open Go.IL.Ent renaming ren → Bh
open List renaming cons_append → BW,drop_append → Dv,take_append → FO
open Nat renaming add_assoc → Ed,one_mul → CL
namespace Go.IL
def mixD{α:Type}(f:Enc0 α)(pre:List D)(xs:List α)(post:List D):List D:=pre++(Ac (xs.map f.d)++post)
section
variable {P:Ba} {O:bZ} {N:Nat} {S S':St} {o:Oper} {t:Nat} {α:Type}
theorem aAF(f:Enc0 α)(pre:List D)(xs:List α)(post:List D):(mixD f pre xs post).length=pre.length+(xs.length*f.sz+post.length):=by
 unfold mixD;rw [AO,AO,f.flat_len]
theorem aG6(f:Enc0 α){pre:List D}(xs:List α)(post:List D){off:Nat}(h:off≤pre.length):(mixD f pre xs post).drop off=pre.drop off++(Ac (xs.map f.d)++post):=by
 unfold mixD;rw [Bn h]
theorem aIm(f:Enc0 α)(pre:List D){xs:List α}{post:List D}{n off k:Nat}(hl:xs.length=n)(ho:off=pre.length+n*f.sz+k):(mixD f pre xs post).drop off=post.drop k:=by
 unfold mixD;have h1:=f.flat_len xs;rw [hl] at h1;rw [ho,Ed,Dv,BY (by omega),Bp,show pre.length+(n*f.sz+k)-pre.length=n*f.sz+k by omega,Dv,BY (by omega),Bp,show n*f.sz+k-(Ac (xs.map f.d)).length=k by omega]
theorem aG7(f:Enc0 α){pre:List D}{xs:List α}{post:List D}{b i k:Nat}{a:α}(hb:pre.length=b)(ha:xs[i]? = some a)(hk:k≤f.sz):∃ q,(mixD f pre xs post).drop (b+(i*f.sz+k))=(f.d a).cells.drop k++q:=by
 obtain ⟨q,hq⟩:=f.drop_at ha k hk;have hlt:=(Aj.1 ha).1;have hle:(i+1)*f.sz≤xs.length*f.sz:=AU _ (by omega);rw [Bw,CL] at hle;refine ⟨q++post,?_⟩;unfold mixD;rw [Dv,BY (by omega),Bp,show b+(i*f.sz+k)-pre.length=i*f.sz+k by omega,Bn (by rw [f.flat_len]; omega),hq,AA]
theorem aG8{f:Enc0 α}{pre post:List D}{xs:List α}{a:α}{b i k size:Nat}(hb:pre.length=b)(ha:xs[i]? = some a)(hn:k+size≤f.sz):b+(i*f.sz+k)+size≤(mixD f pre xs post).length:=by
 have hlt:=(Aj.1 ha).1;have hle:(i+1)*f.sz≤xs.length*f.sz:=AU _ (by omega);rw [Bw,CL] at hle;rw [aAF]; omega
section loads
variable (f:Enc0 α) {T:At} {x:Am} {u:TypeDesc} {z:Ag AG} {size bytes:Nat} {id off:Nat} {e:At} {pre post r cs:List D} {xs:List α} {d:D}
theorem xZ(ho:o.op = .load T x)(hd:o.dst=some t)(ht:t<N)(hu:P.underlying T=some u)(hg:kT P T=false)(hi:TI P T z size bytes)(h1:0<size)(hx:SV S x (.ref id off))(he:S.ent id = .blk e (mixD f pre xs post))(hn:off+size≤pre.length)(hdd:pre.drop off=d::r):IOp P O N o S (S.set t d) :=
 iP ho hd ht hu hg hi h1 hx he (by rw [aAF]; omega) (r:=r++(Ac (xs.map f.d)++post)) (by rw [aG6 f xs post (by omega),hdd]; rfl)
theorem tP(ho:o.op = .load T x)(hd:o.dst=some t)(ht:t<N)(hu:P.underlying T=some u)(hg:kT P T=true)(hi:TI P T z size bytes)(h1:0<size)(hx:SV S x (.ref id off))(he:S.ent id = .blk e (mixD f pre xs post))(hn:off+size≤pre.length)(hdd:(pre.drop off).take size=cs):IOp P O N o S (S.set t (.agg cs)) :=
 nX ho hd ht hu hg hi h1 hx he (by rw [aAF]; omega) (by rw [aG6 f xs post (by omega),AT (by rw [BV]; omega)]; exact hdd)
theorem kR{n k:Nat}(ho:o.op = .load T x)(hd:o.dst=some t)(ht:t<N)(hu:P.underlying T=some u)(hg:kT P T=false)(hi:TI P T z size bytes)(h1:0<size)(hx:SV S x (.ref id off))(he:S.ent id = .blk e (mixD f pre xs post))(hl:xs.length=n)(hof:off=pre.length+n*f.sz+k)(hn:k+size≤post.length)(hdd:post.drop k=d::r):IOp P O N o S (S.set t d) :=
 iP ho hd ht hu hg hi h1 hx he (by rw [aAF,hl]; omega) (by rw [aIm f pre hl hof]; exact hdd)
theorem cW{b i k:Nat}{a:α}(ho:o.op = .load T x)(hd:o.dst=some t)(ht:t<N)(hu:P.underlying T=some u)(hg:kT P T=false)(hi:TI P T z size bytes)(h1:0<size)(hx:SV S x (.ref id (b+(i*f.sz+k))))(he:S.ent id = .blk e (mixD f pre xs post))(hb:pre.length=b)(ha:xs[i]? = some a)(hn:k+size≤f.sz)(hdd:(f.d a).cells.drop k=d::r):IOp P O N o S (S.set t d):=by
 obtain ⟨q,hq⟩:=aG7 (post:=post) f hb ha (show k≤f.sz by omega);exact iP ho hd ht hu hg hi h1 hx he (aG8 hb ha hn) (r:=r++q) (by rw [hq,hdd]; rfl)
theorem aEV{b i k:Nat}{a:α}(ho:o.op = .load T x)(hd:o.dst=some t)(ht:t<N)(hu:P.underlying T=some u)(hg:kT P T=true)(hi:TI P T z size bytes)(h1:0<size)(hx:SV S x (.ref id (b+(i*f.sz+k))))(he:S.ent id = .blk e (mixD f pre xs post))(hb:pre.length=b)(ha:xs[i]? = some a)(hn:k+size≤f.sz)(hdd:((f.d a).cells.drop k).take size=cs):IOp P O N o S (S.set t (.agg cs)):=by
 obtain ⟨q,hq⟩:=aG7 (post:=post) f hb ha (show k≤f.sz by omega);exact nX ho hd ht hu hg hi h1 hx he (aG8 hb ha hn) (by rw [hq,AT (by rw [BV,(f.fl a).1]; omega)]; exact hdd)
end loads
theorem aA7{A Z C:List D}{off:Nat}(h:off+C.length≤A.length):jG (A++Z) off C=jG A off C++Z:=by
 unfold jG;rw [AT (by omega),Bn (by omega)]; simp
theorem vU{A Z C:List D}{off k:Nat}(h:off=A.length+k):jG (A++Z) off C=A++jG Z k C:=by
 unfold jG;rw [h,FO,Cr (by omega),show A.length+k-A.length=k by omega,Dv,BY (by omega),Bp,show A.length+k+C.length-A.length=k+C.length by omega]; simp
section stores
variable (f:Enc0 α) {T:At} {x y:Am} {z:Ag AG} {size bytes:Nat} {id off:Nat} {e:At} {pre pre' post post':List D} {xs zs:List α} {d:D}
theorem aAI(ho:o.op = .store T x y)(hd:o.dst=none)(hi:TI P T z size bytes)(hx:SV S x (.ref id off))(he:S.ent id = .blk e (mixD f pre xs post))(hy:SV S y d)(hb:d.boxable=true)(hsz:d.cells.length=size)(h1:d.cells.all Ee=true)(hn:off+size≤pre.length)(hds:jG pre off d.cells=pre'):IOp P O N o S (S.setE id (.blk e (mixD f pre' xs post))) :=
 dA ho hd hi hx he hy hb hsz h1 (by rw [aAF]; omega) (by unfold mixD; rw [aA7 (by omega),hds])
theorem uT{n k:Nat}(ho:o.op = .store T x y)(hd:o.dst=none)(hi:TI P T z size bytes)(hx:SV S x (.ref id off))(he:S.ent id = .blk e (mixD f pre xs post))(hy:SV S y d)(hb:d.boxable=true)(hsz:d.cells.length=size)(h1:d.cells.all Ee=true)(hl:xs.length=n)(hof:off=pre.length+n*f.sz+k)(hn:k+size≤post.length)(hds:jG post k d.cells=post'):IOp P O N o S (S.setE id (.blk e (mixD f pre xs post'))):=by
 have hfl:=f.flat_len xs;rw [hl] at hfl;exact dA ho hd hi hx he hy hb hsz h1 (by rw [aAF,hl]; omega) (by unfold mixD; rw [vU (A:=pre) (k:=n*f.sz+k) (by omega),vU (k:=k) (by omega),hds])
theorem mO{b i k:Nat}{a a':α}(ho:o.op = .store T x y)(hd:o.dst=none)(hi:TI P T z size bytes)(hx:SV S x (.ref id (b+(i*f.sz+k))))(he:S.ent id = .blk e (mixD f pre xs post))(hy:SV S y d)(hb:d.boxable=true)(hsz:d.cells.length=size)(h1:d.cells.all Ee=true)(hpb:pre.length=b)(ha:xs[i]? = some a)(hn:k+size≤f.sz)(hs:jG (f.d a).cells k d.cells=(f.d a').cells)(hz:xs.set i a'=zs):IOp P O N o S (S.setE id (.blk e (mixD f pre zs post))):=by
 subst hz;have hlt:=(Aj.1 ha).1;have hle:(i+1)*f.sz≤xs.length*f.sz:=AU _ (by omega);rw [Bw,CL] at hle;refine dA ho hd hi hx he hy hb hsz h1 (aG8 hpb ha hn) ?_;unfold mixD;rw [vU (A:=pre) (k:=i*f.sz+k) (by omega),aA7 (by rw [f.flat_len]; omega),f.flat_set (by omega) ha hs]
end stores
theorem dS(f:Enc0 α){T e:At}{len b:Nat}{x y:Am}{xs:List α}{a:α}{k:IntKind}{n:Int}{z:Ag AG}{bytes:Nat}{id:Nat}(ho:o.op = .indexAddr T x y)(hd:o.dst=some t)(ht:t<N)(hu:P.underlying T=some (.array len e))(hi:TI P e z f.sz bytes)(hx:SV S x (.ref id b))(hl:xs.length=len)(hy:SV S y (.int k n))(hn:gix xs n=some a) :
 IOp P O N o S (S.set t (.ref id (b+(n.toNat*f.sz+0)))) :=
 rJ ho hd ht hu hi hx hy (xC hn).1 (hl ▸ (Aj.1 (xC hn).2).1) (by omega)
theorem cL{T:TypeId}{x:Operand}{i:Nat}{fs:Array Field}{F:Field}{z:Ag AG}{size bytes:Nat}{id b j k:Nat}(ho:o.op = .fieldAddr T x i)(hd:o.dst=some t)(ht:t<N)(hu:P.underlying T=some (.struct fs))(hf:fs[i]? = some F)(hi:TI P F.type z size bytes)(hs:0<size)(hx:SV S x (.ref id (b+(j+k)))){k':Nat}(ho':k+F.offset=k'):IOp P O N o S (S.set t (.ref id (b+(j+k')))) :=
 fG ho hd ht hu hf hi hs hx (by omega)
theorem xH{ρ:Nat→Nat}:∀ (l m:List D),BD ρ (l++m)=BD ρ l++BD ρ m
 | [],_=>rfl
 | d::l,m=>by rw [BW,BD,BD,xH l m]; rfl
theorem dD{ρ:Nat→Nat}(f:Enc α)(pre:List D)(xs:List α)(post:List D):BD ρ (mixD f.toEnc0 pre xs post)=mixD f.toEnc0 (BD ρ pre) xs (BD ρ post):=by
 unfold mixD;rw [xH,xH,CR _ (f.noRef xs)]
theorem aEx{p:Nat→Bool}(f:Enc α){pre:List D}{xs:List α}{post:List D}(h1:AE p pre=true)(h2:AE p post=true):AE p (mixD f.toEnc0 pre xs post)=true:=by
 unfold mixD;exact sB h1 (sB (Cl _ (f.noRef xs)) h2)
theorem SubC.refl:∀ l:List D,SubC l l
 | []=>.nil
 | _::l=>.same (SubC.refl l)
theorem SubC.append{l l' m m':List D}(h:SubC l l')(k:SubC m m'):SubC (l++m) (l'++m'):=by
 induction h with
 | nil=>exact k
 | same _ ih=>exact .same ih
 | nilg _ ih=>exact .nilg ih
 | nilo _ ih=>exact .nilo ih
 | nils _ ih=>exact .nils ih
 | gsl _ ih=>exact .gsl ih
theorem EntW.mix{ρ:Nat→Nat}{id:Nat}{e:TypeId}(f:Enc α){pre pre' post post':List D}{xs:List α}(h:S.ent (ρ id) = .blk e (mixD f.toEnc0 pre' xs post'))(h1:SubC pre' (BD ρ pre))(h2:SubC post' (BD ρ post))(r1:AE S'.okn pre=true)(r2:AE S'.okn post=true):EntW S S' ρ id (.blk e (mixD f.toEnc0 pre xs post)) :=
 .sub h (by rw [dD]; exact h1.append ((SubC.refl _).append h2)) (aEx f r1 r2)
theorem SubC.of_eq{l l':List D}(h:l=l'):SubC l l':=h ▸ SubC.refl l
theorem kS(f:Enc α){ρ:Nat→Nat}{i:Nat}{e:At}{pre pre' post post':List D}{xs:List α}(h:S.ent i = .blk e (mixD f.toEnc0 pre' xs post'))(h1:pre'=BD ρ pre)(h2:post'=BD ρ post):S.ent i=(Ent.blk e (mixD f.toEnc0 pre xs post)).ren ρ:=by
 rw [h,Bh,dD,h1,h2]
theorem cR(f:Enc α){p:Nat→Bool}{e:At}{pre post:List D}{xs:List α}(h1:AE p pre=true)(h2:AE p post=true):(Ent.blk e (mixD f.toEnc0 pre xs post)).refsIn p=true:=aEx f h1 h2
section
variable {Q:Exit→St→Prop}
end
theorem aDj{β:Type}{z:β}{j:Nat}{f:Nat→β}{rest:List (Nat×β)}:∀ {V:List (Nat×β)},(∀ x∈V,f x.1=x.2)→(j ∉ V.map (·.1)→look z j rest=f j)→look z j (V++rest)=f j
 | [],_,h=>h (by simp)
 | x::V,hV,h=>by
   obtain ⟨i,e⟩:=x;rw [BW,aV]
   by_cases hi:i=j
   · subst hi; rw [Ao rfl]; exact (hV (i,e) (by simp)).symm
   · rw [Al hi]; exact aDj (fun x hx=>hV x (by simp [hx])) (fun hn=>h (by simpa [Ne.symm hi] using hn))
theorem aDi{β:Type}{z:β}{j:Nat}{rest:List (Nat×β)}:∀ {V:List (Nat×β)},j ∉ V.map (·.1)→look z j (V++rest)=look z j rest
 | [],_=>rfl
 | (i,e)::V,h=>by
   rw [BW,aV,Al (fun hi=>h (by simp [hi]))];exact aDi (fun hm=>h (by simp at hm ⊢; exact .inr hm))
theorem fW{f:FuncId}{xs:List Am}{ts:Array At}{ds ds':List D}{r r':D}{H0 H1 V:List (Nat×Ent)}(k:Nat)(A:List Nat)(ho:o.op = .call { callee:=.value (.func f),args:=xs.toArray,argTypes:=ts })(hd:o.dst=some t)(ht:t<N)(hc:bB P f)(hx:SVs S xs ds')(hds:BD (sig k A) ds=ds')(hp:AE (fT A) ds=true)(hk:AZ (k+0) 1000=true)(hh:HandM S k A H0)(hf:FnH P f ds H0 r H1)(hrr:r.ren (sig k A)=r')(hrp:r.refsIn (tT 0 A)=true)(hH1:∀ x∈H1,tT 0 A x.1=true∧x.2.refsIn (tT 0 A)=true)(hV:(H1.map fun x=>(sig k A x.1,x.2.ren (sig k A)))=V)(hE:∀ x∈V,S.ent x.1=x.2)(hW:(H0.map fun x=>sig k A x.1).all (fun i=>(V.map (·.1)).contains i)=true):IOp P O N o S (S.set t r'):=by
 refine (tR k 0 A ho hd ht hc hx hds hp hk (by simp) hh hf hrr hrp hH1 rfl).to fun E β a hr=>hr.same (fun s=>rfl) fun j=>?_
 show S.ent j=look (defE j) j (((H1.map fun x=>(sig k A x.1,x.2.ren (sig k A)))++(H0.map fun x=>(sig k A x.1,Ent.none)))++S.H)
 rw [hV,AA];refine (aDj (f:=S.ent) hE fun hn=>?_).symm;rw [aDi (fun hm=>hn ?_)]
 · rfl
 · obtain ⟨x,hx,rfl⟩:=Ak.1 hm;obtain ⟨y,hy,rfl⟩:=Ak.1 hx;have:=Bb.1 hW (sig k A y.1) (Ak.2 ⟨y,hy,rfl⟩);simpa using this
end
end Go.IL
namespace Go.IL
def ndB:List Nat→Bool
 | []=>true
 | a::l=>!(l.contains a)&&ndB l
theorem nd_r{l:List Nat}(h:ndB l=true):l.Nodup:=by
 induction l with
 | nil=>exact .nil
 | cons a l ih=>simp only [ndB,Bool.and_eq_true,Bool.not_eq_true'] at h; exact List.nodup_cons.2 ⟨by simpa using h.1,ih h.2⟩
theorem wkA{p:Prop}(h:p:=by repeat' (first | exact .nil | refine .cons ?_ ?_ | exact .kept rfl rfl rfl | exact .loop rfl rfl rfl | exact EntW.lst rfl | exact EntW.mix _ rfl (SubC.of_eq rfl) (SubC.of_eq rfl) rfl rfl | exact .blk rfl rfl rfl | exact .nilb rfl | exact EntW.mpL _ rfl | exact .sub rfl (.nilo .nil) rfl | exact .tail rfl | exact .nils rfl)):p:=h
theorem wkS{p:Prop}(h:p:=by repeat' (first | exact .nil | exact .sames rfl rfl | refine .s rfl rfl ?_ | refine .cons (.nilo rfl) ?_)):p:=h
theorem wkU{p:Prop}(h:p:=by exact ⟨wkS,wkA,nd_r rfl,fun i hi=>by first | rfl | (show (if _ then _ else _)=_; (repeat' split) <;> omega)⟩):p:=h
end Go.IL
open Prod renaming snd → Dg
open _root_ renaming congrArg → AH
namespace Go.IL
section
variable {P:Ba} {O:bZ} {N:Nat} {S S':St} {o:Oper} {t:Nat} {Q:Exit→St→Prop}
theorem gG{ops:Array Oper}{l:List Oper}{j tj:Nat}{want b:Bool}{d:D}(h:(o.guard,(ops[j]?).bind (·.dst),S.get tj,o.dst,vH o.op,AZ (t+1) N)=(some (j,want),some tj,.bool b,some t,true,true))(x:(b == want)=true→IOp P O N o S (S.set t d))(k:ILS P O N ops l (S.set t (.cnd (b == want) d)) Q):ILS P O N ops (o::l) S Q:=by
 simp only [Prod.mk.injEq] at h;obtain ⟨h1,h2,h3,h4,h5,h6⟩:=h;exact zG h1 h2 (.one h3) (by rw [h4,h5]) (lb h6) x k
theorem tFa{T:TypeId}{x:Operand}{i:Nat}{fs:Array Field}{F:Field}{z:Ag AG}{size bytes:Nat}{id off:Nat}(off':Nat)(hu:P.underlying T=some (.struct fs))(h:(o.op,o.dst,AZ (t+1) N,fs[i]?)=(.fieldAddr T x i,some t,true,some F))(hi:TI P F.type z size bytes)(h2:(AZ (0+1) size,S.op x,off+F.offset)=(true,.ref id off,off')):IOp P O N o S (S.set t (.ref id off')):=by
 simp only [Prod.mk.injEq] at h h2;exact faR off' h.1 h.2.1 h.2.2.1 hu h.2.2.2 hi (lb h2.1) h2.2.1 h2.2.2
theorem tLd{T:TypeId}{x:Operand}{u:TypeDesc}{z:Option AG}{size bytes:Nat}{id off:Nat}{e:At}{ds r:List D}{d:D}(hu:P.underlying T=some u)(hg:kT P T=false)(hi:TI P T z size bytes)(h:(o.op,o.dst,AZ (t+1) N,AZ (0+1) size,S.op x,S.ent id,AZ (off+size) ds.length,ds.drop off)=(.load T x,some t,true,true,.ref id off,.blk e ds,true,d::r)):IOp P O N o S (S.set t d):=by
 simp only [Prod.mk.injEq] at h;exact iP h.1 h.2.1 (lb h.2.2.1) hu hg hi (lb h.2.2.2.1) (svR h.2.2.2.2.1) h.2.2.2.2.2.1 (nle h.2.2.2.2.2.2.1) h.2.2.2.2.2.2.2
theorem tLc{T:TypeId}{x:Operand}{u:TypeDesc}{z:Option AG}{size bytes:Nat}{id off:Nat}{e:At}{ds r:List D}{d:D}{b:Bool}(hu:P.underlying T=some u)(hg:kT P T=false)(hi:TI P T z size bytes)(h:(o.op,o.dst,AZ (t+1) N,AZ (0+1) size,S.op x,S.ent id,AZ (off+size) ds.length,ds.drop off)=(.load T x,some t,true,true,.cnd b (.ref id off),.blk e ds,true,d::r))(hb:b=true):IOp P O N o S (S.set t d):=by
 simp only [Prod.mk.injEq] at h;exact iP h.1 h.2.1 (lb h.2.2.1) hu hg hi (lb h.2.2.2.1) (svcR h.2.2.2.2.1 hb) h.2.2.2.2.2.1 (nle h.2.2.2.2.2.2.1) h.2.2.2.2.2.2.2
theorem tSt{T:TypeId}{x y:Am}{z:Ag AG}{size bytes:Nat}{id off:Nat}{e:At}{ds:List D}(c ds':List D)(hi:TI P T z size bytes)(h:(o.op,o.dst,S.op x,S.ent id,S.op y,(D.agg c).boxable,(D.agg c).cells.length,(D.agg c).cells.all Ee,AZ (off+size) ds.length,jG ds off (D.agg c).cells)=(.store T x y,none,.ref id off,.blk e ds,.agg c,true,size,true,true,ds')):IOp P O N o S (S.setE id (.blk e ds')):=by
 simp only [Prod.mk.injEq] at h;exact stA c ds' hi h.1 h.2.1 h.2.2.1 h.2.2.2.1 h.2.2.2.2.1 h.2.2.2.2.2.1 h.2.2.2.2.2.2.1 h.2.2.2.2.2.2.2.1 (nle h.2.2.2.2.2.2.2.2.1) h.2.2.2.2.2.2.2.2.2
theorem tLr{T:TypeId}{x:Operand}{u:TypeDesc}{z:Option AG}{size bytes:Nat}{id off:Nat}{e:At}{ds:List D}(cs:List D)(l:LA P T u z size bytes true)(h:(o.op,o.dst,AZ (t+1) N,S.op x,S.ent id,AZ (off+size) ds.length,(ds.drop off).take size)=(.load T x,some t,true,.ref id off,.blk e ds,true,cs)):IOp P O N o S (S.set t (.agg cs)):=by
 simp only [Prod.mk.injEq] at h;exact lra cs l h.1 h.2.1 h.2.2.1 h.2.2.2.1 h.2.2.2.2.1 (nle h.2.2.2.2.2.1) h.2.2.2.2.2.2
theorem tAs{x:Operand}(d:D)(h:(o.op,o.dst,Nat.ble (t+1) N,S.op x)=(.assign x,some t,true,d)):IOp P O N o S (S.set t d):=by
 simp only [Prod.mk.injEq] at h;exact bH h.1 h.2.1 (lb h.2.2.1) (sv h.2.2.2)
theorem tBx{e:TypeId}{x:Operand}{cs:List D}(c:List D)(id:Nat)(h:(o.op,o.dst,AZ (t+1) N,S.ent id,S.op x,(D.agg c).boxable,(D.agg c).cells)=(.box e x,some t,true,.fresh,.agg c,true,cs)):IOp P O N o S ((S.setE id (.blk e cs)).set t (.ref id 0)):=by
 simp only [Prod.mk.injEq] at h;exact lU id h.1 h.2.1 (lb h.2.2.1) h.2.2.2.1 (svA c h.2.2.2.2.1) h.2.2.2.2.2.1 h.2.2.2.2.2.2
theorem tI{x:Operand}{k:IntKind}{n:Int}(h:(o.op,o.dst,Nat.ble (t+1) N,S.op x)=(.move x,some t,true,.int k n)):IOp P O N o S (S.set t (.int k n)):=by
 simp only [Prod.mk.injEq] at h;exact mvI h.1 h.2.1 h.2.2.1 h.2.2.2
theorem tB{x:Operand}{n:Bool}(h:(o.op,o.dst,Nat.ble (t+1) N,S.op x)=(.move x,some t,true,.bool n)):IOp P O N o S (S.set t (.bool n)):=by
 simp only [Prod.mk.injEq] at h;exact mvB h.1 h.2.1 h.2.2.1 h.2.2.2
theorem tAI{x:Operand}{k:IntKind}{n:Int}(h:(o.op,o.dst,Nat.ble (t+1) N,S.op x)=(.assign x,some t,true,.int k n)):IOp P O N o S (S.set t (.int k n)):=by
 simp only [Prod.mk.injEq] at h;exact asI h.1 h.2.1 h.2.2.1 h.2.2.2
theorem tAB{x:Operand}{n:Bool}(h:(o.op,o.dst,Nat.ble (t+1) N,S.op x)=(.assign x,some t,true,.bool n)):IOp P O N o S (S.set t (.bool n)):=by
 simp only [Prod.mk.injEq] at h;exact asB h.1 h.2.1 h.2.2.1 h.2.2.2
theorem tMv{x:Operand}(d:D)(h:(o.op,o.dst,Nat.ble (t+1) N,S.op x)=(.move x,some t,true,d)):IOp P O N o S (S.set t d):=by
 simp only [Prod.mk.injEq] at h;exact bM h.1 h.2.1 (lb h.2.2.1) (sv h.2.2.2)
theorem tEx{x:Operand}{i:Nat}{cs:List D}{d:D}(h:(o.op,o.dst,AZ (t+1) N,S.op x,cs[i]?)=(.extract x i,some t,true,.tuple cs,some d)):IOp P O N o S (S.set t d):=by
 simp only [Prod.mk.injEq] at h;exact fV h.1 h.2.1 (lb h.2.2.1) (sv h.2.2.2.1) h.2.2.2.2
theorem tCm{op:BinOp}{xt yt:At}{x y:Am}{k:IntKind}{a b:Int}{c c':Bool}(h:(o.op,o.dst,AZ (t+1) N,S.op x,S.op y,int2 op k a b)=(.binOp op xt x y yt,some t,true,.int k a,.int k b,some (.bool c)))(hc:c=c'):IOp P O N o S (S.set t (.bool c')):=by
 simp only [Prod.mk.injEq] at h;exact fK h.1 h.2.1 (lb h.2.2.1) (svI h.2.2.2.1) (svI h.2.2.2.2.1) h.2.2.2.2.2 hc
theorem tCg{op:BinOp}{xt yt:At}{x y:Am}{k:IntKind}{a b:Int}{c c' g:Bool}(h:(o.op,o.dst,AZ (t+1) N,S.op x,S.op y,int2 op k a b)=(.binOp op xt x y yt,some t,true,.cnd g (.int k a),.int k b,some (.bool c)))(hb:g=true)(hc:c=c'):IOp P O N o S (S.set t (.bool c')):=by
 simp only [Prod.mk.injEq] at h;exact fK h.1 h.2.1 (lb h.2.2.1) (svcI h.2.2.2.1 hb) (svI h.2.2.2.2.1) h.2.2.2.2.2 hc
theorem tCh{op:BinOp}{xt yt:At}{x y:Am}{k:IntKind}{a b:Int}{c c' g:Bool}(h:(o.op,o.dst,AZ (t+1) N,S.op x,S.op y,int2 op k a b)=(.binOp op xt x y yt,some t,true,.cnd g (.int k a),.cnd g (.int k b),some (.bool c)))(hb:g=true)(hc:c=c'):IOp P O N o S (S.set t (.bool c')):=by
 simp only [Prod.mk.injEq] at h;exact fK h.1 h.2.1 (lb h.2.2.1) (svcI h.2.2.2.1 hb) (svcI h.2.2.2.2.1 hb) h.2.2.2.2.2 hc
theorem tOr{c x y:Am}{b z r:Bool}(h:(o.op,o.dst,AZ (t+1) N,S.op c,S.op x,S.op y)=(.pick c x y,some t,true,.bool b,.bool true,.cnd (b == false) (.bool z)))(hr:(b||z)=r):IOp P O N o S (S.set t (.bool r)):=by
 simp only [Prod.mk.injEq] at h;exact aAJ h.1 h.2.1 (lb h.2.2.1) (svB h.2.2.2.1) h.2.2.2.2.1 h.2.2.2.2.2 hr
theorem tAn{c x y:Am}{b z r:Bool}(h:(o.op,o.dst,AZ (t+1) N,S.op c,S.op x,S.op y)=(.pick c x y,some t,true,.bool b,.cnd (b == true) (.bool z),.bool false))(hr:(b&&z)=r):IOp P O N o S (S.set t (.bool r)):=by
 simp only [Prod.mk.injEq] at h;exact lV h.1 h.2.1 (lb h.2.2.1) (svB h.2.2.2.1) h.2.2.2.2.1 h.2.2.2.2.2 hr
theorem dMv{ops:Array Oper}{i:Nat}{S0:St}{rs ri:List Nat}{s:Nat}{d:D}(h:(ops[i]?,rC o,o.op,o.dst,AZ (t+1) N,rs.elem s,S0.get s)=(some o,true,.move (.tmp s),some t,true,true,d)):LOp P O N ops i S0 ⟨rs,ri,[(t,d)],[]⟩:=by
 simp only [Prod.mk.injEq] at h;exact lop h.1 h.2.1 fun S hA=>bM h.2.2.1 h.2.2.2.1 (lb h.2.2.2.2.1) (sv (agr hA h.2.2.2.2.2.1 h.2.2.2.2.2.2))
theorem dFa{ops:Array Oper}{i:Nat}{S0:St}{rs ri:List Nat}{T:At}{s:Nat}{k:Nat}{fs:Array Field}{F:Field}{z:Ag AG}{size bytes:Nat}{id off:Nat}(off':Nat)(hu:P.underlying T=some (.struct fs))(h:(ops[i]?,rC o,o.op,o.dst,AZ (t+1) N,fs[k]?)=(some o,true,.fieldAddr T (.tmp s) k,some t,true,some F))(hi:TI P F.type z size bytes)(h2:(AZ (0+1) size,rs.elem s,S0.get s,off+F.offset)=(true,true,.ref id off,off')):LOp P O N ops i S0 ⟨rs,ri,[(t,.ref id off')],[]⟩:=by
 simp only [Prod.mk.injEq] at h h2;exact lop h.1 h.2.1 fun S hA=>fG h.2.2.1 h.2.2.2.1 (lb h.2.2.2.2.1) hu h.2.2.2.2.2 hi (lb h2.1) (sv (agr hA h2.2.1 h2.2.2.1)) h2.2.2.2
theorem dLd{ops:Array Oper}{i:Nat}{S0:St}{rs ri:List Nat}{T:At}{s:Nat}{u:TypeDesc}{z:Ag AG}{size bytes:Nat}{id off:Nat}{e:At}{ds r:List D}{d:D}(hu:P.underlying T=some u)(hg:kT P T=false)(hi:TI P T z size bytes)(h:(ops[i]?,rC o,o.op,o.dst,AZ (t+1) N,AZ (0+1) size,rs.elem s,S0.get s,ri.elem id,S0.ent id,AZ (off+size) ds.length,ds.drop off)=(some o,true,.load T (.tmp s),some t,true,true,true,.ref id off,true,.blk e ds,true,d::r)):LOp P O N ops i S0 ⟨rs,ri,[(t,d)],[]⟩:=by
 simp only [Prod.mk.injEq] at h;obtain ⟨h1,h2,h3,h4,h5,h6,h7,h8,h9,h10,h11,h12⟩:=h;exact lop h1 h2 fun S hA=>iP h3 h4 (lb h5) hu hg hi (lb h6) (sv (agr hA h7 h8)) (agi hA h9 h10) (nle h11) h12
theorem dLa{ops:Array Oper}{i:Nat}{S0:St}{rs ri:List Nat}{T:At}{s:Nat}{u:TypeDesc}{z:Ag AG}{size bytes:Nat}{id off:Nat}{e:At}{ds cs:List D}(hu:P.underlying T=some u)(hg:kT P T=true)(hi:TI P T z size bytes)(h:(ops[i]?,rC o,o.op,o.dst,AZ (t+1) N,AZ (0+1) size,rs.elem s,S0.get s,ri.elem id,S0.ent id,AZ (off+size) ds.length,(ds.drop off).take size)=(some o,true,.load T (.tmp s),some t,true,true,true,.ref id off,true,.blk e ds,true,cs)):LOp P O N ops i S0 ⟨rs,ri,[(t,.agg cs)],[]⟩:=by
 simp only [Prod.mk.injEq] at h;obtain ⟨h1,h2,h3,h4,h5,h6,h7,h8,h9,h10,h11,h12⟩:=h;exact lop h1 h2 fun S hA=>nX h3 h4 (lb h5) hu hg hi (lb h6) (sv (agr hA h7 h8)) (agi hA h9 h10) (nle h11) h12
theorem dSt{ops:Array Oper}{i:Nat}{S0:St}{rs ri:List Nat}{T:At}{s v:Nat}{z:Ag AG}{size bytes:Nat}{id off:Nat}{e:At}{ds ds':List D}(c:List D)(hi:TI P T z size bytes)(h:(ops[i]?,rC o,o.op,o.dst,rs.elem s,S0.get s,ri.elem id,S0.ent id,rs.elem v,S0.get v,(D.agg c).boxable,(D.agg c).cells.length,(D.agg c).cells.all Ee,AZ (off+size) ds.length,jG ds off (D.agg c).cells)=(some o,true,.store T (.tmp s) (.tmp v),none,true,.ref id off,true,.blk e ds,true,.agg c,true,size,true,true,ds')):LOp P O N ops i S0 ⟨rs,ri,[],[(id,.blk e ds')]⟩:=by
 simp only [Prod.mk.injEq] at h;obtain ⟨h1,h2,h3,h4,h5,h6,h7,h8,h9,h10,h11,h12,h13,h14,h15⟩:=h;exact lop h1 h2 fun S hA=>dA h3 h4 hi (sv (agr hA h5 h6)) (agi hA h7 h8) (sv (agr hA h9 h10)) h11 h12 h13 (nle h14) h15
theorem gD{ops:Array Oper}{i:Nat}{S0:St}{rs ri:List Nat}{d:D}{j tj:Nat}{want b:Bool}(h:(ops[i]?,o.guard,(ops[j]?).bind (·.dst),o.dst,vH o.op,AZ (t+1) N,rs.elem tj,S0.get tj)=(some o,some (j,want),some tj,some t,true,true,true,.bool b))(x:∀ S,vR ⟨rs,ri,[(t,.cnd (b == want) d)],[]⟩ S S0→(b == want)=true→IOp P O N o S (S.set t d)):LOp P O N ops i S0 ⟨rs,ri,[(t,.cnd (b == want) d)],[]⟩:=by
 simp only [Prod.mk.injEq] at h;obtain ⟨h1,h2,h3,h4,h5,h6,h7,h8⟩:=h;exact lopg h1 h2 h3 (by rw [h4,h5]) (lb h6) (fun S hA=>grd1 hA h7 h8) x
theorem aP{α:Type}{c:Operand}{x y:Code}{b:Bool}{A B r:α}(h:(bif b then A else B)=r)(hc:S.op c = .bool b)(h1:A=r→IWP P O N x S Q)(h2:B=r→IWP P O N y S Q):IWP P O N (.cond c x y) S Q :=
 mX hc (fun k=>h1 (aCA h k)) (fun k=>h2 (aBv h k))
theorem eoo{α β ρ:Type}{e:Ag α}{f:α→Ag β}{q:α→β→Ag ρ}{r:ρ}(h:bno (e) (fun x=>bno (f x) (q x))=some r):∃ x,e=some x∧∃ y,f x=some y∧q x y=some r:=by
 obtain ⟨x,h0,h⟩:=bS h;obtain ⟨y,h1,h⟩:=bS h;exact ⟨x,h0,y,h1,h⟩
theorem eod{α β ρ:Type}{e:Ag α}{f:α→β}{q:α→β→Ag ρ}{r:ρ}(h:bno (e) (fun x=>bnd (f x) (q x))=some r):∃ x,e=some x∧∃ y,f x=y∧q x y=some r:=by
 obtain ⟨x,h0,h⟩:=bS h;obtain ⟨y,h1,h⟩:=bN h;exact ⟨x,h0,y,h1,h⟩
theorem edo{α β ρ:Type}{e:α}{f:α→Ag β}{q:α→β→Ag ρ}{r:ρ}(h:bnd (e) (fun x=>bno (f x) (q x))=some r):∃ x,e=x∧∃ y,f x=some y∧q x y=some r:=by
 obtain ⟨x,h0,h⟩:=bN h;obtain ⟨y,h1,h⟩:=bS h;exact ⟨x,h0,y,h1,h⟩
theorem edd{α β ρ:Type}{e:α}{f:α→β}{q:α→β→Ag ρ}{r:ρ}(h:bnd (e) (fun x=>bnd (f x) (q x))=some r):∃ x,e=x∧∃ y,f x=y∧q x y=some r:=by
 obtain ⟨x,h0,h⟩:=bN h;obtain ⟨y,h1,h⟩:=bN h;exact ⟨x,h0,y,h1,h⟩
theorem eooo{α β γ ρ:Type}{e:Ag α}{f:α→Ag β}{g:α→β→Ag γ}{q:α→β→γ→Ag ρ}{r:ρ}(h:bno (e) (fun x=>bno (f x) (fun y=>bno (g x y) (q x y)))=some r):∃ x,e=some x∧∃ y,f x=some y∧∃ z,g x y=some z∧q x y z=some r:=by
 obtain ⟨x,h0,h⟩:=bS h;obtain ⟨y,h1,h⟩:=bS h;obtain ⟨z,h2,h⟩:=bS h;exact ⟨x,h0,y,h1,z,h2,h⟩
theorem eood{α β γ ρ:Type}{e:Ag α}{f:α→Ag β}{g:α→β→γ}{q:α→β→γ→Ag ρ}{r:ρ}(h:bno (e) (fun x=>bno (f x) (fun y=>bnd (g x y) (q x y)))=some r):∃ x,e=some x∧∃ y,f x=some y∧∃ z,g x y=z∧q x y z=some r:=by
 obtain ⟨x,h0,h⟩:=bS h;obtain ⟨y,h1,h⟩:=bS h;obtain ⟨z,h2,h⟩:=bN h;exact ⟨x,h0,y,h1,z,h2,h⟩
theorem eodo{α β γ ρ:Type}{e:Ag α}{f:α→β}{g:α→β→Ag γ}{q:α→β→γ→Ag ρ}{r:ρ}(h:bno (e) (fun x=>bnd (f x) (fun y=>bno (g x y) (q x y)))=some r):∃ x,e=some x∧∃ y,f x=y∧∃ z,g x y=some z∧q x y z=some r:=by
 obtain ⟨x,h0,h⟩:=bS h;obtain ⟨y,h1,h⟩:=bN h;obtain ⟨z,h2,h⟩:=bS h;exact ⟨x,h0,y,h1,z,h2,h⟩
theorem eodd{α β γ ρ:Type}{e:Ag α}{f:α→β}{g:α→β→γ}{q:α→β→γ→Ag ρ}{r:ρ}(h:bno (e) (fun x=>bnd (f x) (fun y=>bnd (g x y) (q x y)))=some r):∃ x,e=some x∧∃ y,f x=y∧∃ z,g x y=z∧q x y z=some r:=by
 obtain ⟨x,h0,h⟩:=bS h;obtain ⟨y,h1,h⟩:=bN h;obtain ⟨z,h2,h⟩:=bN h;exact ⟨x,h0,y,h1,z,h2,h⟩
theorem edoo{α β γ ρ:Type}{e:α}{f:α→Ag β}{g:α→β→Ag γ}{q:α→β→γ→Ag ρ}{r:ρ}(h:bnd (e) (fun x=>bno (f x) (fun y=>bno (g x y) (q x y)))=some r):∃ x,e=x∧∃ y,f x=some y∧∃ z,g x y=some z∧q x y z=some r:=by
 obtain ⟨x,h0,h⟩:=bN h;obtain ⟨y,h1,h⟩:=bS h;obtain ⟨z,h2,h⟩:=bS h;exact ⟨x,h0,y,h1,z,h2,h⟩
theorem edod{α β γ ρ:Type}{e:α}{f:α→Ag β}{g:α→β→γ}{q:α→β→γ→Ag ρ}{r:ρ}(h:bnd (e) (fun x=>bno (f x) (fun y=>bnd (g x y) (q x y)))=some r):∃ x,e=x∧∃ y,f x=some y∧∃ z,g x y=z∧q x y z=some r:=by
 obtain ⟨x,h0,h⟩:=bN h;obtain ⟨y,h1,h⟩:=bS h;obtain ⟨z,h2,h⟩:=bN h;exact ⟨x,h0,y,h1,z,h2,h⟩
theorem eddo{α β γ ρ:Type}{e:α}{f:α→β}{g:α→β→Ag γ}{q:α→β→γ→Ag ρ}{r:ρ}(h:bnd (e) (fun x=>bnd (f x) (fun y=>bno (g x y) (q x y)))=some r):∃ x,e=x∧∃ y,f x=y∧∃ z,g x y=some z∧q x y z=some r:=by
 obtain ⟨x,h0,h⟩:=bN h;obtain ⟨y,h1,h⟩:=bN h;obtain ⟨z,h2,h⟩:=bS h;exact ⟨x,h0,y,h1,z,h2,h⟩
theorem eddd{α β γ ρ:Type}{e:α}{f:α→β}{g:α→β→γ}{q:α→β→γ→Ag ρ}{r:ρ}(h:bnd (e) (fun x=>bnd (f x) (fun y=>bnd (g x y) (q x y)))=some r):∃ x,e=x∧∃ y,f x=y∧∃ z,g x y=z∧q x y z=some r:=by
 obtain ⟨x,h0,h⟩:=bN h;obtain ⟨y,h1,h⟩:=bN h;obtain ⟨z,h2,h⟩:=bN h;exact ⟨x,h0,y,h1,z,h2,h⟩
abbrev nd1(rs:List Nat)(t:Nat)(d:D):Node:=⟨rs,[],[(t,d)],[]⟩
abbrev nd2(rs ri:List Nat)(t:Nat)(d:D):Node:=⟨rs,ri,[(t,d)],[]⟩
theorem cFa{ops:Array Oper}{ll:List Oper}{T:At}{x:Am}{i:Nat}{fs:Array Field}{F:Field}{z:Ag AG}{size bytes:Nat}{id off:Nat}(off':Nat)(hu:P.underlying T=some (.struct fs))(h:(rC o,o.op,o.dst,AZ (t+1) N,fs[i]?)=(true,.fieldAddr T x i,some t,true,some F))(hi:TI P F.type z size bytes)(h2:(AZ (0+1) size,S.op x,off+F.offset)=(true,.ref id off,off'))(q:ILS P O N ops ll (S.set t (.ref id off')) Q):ILS P O N ops (o::ll) S Q :=
 aA (AH CG h) (tFa off' hu (AH Dg h) hi h2) q
theorem cLd{ops:Array Oper}{ll:List Oper}{T:At}{x:Am}{u:TypeDesc}{z:Ag AG}{size bytes:Nat}{id off:Nat}{e:At}{ds r:List D}{d:D}(hu:P.underlying T=some u)(hg:kT P T=false)(hi:TI P T z size bytes)(h:(rC o,o.op,o.dst,AZ (t+1) N,AZ (0+1) size,S.op x,S.ent id,AZ (off+size) ds.length,ds.drop off)=(true,.load T x,some t,true,true,.ref id off,.blk e ds,true,d::r))(q:ILS P O N ops ll (S.set t d) Q):ILS P O N ops (o::ll) S Q :=
 aA (AH CG h) (tLd hu hg hi (AH Dg h)) q
theorem cSt{ops:Array Oper}{ll:List Oper}{T:At}{x y:Am}{z:Ag AG}{size bytes:Nat}{id off:Nat}{e:At}{ds:List D}(c ds':List D)(hi:TI P T z size bytes)(h:(rC o,o.op,o.dst,S.op x,S.ent id,S.op y,(D.agg c).boxable,(D.agg c).cells.length,(D.agg c).cells.all Ee,AZ (off+size) ds.length,jG ds off (D.agg c).cells)=(true,.store T x y,none,.ref id off,.blk e ds,.agg c,true,size,true,true,ds'))(q:ILS P O N ops ll (S.setE id (.blk e ds')) Q):ILS P O N ops (o::ll) S Q :=
 aA (AH CG h) (tSt c ds' hi (AH Dg h)) q
theorem cLr{ops:Array Oper}{ll:List Oper}{T:At}{x:Am}{u:TypeDesc}{z:Ag AG}{size bytes:Nat}{id off:Nat}{e:At}{ds:List D}(cs:List D)(l:LA P T u z size bytes true)(h:(rC o,o.op,o.dst,AZ (t+1) N,S.op x,S.ent id,AZ (off+size) ds.length,(ds.drop off).take size)=(true,.load T x,some t,true,.ref id off,.blk e ds,true,cs))(q:ILS P O N ops ll (S.set t (.agg cs)) Q):ILS P O N ops (o::ll) S Q :=
 aA (AH CG h) (tLr cs l (AH Dg h)) q
theorem cAs{ops:Array Oper}{ll:List Oper}{x:Am}(d:D)(h:(rC o,o.op,o.dst,AZ (t+1) N,S.op x)=(true,.assign x,some t,true,d))(q:ILS P O N ops ll (S.set t d) Q):ILS P O N ops (o::ll) S Q :=
 aA (AH CG h) (tAs d (AH Dg h)) q
theorem cBx{ops:Array Oper}{ll:List Oper}{e:At}{x:Am}{cs:List D}(c:List D)(id:Nat)(h:(rC o,o.op,o.dst,AZ (t+1) N,S.ent id,S.op x,(D.agg c).boxable,(D.agg c).cells)=(true,.box e x,some t,true,.fresh,.agg c,true,cs))(q:ILS P O N ops ll ((S.setE id (.blk e cs)).set t (.ref id 0)) Q):ILS P O N ops (o::ll) S Q :=
 aA (AH CG h) (tBx c id (AH Dg h)) q
theorem cI{ops:Array Oper}{ll:List Oper}{x:Am}{k:IntKind}{n:Int}(h:(rC o,o.op,o.dst,AZ (t+1) N,S.op x)=(true,.move x,some t,true,.int k n))(q:ILS P O N ops ll (S.set t (.int k n)) Q):ILS P O N ops (o::ll) S Q :=
 aA (AH CG h) (tI (AH Dg h)) q
theorem cB{ops:Array Oper}{ll:List Oper}{x:Am}{n:Bool}(h:(rC o,o.op,o.dst,AZ (t+1) N,S.op x)=(true,.move x,some t,true,.bool n))(q:ILS P O N ops ll (S.set t (.bool n)) Q):ILS P O N ops (o::ll) S Q :=
 aA (AH CG h) (tB (AH Dg h)) q
theorem cAI{ops:Array Oper}{ll:List Oper}{x:Am}{k:IntKind}{n:Int}(h:(rC o,o.op,o.dst,AZ (t+1) N,S.op x)=(true,.assign x,some t,true,.int k n))(q:ILS P O N ops ll (S.set t (.int k n)) Q):ILS P O N ops (o::ll) S Q :=
 aA (AH CG h) (tAI (AH Dg h)) q
theorem cAB{ops:Array Oper}{ll:List Oper}{x:Am}{n:Bool}(h:(rC o,o.op,o.dst,AZ (t+1) N,S.op x)=(true,.assign x,some t,true,.bool n))(q:ILS P O N ops ll (S.set t (.bool n)) Q):ILS P O N ops (o::ll) S Q :=
 aA (AH CG h) (tAB (AH Dg h)) q
theorem cMv{ops:Array Oper}{ll:List Oper}{x:Am}(d:D)(h:(rC o,o.op,o.dst,AZ (t+1) N,S.op x)=(true,.move x,some t,true,d))(q:ILS P O N ops ll (S.set t d) Q):ILS P O N ops (o::ll) S Q :=
 aA (AH CG h) (tMv d (AH Dg h)) q
theorem cEx{ops:Array Oper}{ll:List Oper}{x:Am}{i:Nat}{cs:List D}{d:D}(h:(rC o,o.op,o.dst,AZ (t+1) N,S.op x,cs[i]?)=(true,.extract x i,some t,true,.tuple cs,some d))(q:ILS P O N ops ll (S.set t d) Q):ILS P O N ops (o::ll) S Q :=
 aA (AH CG h) (tEx (AH Dg h)) q
theorem cCm{ops:Array Oper}{ll:List Oper}{op:BinOp}{xt yt:At}{x y:Am}{k:IntKind}{a b:Int}{c c':Bool}(h:(rC o,o.op,o.dst,AZ (t+1) N,S.op x,S.op y,int2 op k a b)=(true,.binOp op xt x y yt,some t,true,.int k a,.int k b,some (.bool c)))(hc:c=c')(q:ILS P O N ops ll (S.set t (.bool c')) Q):ILS P O N ops (o::ll) S Q :=
 aA (AH CG h) (tCm (AH Dg h) hc) q
theorem cOr{ops:Array Oper}{ll:List Oper}{c x y:Am}{b z r:Bool}(h:(rC o,o.op,o.dst,AZ (t+1) N,S.op c,S.op x,S.op y)=(true,.pick c x y,some t,true,.bool b,.bool true,.cnd (b == false) (.bool z)))(hr:(b||z)=r)(q:ILS P O N ops ll (S.set t (.bool r)) Q):ILS P O N ops (o::ll) S Q :=
 aA (AH CG h) (tOr (AH Dg h) hr) q
theorem cAn{ops:Array Oper}{ll:List Oper}{c x y:Am}{b z r:Bool}(h:(rC o,o.op,o.dst,AZ (t+1) N,S.op c,S.op x,S.op y)=(true,.pick c x y,some t,true,.bool b,.cnd (b == true) (.bool z),.bool false))(hr:(b&&z)=r)(q:ILS P O N ops ll (S.set t (.bool r)) Q):ILS P O N ops (o::ll) S Q :=
 aA (AH CG h) (tAn (AH Dg h) hr) q
end
end Go.IL
open Bool renaming or_eq_true → BB
open List renaming pairwise_cons → AI
open _root_ renaming decide_eq_true → Ae,decide_eq_true_iff → Cq
namespace Go.IL
section
variable {α:Type} (k:α→Int)
def putK(x:α):List α→List α
 | []=>[x]
 | y::l=>if k x≤k y then x::y::l else y::putK x l
def sY:List α→List α
 | []=>[]
 | x::l=>putK k x (sY l)
theorem aBJ(x:α):∀ l:List α,(putK k x l).Perm (x::l)
 | []=>.refl _
 | y::l=>by
   unfold putK;split
   · exact .refl _
   · exact ((aBJ x l).cons y).trans (.swap x y l)
theorem rV:∀ l:List α,(sY k l).Perm l
 | []=>.refl _
 | x::l=>(aBJ k x _).trans ((rV l).cons x)
theorem aBI(x:α):∀ {l:List α},l.Pairwise (fun a b=>k a≤k b)→(putK k x l).Pairwise (fun a b=>k a≤k b)
 | [],_=>List.pairwise_singleton _ _
 | y :: l,h=>by
   obtain ⟨h1,h2⟩:=AI.1 h;unfold putK;split
   · rename_i hx;refine AI.2 ⟨fun z hz=>?_,h⟩
     rcases Au.1 hz with rfl | hz
     · exact hx
     · have:=h1 z hz; omega
   · rename_i hx;refine AI.2 ⟨fun z hz=>?_,aBI x h2⟩
     rcases Au.1 ((aBJ k x l).mem_iff.1 hz) with rfl | hz
     · omega
     · exact h1 z hz
theorem tF:∀ l:List α,(sY k l).Pairwise (fun a b=>k a≤k b)
 | []=>.nil
 | x::l=>aBI k x (tF l)
theorem aCF:∀ {l m:List α},l.Perm m→(∀ a∈l,∀ b∈l,k a=k b→a=b)→l.Pairwise (fun a b=>k a≤k b)→m.Pairwise (fun a b=>k a≤k b)→l=m
 | [],m,hp,_,_,_=>(List.nil_perm.1 hp).symm
 | x::l,[],hp,_,_,_=>by have:=hp.length_eq; simp at this
 | x :: l,y::m,hp,hi,h1,h2=>by
   obtain ⟨a1,a2⟩:=AI.1 h1;obtain ⟨b1,b2⟩:=AI.1 h2;have hy:y∈x::l:=hp.mem_iff.2 (by simp);have hx:x∈y::m:=hp.mem_iff.1 (by simp);have e:x=y:=by
    refine hi x (by simp) y hy ?_;have l1:k x≤k y:=by
     rcases Au.1 hy with e | h
     · rw [e]; exact Dj _
     · exact a1 y h
    have l2:k y≤k x:=by
     rcases Au.1 hx with e | h
     · rw [e]; exact Dj _
     · exact b1 x h
    omega
   subst e;rw [aCF (List.Perm.cons_inv hp) (fun a ha b hb=>hi a (by simp [ha]) b (by simp [hb])) a2 b2]
theorem aDn{l m:List α}(hp:m.Perm l)(hi:∀ a∈l,∀ b∈l,k a=k b→a=b)(hs:m.Pairwise (fun a b=>k a≤k b)):sY k l=m :=
 (aCF k (hp.trans (rV k l).symm) (fun a ha b hb=>hi a (hp.mem_iff.1 ha) b (hp.mem_iff.1 hb)) hs (tF k l)).symm
def aEB(good:α→Bool)(l:List α):Ag (List α):=if decide (l.length<4611686018427387904)&&l.all good&&decide (l.map k).Nodup then some (sY k l) else none
end
theorem aAb{α:Type}{k:α→Int}:∀ {l:List α},(l.map k).Nodup→∀ a∈l,∀ b∈l,k a=k b→a=b
 | x :: l,h,a,ha,b,hb,e=>by
   obtain ⟨h1,h2⟩:=Bl.1 h
   rcases Au.1 ha with g | g
   · rcases Au.1 hb with g' | g'
     · rw [g,g']
     · exact Ay (Ak.2 ⟨b,g',by rw [←e,g]⟩) h1
   · rcases Au.1 hb with g' | g'
     · exact Ay (Ak.2 ⟨a,g,by rw [e,g']⟩) h1
     · exact aAb h2 a g b g' e
theorem sortK_e{α:Type}{k:α→Int}{good:α→Bool}{l r:List α}(h:aEB k good l=some r):l.length<4611686018427387904∧(∀ x∈l,good x=true)∧(l.map k).Nodup∧r=sY k l:=by
 unfold aEB at h;split at h
 · rename_i hc;rw [Av,Av,Cq,Cq] at hc;exact ⟨hc.1.1,Bb.1 hc.1.2,hc.2,(Option.some.inj h).symm⟩
 · cases h
theorem sortK_t{α:Type}{k:α→Int}{good:α→Bool}{l:List α}(h1:l.length≤1000000)(h2:∀ x∈l,good x=true)(h3:(l.map k).Nodup):aEB k good l=some (sY k l):=by
 unfold aEB;rw [Ae (by omega),Bb.2 h2,Ae h3]; rfl
def aED(l:List Int):Ag (List Int):=if l.length<4611686018427387904 then some (sY id l) else none
theorem sortI_e{l r:List Int}(h:aED l=some r):l.length<4611686018427387904∧r=sY id l:=by
 unfold aED at h;split at h
 · exact ⟨by assumption,(Option.some.inj h).symm⟩
 · cases h
theorem sortI_t{l:List Int}(h:l.length≤1000000):aED l=some (sY id l):=Ao (by omega)
theorem aEC(l:List Int):l.mergeSort (fun x y=>decide (x≤y))=sY id l:=by
 refine (aDn id (List.mergeSort_perm l _) (fun a _ b _ e=>e) ?_).symm;refine (List.pairwise_mergeSort (fun a b c h1 h2=>?_) (fun a b=>?_) l).imp fun h=>of_decide_eq_true h
 · exact Ae (Int.le_trans (of_decide_eq_true h1) (of_decide_eq_true h2))
 · rw [BB,Cq,Cq]; omega
end Go.IL
open _root_.Array renaming extract_eq_self_of_le → El,getElem?_modify → EQ,getElem_toList → Fc,size_modify → FC
open Bool renaming false_eq_true → CF
open List renaming flatMap_cons → CK,getElem?_append_right → Bx,getElem?_map → CW,length_cons → AR,length_flatMap → Fk,length_map → An,map_congr_left → AF,map_id → CH,pairwise_iff_getElem → CS,pairwise_map → Bi,sum_replicate_nat → EL
open Nat renaming le_of_not_lt → CN,mod_eq_of_lt → FN,zero_le → CZ
open Option renaming isSome_none → Fy
open _root_ renaming decide_eq_false → Ad
open Go.RowKit (Below)
open Go.Sort
namespace Go.IL
def OH(E:Env)(β:bY)(H0:List (Nat×Ent)):bZ:=⟨E.w,E.X,nF β H0,β,none,fun _=>[],fun _=>0,fun _=>[],fun _=>(#[],.skip,.skip),E.w.heap.size⟩
theorem aAV{α:Type}[Inhabited α](enc:α→AG){zs zs':List α}(sp:List AG)(hl:zs'.length=zs.length):putCells enc 0 zs'.toArray (zs.map enc++sp).toArray=(zs'.map enc++sp).toArray:=by
 apply Array.ext_getElem?;intro i;unfold putCells;rw [Array.getElem?_mapIdx,CD,CD]
 by_cases hi:i<zs.length
 · have hi':i<zs'.length:=by omega
   rw [AJ (by simpa using hi),AJ (by simpa using hi'),CW,CW,AY hi,AY hi'];simp [hi']
 · rw [Bx (by simp; omega),Bx (by simp; omega),An,An,hl];cases sp[i-zs.length]? with
   | none=>rfl
   | some v =>
     simp only [DH];rw [Al (by simp; omega)]
theorem aG5(h:Array Obj)(b:Nat)(f:Obj→Obj)(o:Obj)(e:h[b]? = some o):(h.modify b f)[b]? = some (f o):=by
 rw [EQ,Ao rfl,e]; rfl
theorem aDf(h:Array Obj){b k:Nat}(f:Obj→Obj)(hk:k≠b):(h.modify b f)[k]? = h[k]?:=by
 rw [EQ,Al (Ne.symm hk)]
theorem aGh{E:Env}{β:bY}{e:TypeId}{ds ds':List D}{b n:Nat}{vs sp vs':List AG}{g:Array AG→Array AG}(os:Array Obj)(hok:HOk (OH E β [(1000,.blk e ds)]) E β (entL [(1000,.blk e ds)]))(hb:β 1000=some b)(hh:E.w.heap[b]? = some (.cells (Cw (vs++sp)) e (0,0)))(hX:∀ o,E.X b o)(hg:g (Cw (vs++sp))=Cw (vs'++sp))(hl:vs'.length=vs.length)(hv:∀ E',RdL E' β vs' ds') :
 HOk (OH E β [(1000,.blk e ds)]) ⟨grow (mapBlock (Sort.ahead E.w n) b g) os,E.X⟩ β (entL [(1000,.blk e ds')]):=by
 have hlt:=dR hh;have hown:(OH E β [(1000,.blk e ds)]).own b:=hok.own (j:=1000) rfl hb
 let E1:Env:=⟨mapBlock (Sort.ahead E.w n) b g,E.X⟩
 have hat:E1.w.heap[b]? = some (.cells (Cw (vs'++sp)) e (0,0)):=by
  show (E.w.heap.modify b (onCells g))[b]? = _
  rw [aG5 _ _ _ _ hh]
  show some (Obj.cells (g _) e (0,0))=_
  rw [hg]
 have hs:Step (OH E β [(1000,.blk e ds)]) E E1 b:=⟨rfl,rfl,rfl,by show E.w.heap.size≤(E.w.heap.modify b (onCells g)).size; rw [FC]; exact AP _,by show b<(E.w.heap.modify b (onCells g)).size; rw [FC]; exact hlt,hown,fun k _ hk=>aDf _ _ hk,fun _ _ _=>Dy,fun _ h=>by rw [hh] at h; cases h⟩;have hle:E.le E1:=hs.le (fun o v _ h2=>Ay (hX o) h2) (fun c e' f h3=>by
  rw [hh] at h3; cases h3;exact ⟨_,_,hat,by simp [hl]⟩)
 have hput:HOk (OH E β [(1000,.blk e ds)]) E1 β (entL [(1000,.blk e ds')]):=by
  refine Dd hok hs hle (bY.le.refl _) (id:=1000) ?_ ?_ hb ?_ (fun _ _=>trivial)
  · intro j hj; left; exact ⟨by simp [entL,aV,Ne.symm hj],rfl⟩
  · intro j hj hheld hbj;have:(entL [(1000,Ent.blk e ds)] j).held=true:=by simpa [entL,aV,Ne.symm hj] using hheld
    exact hj (hok.inj j 1000 b this rfl hbj hb)
  · exact ⟨_,sp,hat,hX,hv _⟩
 exact hput.below ⟨rfl,rfl,rfl,by show E1.w.heap.size≤(E1.w.heap++os).size; rw [DP]; omega,fun k hk=>by
  show (E1.w.heap++os)[k]? = _
  rw [Array.getElem?_append_left hk]⟩
theorem aEv{E:Env}{β:bY}:Rd E β (.tuple #[]) (retD []):=.tuple _ [] [] (.nil _)
theorem aHo{P:Program}{f:FuncId}{e:TypeId}{n sz:Nat}{ds ds' ar:List D}(us:List AG)(has:∀ E β xs,RdL E β xs ar→xs=us)(hnil:n=0→ds'=ds∧∀ (p:Ag Addr) (cap:Nat) (w:World),Calls P f ((.slice p 0 cap)::us).toArray w fun e w'=>e = .returned (.tuple #[])∧Below w.heap.size w w')(hrow:∀ (E:Env) (β:bY) (b cap:Nat) (vs sp:List AG) ,RdL E β vs ds→E.good→E.w.heap[b]? = some (.cells (Cw (vs++sp)) e (0,0)) →
   Calls P f ((.slice (some ⟨b,0,none⟩) n cap)::us).toArray E.w fun e w'=>e = .returned (.tuple #[])∧∃ g k os vs',w'=grow (mapBlock (Sort.ahead E.w k) b g) os∧g (Cw (vs++sp))=Cw (vs'++sp)∧vs'.length=vs.length∧∀ E' β',RdL E' β' vs' ds') :
 FnH P f (.osl 1000 sz n::ar) [(1000,.blk e ds)] (retD []) [(1000,.blk e ds')]:=by
 intro E β xs hX hβ hok hvs;cases hvs with
 | cons h1 h2 =>
   obtain rfl:=has _ _ _ h2;cases h1 with
   | nosl =>
     obtain ⟨e1,h3⟩:=hnil rfl;subst e1;refine (h3 none 0 E.w).mono ?_;rintro e' w' ⟨rfl,hb⟩;exact ⟨_,rfl,⟨w',E.X⟩,β,rfl,hok.below hb,aEv⟩
   | osl _ _ b _ cap _ hb hc hsz c e' fz hcap hcs hcm =>
     have hent:=hok.ent 1000;obtain ⟨vs,sp,g1,g2,g3,g4⟩:=sZ (show qX (OH E β [(1000,.blk e ds)]) E β 1000 (.blk e ds) from hent) hb;refine (hrow E β b cap vs sp g4 hX g2).mono ?_;rintro e'' w' ⟨rfl,g,k,os,vs',rfl,k1,k2,k3⟩;exact ⟨_,rfl,⟨_,E.X⟩,β,rfl,aGh os hok hb g2 g3 k1 k2 (fun E'=>k3 E' β),aEv⟩
theorem aEy{E:Env}{β:bY}{k:IntKind}:∀ {l:List Int} {vs:List AG},RdL E β vs (Ac (l.map (eInt k).d))→vs=l.map (Value.int k)
 | [],vs,h=>by cases h; rfl
 | x :: l,vs,h=>by
   have h:RdL E β vs (.int k x::Ac (l.map (eInt k).d)):=h;cases h with
   | cons h1 h2 =>
     rw [aEy h2,lS h1]; rfl
theorem aFO(E:Env)(β:bY)(k:IntKind):∀ (l:List Int),RdL E β (l.map (Value.int k)) (Ac (l.map (eInt k).d))
 | []=>.nil _
 | x::l=>.cons (.int _ _ _) (aFO E β k l)
theorem aF9{w:World}{b:Nat}{e:TypeId}{zs:List Int}{sp:List AG}(hh:w.heap[b]? = some (.cells (Cw (zs.map (Value.int .i64)++sp)) e (0,0))):Holds (Value.int .i64) w b 0 zs.toArray:=fun j hj=>by
 have hj:j<zs.length:=by simpa using hj
 refine ⟨?_,by simp [World.frozen?,hh]⟩;simp only [World.cell?,hh,Bj,Fy,CF,if_false,CD];rw [AJ (by simpa using hj),CW,AY hj];simp [hj]
theorem aHm{P:Program}{ρ:Shelf.Ren}(L:Proofs.Lays.n189 P ρ){e:At}(a0 r:List Int)(h:aED a0=some r) :
 FnH P (ρ.f 189) [.osl 1000 (eInt .i64).sz a0.length] [(1000,.blk e (Ac (a0.map (eInt .i64).d)))] (retD []) [(1000,.blk e (Ac (r.map (eInt .i64).d)))]:=by
 obtain ⟨h1,rfl⟩:=sortI_e h;refine aHo [] (fun E β xs h=>by cases h; rfl) (fun h0=>?_) (fun E β b cap vs sp hv _ hh=>?_)
 · obtain rfl:=AV.1 h0;refine ⟨rfl,fun p cap w=>(Proofs.Any.slices_Sort_int_none L p cap w).mono ?_⟩;rintro e w' h;exact ⟨h.1,by rw [h.2]; exact Below.refl _ _⟩
 · obtain rfl:=aEy hv;refine (Proofs.Any.slices_Sort_int L b 0 cap a0 E.w (aF9 hh) (dR hh) h1).mono ?_;rintro e w' ⟨rfl,n,os,rfl⟩;rw [aEC];have hl:=(rV id a0).length_eq;exact ⟨rfl,_,n,os,(sY id a0).map (Value.int .i64),rfl,aAV _ sp hl,by simp [hl],fun E' β'=>aFO E' β' _ _⟩
theorem aDW{E:Env}{β:bY}:∀ {d1 d2:List D} {vs:List AG},RdL E β vs (d1++d2)→∃ v1 v2,vs=v1++v2∧RdL E β v1 d1∧RdL E β v2 d2
 | [],d2,vs,h=>⟨[],vs,rfl,.nil _,h⟩
 | d :: d1,d2,vs,h=>by
   cases h with
   | cons h1 h2 =>
     obtain ⟨v1,v2,rfl,h3,h4⟩:=aDW h2;exact ⟨_::v1,v2,rfl,.cons h1 h3,h4⟩
theorem aEz{T:Type}{f:Enc T}{enc:T→List AG}(hrd:∀ E β x vs,RdL E β vs (f.d x).cells→vs=enc x){E:Env}{β:bY}:∀ {l:List T} {vs:List AG},RdL E β vs (Ac (l.map f.d))→vs=l.flatMap enc
 | [],vs,h=>by cases h; rfl
 | x::l,vs,h=>by
   obtain ⟨v1,v2,rfl,h1,h2⟩:=aDW (show RdL E β vs ((f.d x).cells++Ac (l.map f.d)) from h);rw [hrd E β x v1 h1,aEz hrd h2]; rfl
theorem aFZ{T:Type}{f:Enc T}{enc:T→List AG}(hrd':∀ E β x,RdL E β (enc x) (f.d x).cells)(E:Env)(β:bY):∀ l:List T,RdL E β (l.flatMap enc) (Ac (l.map f.d))
 | []=>.nil _
 | x::l=>(hrd' E β x).append (aFZ hrd' E β l)
theorem aFX{α:Type}[Inhabited α]{enc:α→List AG}{k:Nat}(hk:∀ x,(enc x).length=k)(h0:0<k):∀ (l:List α) (t:Nat),t<l.length*k→(l.flatMap enc)[t]! = (enc l[t / k]!)[t % k]!
 | [],t,h=>by simp at h
 | x :: l,t,h=>by
   rw [CK]
   by_cases ht:t<k
   · rw [Nat.div_eq_of_lt ht,FN ht,getElem!_pos _ t (by rw [AO,hk]; omega),List.getElem_append_left (by rw [hk]; exact ht)];rw [show (x::l)[0]! = x from rfl,getElem!_pos (enc x) t (by rw [hk]; exact ht)]
   · have h2:t-k<l.length*k:=by rw [AR,Bw,CL] at h; omega
     have hfl:(l.flatMap enc).length=l.length*k:=by
      rw [Fk,AF (fun x _=>hk x),List.map_const',EL]
     have ih:=aFX hk h0 l (t-k) h2;rw [getElem!_pos _ (t-k) (by rw [hfl]; exact h2)] at ih;rw [getElem!_pos _ t (by rw [AO,hk,hfl]; omega),List.getElem_append_right (by rw [hk]; omega)];simp only [hk];have e1:t / k=(t-k) / k+1:=Nat.div_eq_sub_div h0 (CN ht);have e2:t % k=(t-k) % k:=Nat.mod_eq_sub_mod (CN ht);rw [ih,e1,e2];rfl
theorem aCR{α:Type}[Inhabited α]{enc:α→List AG}{k:Nat}(hk:∀ x,(enc x).length=k)(h0:0<k)(l:List α):flatK enc k l.toArray=(l.flatMap enc).toArray:=by
 have hfl:(l.flatMap enc).length=l.length*k:=by
  rw [Fk,AF (fun x _=>hk x),List.map_const',EL]
 refine ext_get! (by simp [hfl]) fun t ht=>?_
 have ht:t<l.length*k:=by simpa using ht
 rw [get_flatK _ _ _ _ (by simpa using ht)];have:=aFX hk h0 l t ht;have e1:(l.flatMap enc).toArray[t]! = (l.flatMap enc)[t]!:=by simp
 have e2:l.toArray[t / k]! = l[t / k]!:=by simp
 rw [e1,this,e2]
theorem aHn{P:Program}{ρ:Shelf.Ren}(L:Proofs.SlLaysF0.n6 P ρ){T:Type}[Inhabited T](f:Enc T)(enc:T→List AG)(key:T→Int)(good:T→Bool)(hgd:good default=true)(aE:∀ w,(isAgg (ρ.t 24)).run P w = .ok true w)(zE:∀ w,(Go.sizeOf (ρ.t 24)).run P w = .ok f.sz w)(hk:∀ x,(enc x).length=f.sz)(h1:∀ x,∀ v∈enc x,v.oneCell'=true)(hrd:∀ E β x vs,RdL E β vs (f.d x).cells→vs=enc x)(hrd':∀ E β x,RdL E β (enc x) (f.d x).cells){g:Nat}(eg:∀ args w,(callFunc g args).run P w = .ok (.enter g args) w)(hcmp:∀ (x y:T) (W:World),good x=true→good y=true→Calls P g #[.agg (enc x).toArray,.agg (enc y).toArray] W fun e w'=>e = .returned (.int .i64 (key x-key y))∧∃ q os',w'=grow (W.drewN q) os'){e:At}(a0 r:List T)(h:aEB key good a0=some r) :
 FnH P (ρ.f 6) [.osl 1000 f.sz a0.length,.fn g []] [(1000,.blk e (Ac (a0.map f.d)))] (retD []) [(1000,.blk e (Ac (r.map f.d)))]:=by
 obtain ⟨hlen,hg,hnd,rfl⟩:=sortK_e h;refine aHo [.func (.func g) #[] #[]] (fun E β xs h=>?_) (fun h0=>?_) (fun E β b cap vs sp hv _ hh=>?_)
 · cases h with
   | cons h2 h3 =>
     cases h3;obtain ⟨us,rfl,h4⟩:=aFs h2;cases h4; rfl
 · obtain rfl:=AV.1 h0;refine ⟨rfl,fun p cap w=>(Proofs.AnyF.slices_SortFunc_none L p cap _ w).mono ?_⟩;rintro e w' h;exact ⟨h.1,by rw [h.2]; exact Below.refl _ _⟩
 · obtain rfl:=aEz hrd hv
   let α:={ x:T // good x=true }
   letI:Inhabited α:=⟨⟨default,hgd⟩⟩
   let enc':α→List AG:=fun x=>enc x.1
   let cf:α→α→Int:=fun x y=>key x.1-key y.1
   let l:List α:=a0.attachWith (fun x=>good x=true) hg
   have hk':∀ x:α,(enc' x).length=f.sz:=fun x=>hk x.1
   have hfm:∀ m:List α,m.flatMap enc'=(m.map (·.1)).flatMap enc:=fun m=>by rw [List.flatMap_map]
   have hval:l.map (·.1)=a0:=by
    show (a0.attachWith _ hg).map (fun i=>id i.1)=_
    rw [List.attachWith_map_val]; exact CH _
   have hll:l.toArray.size=a0.length:=by
    rw [Cm,←hval,An]
   have hO:SWO (Proofs.ltOf cf):={
    irrefl:=fun x=>by show decide (key x.1-key x.1<0)=false; exact Ad (by omega)
    trans:=fun x y z h1 h2=>by
     have h1:=of_decide_eq_true (show decide (key x.1-key y.1<0)=true from h1);have h2:=of_decide_eq_true (show decide (key y.1-key z.1<0)=true from h2)
     show decide (key x.1-key z.1<0)=true
     exact Ae (by omega)
    ntrans:=fun x y z h1 h2=>by
     have h1:=of_decide_eq_false (show decide (key x.1-key y.1<0)=false from h1);have h2:=of_decide_eq_false (show decide (key y.1-key z.1<0)=false from h2)
     show decide (key x.1-key z.1<0)=false
     exact Ad (by omega) }
   have hH:HoldsK enc' f.sz E.w b 0 l.toArray:=by
    unfold HoldsK;rw [aCR hk' f.pos,hfm,hval];intro j hj;have hj:j<(a0.flatMap enc).length:=by simpa using hj
    refine ⟨?_,by simp [World.frozen?,hh]⟩;simp only [World.cell?,hh,Bj,Fy,CF,if_false,CD];rw [AJ hj];simp [AY hj]
   have hC:=Proofs.AnyQ.slices_SortFunc L f.sz aE zE enc' hk' (fun x=>h1 x.1) cf hO g #[] b 0 cap l.toArray E.w eg (fun m os dk _ x y=>hcmp x.1 y.1 _ x.2 y.2) hH (dR hh) (by rw [hll]; exact hlen);rw [hll] at hC;refine hC.mono ?_;rintro e' w' ⟨rfl,d',n,os,hp,hs,rfl⟩;have hsz:d'.size=a0.length:=hp.1.trans hll;have hperm:(d'.toList.map (·.1)).Perm a0:=by
    have:=hp.2.2;rw [El (by rw [hsz]; exact AP _),El (by rw [hll]; exact AP _)] at this;have:=this.map (·.1)
    rwa [show l.toArray.toList=l from rfl,hval] at this
   have hsort:(d'.toList.map (·.1)).Pairwise (fun a b=>key a≤key b):=by
    rw [Bi,CS];intro i j hi hj hij;have hj':j<d'.size:=by simpa using hj
    have h9:=hs i j (CZ _) hij (by rw [←hsz]; exact hj');have h9:=of_decide_eq_false (show decide (key (d'[j]!).1-key (d'[i]!).1<0)=false from h9);rw [getElem!_pos d' j hj',getElem!_pos d' i (by omega)] at h9
    show key (d'.toList[i]).1≤key (d'.toList[j]).1
    rw [Fc,Fc];omega
   have hr:sY key a0=d'.toList.map (·.1):=aDn key hperm (aAb hnd) hsort;have hl:((sY key a0).flatMap enc).length=(a0.flatMap enc).length:=((rV key a0).flatMap_right enc).length_eq;refine ⟨rfl,_,n,os,(sY key a0).flatMap enc,rfl,?_,hl,fun E' β'=>aFZ hrd' E' β' _⟩;have e1:flatK enc' f.sz d'=((sY key a0).flatMap enc).toArray:=by
    rw [hr,←hfm,←aCR hk' f.pos]
   rw [e1];have:=aAV id sp hl;rw [CH,CH] at this;exact this
end Go.IL
namespace Go.IL
open RowKit (Below)
section
variable {P:Ba} {O:bZ} {N:Nat} {S S':St} {o:Oper} {t:Nat}
end
end Go.IL
open _root_.Array renaming toList_modify → Fm
open Go.IL.D renaming refsIn → BK
open List renaming length → Em,map_append → Bq,map_nil → Aq,modify_succ_cons → ER
open Option renaming map_eq_some_iff → Cz
namespace Go.IL
open RowKit (Below)
open Go.MapKept
def mput{V:Type}:List (Int×V)→Int→V→List (Int×V)
 | [],k,v=>[(k,v)]
 | (j,w)::r,k,v=>if j=k then (k,v)::r else (j,w)::mput r k v
def mget{V:Type}:List (Int×V)→Int→Ag V
 | [],_=>none
 | (j,w)::r,k=>if j=k then some w else mget r k
def mapD{V:Type}(f:V→D)(l:List (Int×V)):List (Int×D):=l.map fun x=>(x.1,f x.2)
theorem aJh{V:Type}(f:V→D)(k:Int)(v:V):∀ l:List (Int×V),mapD f (mput l k v)=mput (mapD f l) k (f v)
 | []=>rfl
 | (j,w)::r=>by
   unfold mput
   by_cases h:j=k
   · rw [Ao h]; show _=mput ((j,f w)::mapD f r) k (f v); rw [mput,Ao h]; rfl
   · rw [Al h]; show _=mput ((j,f w)::mapD f r) k (f v); rw [mput,Al h,←aJh f k v r]; rfl
theorem aDg{V:Type}(f:V→D)(k:Int):∀ l:List (Int×V),mget (mapD f l) k=(mget l k).map f
 | []=>rfl
 | (j,w)::r=>by
   show mget ((j,f w)::mapD f r) k=_
   rw [mget,mget]
   by_cases h:j=k
   · rw [Ao h,Ao h]; rfl
   · rw [Al h,Al h,aDg f k r]
def kI64(n:Int):Value:=.int .i64 n
theorem aCi(k j:Int):Instr.sameNow (.int .i64) (kI64 k) (kI64 j)=some (k == j):=by simp [Instr.sameNow,kI64]
theorem zJ{E:Env}{β:bY}{k:Int}{v:Value}{d:D}(hv:Rd E β v d):∀ (es:List MapEntry) (l:List (Int×D)) (i:Nat),es.map (·.key)=l.map (fun x=>kI64 x.1)→RdL E β (es.map (·.val)) (l.map (·.2)) →
 (Instr.findNow (.int .i64) (kI64 k) es i=some none∧mget l k=none∧mput l k d=l++[(k,d)]) ∨
 ∃ j e x,Instr.findNow (.int .i64) (kI64 k) es i=some (some (i+j,e.val))∧es[j]? = some e∧e.key=kI64 k∧mget l k=some x∧Rd E β e.val x ∧
   (es.modify j fun e=>{ e with key:=kI64 k,val:=v }).map (·.key)=(mput l k d).map (fun x=>kI64 x.1)∧RdL E β ((es.modify j fun e=>{ e with key:=kI64 k,val:=v }).map (·.val)) ((mput l k d).map (·.2))
 | [],[],_,_,_=>.inl ⟨rfl,rfl,rfl⟩
 | [],_::_,_,h,_=>by cases h
 | _::_,[],_,h,_=>by cases h
 | e :: es,(j,x)::l,i,h,hr=>by
   simp only [Ai,List.cons.injEq] at h;obtain ⟨h1,h2⟩:=h;simp only [Ai] at hr;cases hr with
   | cons hx hr =>
     by_cases hk:j=k
     · refine .inr ⟨0,e,x,?_,rfl,by rw [h1,hk],by rw [mget,Ao hk],hx,?_,?_⟩
       · unfold Instr.findNow;rw [h1,aCi,hk]; simp
       · rw [mput,Ao hk];simp [h2]
       · rw [mput,Ao hk];simpa using RdL.cons hv hr
     · have hkb:(k == j)=false:=by simpa using fun e=>hk e.symm
       rcases zJ hv es l (i+1) h2 hr with ⟨g1,g2,g3⟩ | ⟨m,e',x',g1,g2,g3,g4,g5,g6,g7⟩
       · refine .inl ⟨?_,by rw [mget,Al hk,g2],by rw [mput,Al hk,g3]; rfl⟩;unfold Instr.findNow;rw [h1,aCi,hkb]; exact g1
       · refine .inr ⟨m+1,e',x',?_,by simpa using g2,g3,by rw [mget,Al hk,g4],g5,?_,?_⟩
         · unfold Instr.findNow;rw [h1,aCi,hkb]
           show Instr.findNow _ _ es (i+1)=_
           rw [g1]; congr 3; omega
         · rw [mput,Al hk];simp only [ER,Ai,h1,g6]
         · rw [mput,Al hk];simp only [ER,Ai];exact .cons hx g7
section
variable {P:Ba} {O:bZ} {N:Nat} {S S':St} {o:Oper} {t:Nat}
def Ent.mpD(l:List (Int×D)):Ent:=.mp (l.map (·.1)) (l.map (·.2))
theorem aBg{T:TypeId}(id:Nat)(ho:o.op = .makeMap T none)(hd:o.dst=some t)(ht:t<N)(hf:S.ent id = .fresh):IOp P O N o S ((S.setE id (.mpD [])).set t (.mref id)):=by
 intro E β a hr next Q hn;have hrun:(execOp a.eval o).run P E.w = .ok (.value (.map (some E.w.heap.size))) (E.w.alloc (.map #[] 0)):=by
  simp [execOp,ho,Instr.makeMap,Sem.run_bind,Sem.run_pure]
 unfold Oper.wp;rw [hrun];simp only [Oper.upon,hd];have hfr:β id=none:=by have:=hr.h.ent id; rw [hf] at this; exact this
 let E':Env:=⟨E.w.alloc (.map #[] 0),fun b o=>b=E.w.heap.size∨E.X b o⟩
 let β':bY:=fun j=>if j=id then some E.w.heap.size else β j
 have hβ:β.le β':=fun j b hj=>by
  by_cases hji:j=id
  · subst hji; rw [hfr] at hj; cases hj
  · simp [β',hji,hj]
 have hs:Step O E E' E.w.heap.size :=
  ⟨rfl,rfl,rfl,by simp [E'],by simp [E'],.inl hr.h.size,fun k hk _=>heap_alloc_old _ _ hk,fun k o hk=>by simp [E',hk],fun _ h=>BU _ (dR h)⟩
 have hle:E.le E':=hs.le (fun o v h1 _=>by have:=World.block_lt_of_cell? _ _ h1; simp at this) (fun c e f h1=>by have:=dR h1; simp at this);refine hn E' β' _ ⟨by simp [Act.put,hr.n],hr.nd.step hs,?_,?_⟩
 · refine Dd hr.h hs hle hβ ?_ ?_ (id:=id) (by simp [β']) ?_ (fun _ _=>trivial)
   · intro j hj; left; constructor
     · simp [BA,entL,Br,Bo,aV,Ne.symm hj]
     · simp [β',hj]
   · intro j hj hheld hb;have:(S.ent j).held=true:=by simpa [BA,entL,Br,Bo,aV,Ne.symm hj] using hheld
     exact BU _ (hr.h.lt this hb)
   · simp only [BA,entL,Br,Bo,aV,if_true];exact ⟨#[],0,heap_alloc_new _ _,fun o=>.inl rfl,rfl,.nil _⟩
 · intro s;have hts:t<a.tmps.size:=hr.n ▸ ht
   by_cases hst:t=s
   · subst hst;simp only [Act.put,Cf,Bo,aV,if_true,BI,BZ,hts,CM];exact .mref _ _ _ (by simp [β'])
   · have:=CA hle hβ (hr.sl s);simpa [Act.put,Cf,Bo,Br,aV,hst,Bf] using this
theorem aIj{E:Env}{β:bY}{id b:Nat}{l:List (Int×D)}(h:qX O E β id (.mpD l))(hb:β id=some b) :
 ∃ es cl,O.own b∧E.w.heap[b]? = some (.map es cl)∧(∀ o,E.X b o)∧es.toList.map (·.key)=l.map (fun x=>kI64 x.1)∧RdL E β (es.toList.map (·.val)) (l.map (·.2)):=by
 obtain ⟨b',es,cl,h1,h2,h3,h4,h5,h6⟩:=h;rw [hb] at h1; cases h1;exact ⟨es,cl,h2,h3,h4,by rw [h5,BM]; rfl,h6⟩
theorem aCm{E:Env}{β:bY}{v:Value}{id:Nat}(h:Rd E β v (.mref id)):∃ b,β id=some b∧v = .map (some b):=by
 cases h with | mref _ _ b h=>exact ⟨b,h,rfl⟩
theorem aET{T kt et:At}{x k v:Am}{id:Nat}{l:List (Int×D)}{n:Int}{d:D}(ho:o.op = .mapUpdate T x k v)(hd:o.dst=none)(hu:P.underlying T=some (.map kt et))(hk:P.underlying kt=some (.int .i64))(hx:SV S x (.mref id))(he:S.ent id = .mpD l)(hn:SV S k (.int .i64 n))(hv:SV S v d):IOp P O N o S (S.setE id (.mpD (mput l n d))):=by
 intro E β a hr next Q hn';obtain ⟨b,hb,hev⟩:=aCm (hx.rd hr);have hent:=hr.h.ent id;rw [he] at hent;obtain ⟨es,cl,hown,hh,hX,h1,h2⟩:=aIj hent hb;have hkv:=lS (hn.rd hr);have hkey:IsKey (.int .i64) (.int .i64 n):=rfl;obtain ⟨es',cl',hrun,h3,h4⟩:∃ es' cl',(execOp a.eval o).run P E.w = .ok .skip { E.w with heap:=E.w.heap.setIfInBounds b (.map es' cl') }∧es'.toList.map (·.key)=(mput l n d).map (fun x=>kI64 x.1)∧RdL E β (es'.toList.map (·.val)) ((mput l n d).map (·.2)):=by
  rcases zJ (k:=n) (hv.rd hr) es.toList l 0 h1 h2 with ⟨g1,g2,g3⟩ | ⟨m,e',x',g1,g2,g3,g4,g5,g6,g7⟩
  · have g1':Instr.findNow (.int .i64) (.int .i64 n) es.toList 0=some none:=g1;refine ⟨es.push { key:=kI64 n,val:=a.eval v,born:=cl },cl+1,?_,?_,?_⟩
    · simp [execOp,ho,hev,hkv,Instr.mapUpdate,run_underlying hu,Go.MapKept.run_getObj_map hh,Go.MapKept.run_checkKey hk hkey,Go.MapKept.run_findKey hk g1',Go.MapKept.run_setObj_map _ hh,Result.andThen,kI64]
    · rw [g3]; simp [h1]
    · rw [g3];simp only [Array.toList_push,Bq,Ai,Aq];exact h2.append (.cons (hv.rd hr) (.nil _))
  · have hj:es[m]? = some e':=by simpa using g2
    refine ⟨es.modify m fun e=>{ e with key:=kI64 n,val:=a.eval v },cl,?_,?_,?_⟩
    · have g1':Instr.findNow (.int .i64) (.int .i64 n) es.toList 0=some (some (m,e'.val)):=by rw [Bj] at g1; exact g1
      simp [execOp,ho,hev,hkv,Instr.mapUpdate,run_underlying hu,Go.MapKept.run_getObj_map hh,Go.MapKept.run_checkKey hk hkey,Go.MapKept.run_findKey hk g1',hj,g3,kI64,run_keyThatStays hkey,Go.MapKept.run_setObj_map _ hh,Result.andThen]
    · rw [Fm]; exact g6
    · rw [Fm]; exact g7
 unfold Oper.wp;rw [hrun];simp only [Oper.upon,hd,Act.put]
 let E':Env:=⟨{ E.w with heap:=E.w.heap.setIfInBounds b (.map es' cl') },E.X⟩
 have hset:=heap_set (o':=.map es' cl') hh;have hs:Step O E E' b:=⟨rfl,rfl,rfl,by simp [E'],by simpa [E'] using dR hh,hown,fun k _ hk=>hset.2 k hk,fun _ _ _=>Dy,fun _ h=>by rw [hh] at h; cases h⟩;have hle:E.le E':=hs.le (fun o v _ h2=>Ay (hX o) h2) (fun c e' f h3=>by rw [hh] at h3; cases h3);refine hn' E' β a ⟨hr.n,hr.nd.step hs,?_,fun s=>CA hle (bY.le.refl _) (hr.sl s)⟩;refine Dd hr.h hs hle (bY.le.refl _) ?_ ?_ hb ?_ (fun _ _=>trivial)
 · intro j hj; left; exact ⟨by simp [BA,entL,Br,aV,Ne.symm hj],rfl⟩
 · intro j hj hheld hbj;have:(S.ent j).held=true:=by simpa [BA,entL,Br,aV,Ne.symm hj] using hheld
   exact hj (hr.h.inj j id b this (by rw [he]; rfl) hbj hb)
 · simp only [BA,entL,Br,aV,if_true];exact ⟨es',cl',hset.1,hX,by rw [h3,BM]; rfl,AW hle (bY.le.refl _) h4⟩
theorem wQ{V:Type}(f:V→D){T kt et:At}{x k v:Am}{id:Nat}{l l':List (Int×V)}{n:Int}{a:V}(ho:o.op = .mapUpdate T x k v)(hd:o.dst=none)(hu:P.underlying T=some (.map kt et))(hk:P.underlying kt=some (.int .i64))(hx:SV S x (.mref id))(he:S.ent id = .mpD (mapD f l))(hn:SV S k (.int .i64 n))(hv:SV S v (f a))(hl:mput l n a=l'):IOp P O N o S (S.setE id (.mpD (mapD f l'))):=by
 rw [←hl,aJh];exact aET ho hd hu hk hx he hn hv
theorem aAK{V:Type}(f:V→D){T kt et:At}{x k:Am}{id:Nat}{l:List (Int×V)}{n:Int}{z:AG}{size bytes:Nat}{v0 r:V}(ho:o.op = .lookup T x k false)(hd:o.dst=some t)(ht:t<N)(hu:P.underlying T=some (.map kt et))(hk:P.underlying kt=some (.int .i64))(hz:TI P et (some z) size bytes)(hx:SV S x (.mref id))(he:S.ent id = .mpD (mapD f l))(hn:SV S k (.int .i64 n))(h0:∀ E β,Rd E β z (f v0))(hr:(mget l n).getD v0=r):IOp P O N o S (S.set t (f r)) :=
 kG hd ht fun E β a hrel=>by
  obtain ⟨b,hb,hev⟩:=aCm (hx.rd hrel);have hent:=hrel.h.ent id;rw [he] at hent;obtain ⟨es,cl,hown,hh,hX,h1,h2⟩:=aIj hent hb;have hkv:=lS (hn.rd hrel);have hkey:IsKey (.int .i64) (.int .i64 n):=rfl;obtain ⟨i,hi,hzi,_⟩:=hz.at
  rcases zJ (k:=n) (v:=.bool true) (.bool β true) es.toList (mapD f l) 0 h1 h2 with ⟨g1,g2,g3⟩ | ⟨m,e',x',g1,g2,g3,g4,g5,_,_⟩
  · have g1':Instr.findNow (.int .i64) (.int .i64 n) es.toList 0=some none:=g1;refine ⟨z,?_,?_⟩
    · simp [execOp,ho,hev,hkv,Instr.lookup,run_underlying hu,Go.MapKept.run_getObj_map hh,Go.MapKept.run_checkKey hk hkey,Go.MapKept.run_findKey hk g1',zeroValue,typeInfo,hi,hzi,Result.andThen]
    · rw [aDg] at g2;have:mget l n=none:=by cases hm:mget l n with | none=>rfl | some _=>rw [hm] at g2; cases g2
      rw [←hr,this]; exact h0 E β
  · have g1':Instr.findNow (.int .i64) (.int .i64 n) es.toList 0=some (some (m,e'.val)):=by rw [Bj] at g1; exact g1
    refine ⟨e'.val,?_,?_⟩
    · simp [execOp,ho,hev,hkv,Instr.lookup,run_underlying hu,Go.MapKept.run_getObj_map hh,Go.MapKept.run_checkKey hk hkey,Go.MapKept.run_findKey hk g1',Result.andThen]
    · rw [aDg] at g4;obtain ⟨y,hy,rfl⟩:=Cz.1 g4;rw [←hr,hy]; exact g5
theorem aEU{V:Type}(f:V→D){T kt et:At}{x k:Am}{id:Nat}{l:List (Int×V)}{n:Int}{z:AG}{size bytes:Nat}{v0 r:V}{is:Bool}(ho:o.op = .lookup T x k true)(hd:o.dst=some t)(ht:t<N)(hu:P.underlying T=some (.map kt et))(hk:P.underlying kt=some (.int .i64))(hz:TI P et (some z) size bytes)(hx:SV S x (.mref id))(he:S.ent id = .mpD (mapD f l))(hn:SV S k (.int .i64 n))(h0:∀ E β,Rd E β z (f v0))(hr:(mget l n).getD v0=r)(hs:(mget l n).isSome=is):IOp P O N o S (S.set t (.tuple [f r,.bool is])) :=
 kG hd ht fun E β a hrel=>by
  obtain ⟨b,hb,hev⟩:=aCm (hx.rd hrel);have hent:=hrel.h.ent id;rw [he] at hent;obtain ⟨es,cl,hown,hh,hX,h1,h2⟩:=aIj hent hb;have hkv:=lS (hn.rd hrel);have hkey:IsKey (.int .i64) (.int .i64 n):=rfl;obtain ⟨i,hi,hzi,_⟩:=hz.at
  rcases zJ (k:=n) (v:=.bool true) (.bool β true) es.toList (mapD f l) 0 h1 h2 with ⟨g1,g2,g3⟩ | ⟨m,e',x',g1,g2,g3,g4,g5,_,_⟩
  · have g1':Instr.findNow (.int .i64) (.int .i64 n) es.toList 0=some none:=g1;refine ⟨.tuple #[z,.bool false],?_,?_⟩
    · simp [execOp,ho,hev,hkv,Instr.lookup,run_underlying hu,Go.MapKept.run_getObj_map hh,Go.MapKept.run_checkKey hk hkey,Go.MapKept.run_findKey hk g1',zeroValue,typeInfo,hi,hzi,Result.andThen]
    · rw [aDg] at g2;have:mget l n=none:=by cases hm:mget l n with | none=>rfl | some _=>rw [hm] at g2; cases g2
      rw [←hr,←hs,this]; exact .tuple _ _ _ (.cons (h0 E β) (.cons (.bool _ _) (.nil _)))
  · have g1':Instr.findNow (.int .i64) (.int .i64 n) es.toList 0=some (some (m,e'.val)):=by rw [Bj] at g1; exact g1
    refine ⟨.tuple #[e'.val,.bool true],?_,?_⟩
    · simp [execOp,ho,hev,hkv,Instr.lookup,run_underlying hu,Go.MapKept.run_getObj_map hh,Go.MapKept.run_checkKey hk hkey,Go.MapKept.run_findKey hk g1',Result.andThen]
    · rw [aDg] at g4;obtain ⟨y,hy,rfl⟩:=Cz.1 g4;rw [←hr,←hs,hy]; exact .tuple _ _ _ (.cons g5 (.cons (.bool _ _) (.nil _)))
theorem aF1{V:Type}(f:V→D){T kt et:At}{x:Am}{id:Nat}{l:List (Int×V)}(ho:o.op = .call { callee:=.builtin .len,args:=#[x],argTypes:=#[T] })(hd:o.dst=some t)(ht:t<N)(hu:P.underlying T=some (.map kt et))(hx:SV S x (.mref id))(he:S.ent id = .mpD (mapD f l)):IOp P O N o S (S.set t (.int .i64 (l.length:Int))) :=
 kG hd ht fun E β a hrel=>by
  obtain ⟨b,hb,hev⟩:=aCm (hx.rd hrel);have hent:=hrel.h.ent id;rw [he] at hent;obtain ⟨es,cl,hown,hh,hX,h1,h2⟩:=aIj hent hb;have hlen:es.size=l.length:=by have:=AH Em h1; simpa [mapD] using this
  refine ⟨.int .i64 (l.length:Int),?_,.int _ _ _⟩;simp [execOp,ho,resolve,hev,invoke,builtin,Builtin.len_,run_underlying hu,Go.MapKept.run_getObj_map hh,hlen,goInt,Result.andThen]
theorem nr_one{V:Type}(f:Enc V)(x:V):(f.d x).refsIn noRef=true:=by
 have h:=f.nr x;generalize f.d x=d at h;cases d <;> simp_all [D.cells,AE,BK]
theorem aCv{V:Type}(f:Enc V)(l:List (Int×V)):AE noRef ((mapD f.d l).map (·.2))=true:=by
 induction l with
 | nil=>rfl
 | cons x l ih=>show (_&&_)=true; rw [nr_one f x.2]; exact ih
theorem aBW{V:Type}(f:Enc V)(ρ:Nat→Nat)(l:List (Int×V)):(Ent.mpD (mapD f.d l)).ren ρ = .mpD (mapD f.d l):=by
 show Ent.mp _ (BD ρ _)=Ent.mp _ _
 rw [CR _ (aCv f l)]
theorem aAl{V:Type}(f:Enc V){ρ:Nat→Nat}{i:Nat}{l:List (Int×V)}(h:S.ent i = .mpD (mapD f.d l)):S.ent i=(Ent.mpD (mapD f.d l)).ren ρ:=by rw [h,aBW]
theorem pL{V:Type}(f:Enc V){p:Nat→Bool}{l:List (Int×V)}:(Ent.mpD (mapD f.d l)).refsIn p=true:=Cl _ (aCv f l)
theorem EntW.mpL{V:Type}(f:Enc V){ρ:Nat→Nat}{id:Nat}{l:List (Int×V)}(h:S.ent (ρ id) = .mpD (mapD f.d l)):EntW S S' ρ id (.mpD (mapD f.d l)) :=
 .mp h (CR _ (aCv f l)).symm (Cl _ (aCv f l))
end
end Go.IL
open List renaming getElem?_cons_succ → Da
namespace Go.IL
section
variable {P:Ba} {O:bZ} {N:Nat} {S S':St} {o:Oper} {t:Nat}
theorem aCj{T T2 e e2 ty:At}{args:Array AG}{w:World}(hu:P.underlying T=some (.slice e))(hu2:P.underlying T2=some (.slice e2)) :
 (Builtin.append_ #[T,T2] ty args).run P w=(Builtin.append_ #[T,T] ty args).run P w:=by
 unfold Builtin.append_;cases h0:args[0]? with
 | none=>rfl
 | some s =>
   cases h1:args[1]? with
   | none=>rfl
   | some x =>
     simp only [Cm,AR,Cj,CD,DG,Da];simp only [Sem.run_bind,run_underlying hu,run_underlying hu2,Result.andThen_ok];cases s with
     | slice base a b =>
       simp only [Sem.run_bind,run_underlying hu,run_underlying hu2,Result.andThen_ok,Sem.run_pure]
     | _=>rfl
theorem aJl{T T2 e e2:At}{x y:Am}(ho:o.op = .call { callee:=.builtin .append,args:=#[x,y],argTypes:=#[T,T2] })(hu:P.underlying T=some (.slice e))(hu2:P.underlying T2=some (.slice e2))(h:∀ o':Oper,o'.op = .call { callee:=.builtin .append,args:=#[x,y],argTypes:=#[T,T] }→o'.dst=o.dst→IOp P O N o' S S'):IOp P O N o S S':=by
 intro E β a hr next Q hn;have h1:=h { o with op:=.call { callee:=.builtin .append,args:=#[x,y],argTypes:=#[T,T] } } rfl rfl E β a hr next Q hn;unfold Oper.wp at h1 ⊢;have:(execOp a.eval o).run P E.w=(execOp a.eval { o with op:=.call { callee:=.builtin .append,args:=#[x,y],argTypes:=#[T,T] } }).run P E.w:=by
  simp [execOp,ho,resolve,invoke,builtin,aCj hu hu2]
 rw [this];exact h1
end
end Go.IL
open Go Go.IL
namespace Go.Fn
structure aIF where
 am:Int
 ID:Int
 aq:Int
 ae:Int
 ao:Bool
 deriving DecidableEq,Inhabited
structure aW where
 ID:Int
 aa:Int
 ae:Int
 af:Bool
 deriving DecidableEq,Inhabited
def aO:Enc aW:=⟨⟨fun x=>.agg [.int .i64 x.ID,.int .i64 x.aa,.int .i64 x.ae,.bool x.af],4,by decide,fun _=>⟨rfl,rfl⟩⟩,fun _=>rfl⟩

structure aD7 where
 aj:Int
 ak:Int
 ai:(List aW)
 al:(List Int)
 deriving DecidableEq,Inhabited
variable [Fu]
def eJ(a0:List Int)(a1:Int):Nat→Int→Ag Int
 | 0,_=>none
 | n0 + 1,v7 =>
   bnd (decide (v7<(a0.length:Int))) fun x14 =>
   bif x14 then (
    bno (gix a0 v7) fun x16 =>
    bnd (decide (a1=x16)) fun x17 =>
    bif x17 then (
     some v7
    ) else (
      bnd (Af .i64 (v7+1)) fun x19 =>
      (eJ a0 a1 n0) x19
    )
   ) else (
     some (-1)
   )
def lW(a0:List Int)(a1:Int):Ag Int :=
 eJ a0 a1 fuel 0

def dJ(a0:List Int)(a1:Int):Ag Bool :=
 bno (lW a0 a1) fun x1 =>
 bnd (decide (0≤x1)) fun x2 =>
 some x2

end Go.Fn
open Go Go.IL
namespace Go.Fn
structure aM where
 aj:Int
 ak:Int
 L:(List aW)
 af:(List Int)
 deriving DecidableEq,Inhabited
variable [Fu]
def dO(a0:aM)(a1:Int):Nat→Int→Option Int
 | 0,_=>none
 | n0 + 1,v7 =>
   bnd (decide (v7<(a0.L.length:Int))) fun x14 =>
   bif x14 then (
    bno (gix a0.L v7) fun x16 =>
    bnd (decide (x16.ID=a1)) fun x17 =>
    bif x17 then (
     some v7
    ) else (
      bnd (Af .i64 (v7+1)) fun x19 =>
      (dO a0 a1 n0) x19
    )
   ) else (
     some (-1)
   )
def bP(a0:aM)(a1:Int):Option Int :=
 dO a0 a1 fuel 0

def gI(a0:aM)(v18:Int)(kk0:(List Int)→Int→Int→Ag (List Int))(x37:aW)(v41:List Int):Ag (List Int) :=
 bno (bP a0 x37.aa) fun x42 =>
 bnd (Af .i64 (v18+1)) fun x43 =>
 kk0 v41 x42 x43
def dT(a0:aM):Nat→(List Int)→Int→Int→Ag (List Int)
 | 0,_,_,_=>none
 | n0 + 1,v16,v17,v18 =>
   bnd (decide (v18≤(a0.L.length:Int))) fun x33 =>
   bnd (decide (0≤v17)) fun x34 =>
   bnd (x33&&x34) fun x35 =>
   bif x35 then (
    bno (gix a0.L v17) fun x37 =>
    bnd (!decide (x37.aa=0)) fun x44 =>
    bif x44 then (
     bno (app 8 v16 ([x37.aa]:(List Int))) fun x46 =>
     gI a0 v18 (dT a0 n0) x37 x46
    ) else (
      gI a0 v18 (dT a0 n0) x37 v16
    )
   ) else (
     some v16
   )
def gN(a0:aM)(a1:Int):Option (List Int) :=
 bno (bP a0 a1) fun x1 =>
 dT a0 fuel ([]:(List Int)) x1 0

def jZ(a0:List Int)(a1:Int):Nat→Int→Ag Bool
 | 0,_=>none
 | n0 + 1,v7 =>
   bnd (decide (v7<(a0.length:Int))) fun x14 =>
   bif x14 then (
    bno (gix a0 v7) fun x16 =>
    bnd (decide (x16=a1)) fun x17 =>
    bif x17 then (
     some true
    ) else (
      bnd (Af .i64 (v7+1)) fun x19 =>
      (jZ a0 a1 n0) x19
    )
   ) else (
     some false
   )
def nU(a0:List Int)(a1:Int):Ag Bool :=
 jZ a0 a1 fuel 0

def mJ(a0 a1 a2:Int):Ag Int :=
 bnd (decide (a0<1)) fun x1 =>
 bnd (decide (1048576<a0)) fun x2 =>
 bnd (x1||x2) fun x3 =>
 bnd (decide (a1<0)) fun x4 =>
 bnd (x3||x4) fun x5 =>
 bnd (decide (1048576<a1)) fun x6 =>
 bnd (x5||x6) fun x7 =>
 bnd (decide (a2<1)) fun x8 =>
 bnd (x7||x8) fun x9 =>
 bnd (decide (256<a2)) fun x10 =>
 bnd (x9||x10) fun x11 =>
 bif x11 then (
  some 8
 ) else (
   bnd (decide (a0=a1)) fun x13 =>
   bif x13 then (
    some 4
   ) else (
     some 0
   )
 )

def eT(a0:aM)(a1:Int):Nat→(List Int)→Int→Ag (List Int)
 | 0,_,_=>none
 | n0 + 1,v10,v11 =>
   bnd (decide (v11<(a0.L.length:Int))) fun x21 =>
   bif x21 then (
    bno (gix a0.L v11) fun x23 =>
    bnd (decide (x23.aa=a1)) fun x24 =>
    bif x24 then (
     bno (gix a0.L v11) fun x26 =>
     bno (app 8 v10 ([x26.ID]:(List Int))) fun x27 =>
     bnd (Af .i64 (v11+1)) fun x28 =>
     (eT a0 a1 n0) x27 x28
    ) else (
      bnd (Af .i64 (v11+1)) fun x29 =>
      (eT a0 a1 n0) v10 x29
    )
   ) else (
     some v10
   )
def lO(a0:aM)(a1:Int):Option (List Int) :=
 eT a0 a1 fuel ([]:(List Int)) 0

def eN(a0:aM)(a1:aW):Option aM :=
 bno (app 32 ([]:(List aW)) a0.L) fun x1 =>
 bno (bP a0 a1.ID) fun x2 =>
 bno (gix x1 x2) fun x3 =>
 bno (x1[(x2:Int).toNat]?) fun x4 =>
 bnd (x1.set ((x2:Int).toNat) a1) fun x5 =>
 some (⟨a0.aj,a0.ak,x5,a0.af⟩:aM)

def fJ(a0:List Int)(a1:Int):Nat→(List Int)→Int→Ag (List Int)
 | 0,_,_=>none
 | n0 + 1,v10,v11 =>
   bnd (decide (v11<(a0.length:Int))) fun x21 =>
   bif x21 then (
    bno (gix a0 v11) fun x23 =>
    bnd (!decide (x23=a1)) fun x24 =>
    bif x24 then (
     bno (gix a0 v11) fun x26 =>
     bno (app 8 v10 ([x26]:(List Int))) fun x27 =>
     bnd (Af .i64 (v11+1)) fun x28 =>
     (fJ a0 a1 n0) x27 x28
    ) else (
      bnd (Af .i64 (v11+1)) fun x29 =>
      (fJ a0 a1 n0) v10 x29
    )
   ) else (
     some v10
   )
def lA(a0:List Int)(a1:Int):Ag (List Int) :=
 fJ a0 a1 fuel ([]:(List Int)) 0

def eZ(a1 v38 v39:Int)(v40:List aW)(v41:List Int):Nat→(List aW)→Int→Ag aM
 | 0,_,_=>none
 | n2 + 1,v71,v72 =>
   bnd (decide (v72<(v40.length:Int))) fun x82 =>
   bif x82 then (
    bno (gix v40 v72) fun x84 =>
    bnd (!decide (x84.ID=a1)) fun x85 =>
    bif x85 then (
     bno (gix v40 v72) fun x87 =>
     bno (app 32 v71 ([x87]:(List aW))) fun x88 =>
     bnd (Af .i64 (v72+1)) fun x89 =>
     (eZ a1 v38 v39 v40 v41 n2) x88 x89
    ) else (
      bnd (Af .i64 (v72+1)) fun x90 =>
      (eZ a1 v38 v39 v40 v41 n2) v71 x90
    )
   ) else (
     bno (lA v41 a1) fun x91 =>
     some (⟨v38,v39,v71,x91⟩:aM)
   )
def fA(a1:Int)(x2:aW)(x3:List Int)(v11:Int):Nat→Int→Int→Int→(List aW)→(List Int)→Ag aM
 | 0,_,_,_,_,_=>none
 | n1+1,v37,v38,v39,v40,v41 =>
   bnd (decide (v37<(x3.length:Int))) fun x52 =>
   bif x52 then (
    bno (gix x3 v37) fun x54 =>
    bno (bP (⟨v38,v39,v40,v41⟩:aM) x54) fun x55 =>
    bno (gix v40 x55) fun x56 =>
    bnd (Af .i64 (x2.ae*x56.ae)) fun x57 =>
    bno (quoI .i64 x57 v11) fun x58 =>
    bnd (max 1 x58) fun x59 =>
    bno (eN (⟨v38,v39,v40,v41⟩:aM) (⟨x56.ID,x2.aa,x59,x56.af⟩:aW)) fun x60 =>
    bnd (Af .i64 (v37+1)) fun x61 =>
    (fA a1 x2 x3 v11 n1) x61 x60.aj x60.ak x60.L x60.af
   ) else (
     eZ a1 v38 v39 v40 v41 fuel ([]:(List aW)) 0
   )
def fQ(a0:aM)(a1:Int)(x2:aW)(x3:List Int):Nat→Int→Int→Ag aM
 | 0,_,_=>none
 | n0+1,v11,v12 =>
   bnd (decide (v12<(x3.length:Int))) fun x20 =>
   bif x20 then (
    bno (gix x3 v12) fun x22 =>
    bno (bP a0 x22) fun x23 =>
    bno (gix a0.L x23) fun x24 =>
    bnd (Af .i64 (v11+x24.ae)) fun x25 =>
    bnd (Af .i64 (v12+1)) fun x26 =>
    (fQ a0 a1 x2 x3 n0) x25 x26
   ) else (
     fA a1 x2 x3 v11 fuel 0 a0.aj a0.ak a0.L a0.af
   )
def fN(a0:aM)(a1:Int):Option aM :=
 bno (bP a0 a1) fun x1 =>
 bno (gix a0.L x1) fun x2 =>
 bno (lO a0 a1) fun x3 =>
 fQ a0 a1 x2 x3 fuel 0 0

def eY(a1 v6 v7:Int)(v8:Bool)(x10:aW)(x22:List Int):Nat→Int→Int→Int→(List aW)→(List Int)→Ag aM
 | 0,_,_,_,_,_=>none
 | n2+1,v31,v32,v33,v34,v35 =>
   bnd (decide (v31<(x22.length:Int))) fun x44 =>
   bnd (x44&&v8) fun x45 =>
   bif x45 then (
    bno (gix x22 v31) fun x47 =>
    bno (bP (⟨v32,v33,v34,v35⟩:aM) x47) fun x48 =>
    bno (gix v34 x48) fun x49 =>
    bno (eN (⟨v32,v33,v34,v35⟩:aM) (⟨x49.ID,a1,x49.ae,x49.af⟩:aW)) fun x50 =>
    bnd (Af .i64 (v31+1)) fun x51 =>
    (eY a1 v6 v7 v8 x10 x22 n2) x51 x50.aj x50.ak x50.L x50.af
   ) else (
     bno (eN (⟨v32,v33,v34,v35⟩:aM) (⟨x10.ID,v6,v7,x10.af⟩:aW)) fun x52 =>
     some x52
   )
def jH(a1 v6 v7:Int)(v8:Bool)(x10:aW)(v17 v18:Int)(v19:List aW)(v20:List Int):Ag aM :=
 bno (lO (⟨v17,v18,v19,v20⟩:aM) v6) fun x21 =>
 bno (lA x21 a1) fun x22 =>
 eY a1 v6 v7 v8 x10 x22 fuel 0 v17 v18 v19 v20
def jI(a0:aM)(a1:Int)(v6 v7:Int)(v8:Bool):Ag aM :=
 bno (bP a0 a1) fun x9 =>
 bno (gix a0.L x9) fun x10 =>
 bno (gN a0 v6) fun x53 =>
 bno (nU x53 a1) fun x54 =>
 bif x54 then (
  bno (bP a0 v6) fun x56 =>
  bno (gix a0.L x56) fun x57 =>
  bno (eN a0 (⟨x57.ID,x10.aa,x57.ae,x57.af⟩:aW)) fun x58 =>
  jH a1 v6 v7 v8 x10 x58.aj x58.ak x58.L x58.af
 ) else (
   jH a1 v6 v7 v8 x10 a0.aj a0.ak a0.L a0.af
 )
def eW(a0:aM)(a1:Int)(a2 a3:Int)(a4:Bool):Ag aM :=
 bnd (!decide (a2=0)) fun x59 =>
 bno (gd (x59 == true) (bP a0 a2) default) fun x60 =>
 bnd (decide (x60<0)) fun x61 =>
 bnd (x59&&x61) fun x62 =>
 bif x62 then (
  jI a0 a1 0 16 false
 ) else (
   jI a0 a1 a2 a3 a4
 )

def eV(a1 a2 a3:Int)(a4:Bool)(v15 v16:Int)(v17:List aW)(v18:List Int):Nat→Int→Ag (aM×Int)
 | 0,_=>none
 | n1+1,v25 =>
   bnd (decide (v25<(v17.length:Int))) fun x32 =>
   bno (gd (x32 == true) (gix v17 v25) default) fun x33 =>
   bnd (decide (x33.ID<a1)) fun x34 =>
   bnd (x32&&x34) fun x35 =>
   bif x35 then (
    bnd (Af .i64 (v25+1)) fun x37 =>
    (eV a1 a2 a3 a4 v15 v16 v17 v18 n1) x37
   ) else (
     bno (cut v17 0 v25) fun x38 =>
     bno (app 32 ([]:(List aW)) x38) fun x39 =>
     bno (app 32 x39 (([(⟨a1,(-1),16,false⟩:aW)]:(List aW)))) fun x40 =>
     bno (cut v17 v25 (v17.length:Int)) fun x41 =>
     bno (app 32 x40 x41) fun x42 =>
     bno (eW (⟨v15,v16,x42,v18⟩:aM) a1 a2 a3 a4) fun x43 =>
     some (x43,0)
   )
def gR(a1 a2 a3:Int)(a4:Bool)(v15 v16:Int)(v17:List aW)(v18:List Int):Ag (aM×Int) :=
 eV a1 a2 a3 a4 v15 v16 v17 v18 fuel 0
def gV(a0:aM)(a1:Int)(a2 a3:Int)(a4:Bool):Ag (aM×Int) :=
 bno (mJ a1 a2 a3) fun x1 =>
 bnd (!decide (x1=0)) fun x2 =>
 bif x2 then (
  some (a0,x1)
 ) else (
   bno (bP a0 a1) fun x4 =>
   bnd (decide (0≤x4)) fun x5 =>
   bif x5 then (
    some (a0,13)
   ) else (
     bnd (decide (a0.aj≤(a0.L.length:Int))) fun x7 =>
     bnd (decide ((a0.af.length:Int)=0)) fun x8 =>
     bnd (x7&&x8) fun x9 =>
     bif x9 then (
      some (a0,7)
     ) else (
       bnd (decide (a0.aj≤(a0.L.length:Int))) fun x44 =>
       bif x44 then (
        bno (gix a0.af 0) fun x46 =>
        bno (fN a0 x46) fun x47 =>
        gR a1 a2 a3 a4 x47.aj x47.ak x47.L x47.af
       ) else (
         gR a1 a2 a3 a4 a0.aj a0.ak a0.L a0.af
       )
     )
   )
 )

def jY(a0:aM)(a1:Int)(a2 a3:Int)(a4:Bool):Ag (aM×Int) :=
 bno (mJ a1 a2 a3) fun x1 =>
 bnd (!decide (x1=0)) fun x2 =>
 bif x2 then (
  some (a0,x1)
 ) else (
   bno (bP a0 a1) fun x4 =>
   bnd (decide (x4<0)) fun x5 =>
   bif x5 then (
    bno (gV a0 a1 a2 a3 a4) fun x7 =>
    some (x7.1,x7.2)
   ) else (
     bno (eW a0 a1 a2 a3 a4) fun x8 =>
     some (x8,0)
   )
 )

def kV(a0:aM)(a1:Int):Option (aM×Int) :=
 bno (bP a0 a1) fun x1 =>
 bnd (decide (x1<0)) fun x2 =>
 bif x2 then (
  some (a0,6)
 ) else (
   bno (gix a0.L x1) fun x4 =>
   bif x4.af then (
    some (a0,9)
   ) else (
     bno (eN a0 (⟨x4.ID,x4.aa,x4.ae,true⟩:aW)) fun x6 =>
     bno (app 8 ([]:(List Int)) x6.af) fun x7 =>
     bno (app 8 x7 ([a1]:(List Int))) fun x8 =>
     bnd (decide (x6.ak<(x8.length:Int))) fun x9 =>
     bif x9 then (
      bno (gix x8 0) fun x11 =>
      bno (fN (⟨x6.aj,x6.ak,x6.L,x8⟩:aM) x11) fun x12 =>
      some (x12,0)
     ) else (
       some ((⟨x6.aj,x6.ak,x6.L,x8⟩:aM),0)
     )
   )
 )

def kN(a0:aM)(a1:Int):Option (aM×Int) :=
 bno (bP a0 a1) fun x1 =>
 bnd (decide (x1<0)) fun x2 =>
 bif x2 then (
  some (a0,6)
 ) else (
   bno (fN a0 a1) fun x4 =>
   some (x4,0)
 )

end Go.Fn
open Go Go.IL
namespace Go.Fn


variable [Fu]
end Go.Fn
open Go Go.IL
namespace Go.Fn



end Go.Fn
open Go Go.IL
namespace Go.Fn
structure dB where
 am:Int
 ID:Int
 aq:Int
 ae:Int
 ao:Bool
 deriving DecidableEq,Inhabited
def eG:Enc dB:=⟨⟨fun x=>.agg [.int .u8 x.am,.int .i64 x.ID,.int .i64 x.aq,.int .i64 x.ae,.bool x.ao],5,by decide,fun _=>⟨rfl,rfl⟩⟩,fun _=>rfl⟩

structure aK where
 ah:Bool
 au:Int
 ap:Int
 deriving DecidableEq,Inhabited
def aX:Enc aK:=⟨⟨fun x=>.agg [.bool x.ah,.int .i64 x.au,.int .i64 x.ap],3,by decide,fun _=>⟨rfl,rfl⟩⟩,fun _=>rfl⟩

structure bQ where
 Cells:(List aK)
 Free:Int
 Used:Int
 deriving DecidableEq,Inhabited
structure aJ where
 id:Int
 up:Int
 first:Int
 next:Int
 weight:Int
 closed:Bool
 deriving DecidableEq,Inhabited
def aC:Enc aJ:=⟨⟨fun x=>.agg [.int .i64 x.id,.int .i64 x.up,.int .i64 x.first,.int .i64 x.next,.int .i64 x.weight,.bool x.closed],6,by decide,fun _=>⟨rfl,rfl⟩⟩,fun _=>rfl⟩

structure jE where
 dep:Int
 weight:Int
 only:Bool
 deriving DecidableEq,Inhabited
variable [Fu]
def rD(a0 a1 a2:Int):Ag Bool :=
 bnd (decide (a1≤a0)) fun x1 =>
 bnd (decide (a0≤a2)) fun x2 =>
 bnd (x1&&x2) fun x3 =>
 some x3

def zN  : Ag bQ :=
 some (⟨[],(-1),0⟩:bQ)

def lB(a0:jE)(a1:Int)(v6:Bool):Option Int :=
 bif v6 then (
  some 8
 ) else (
   bnd (decide (a1=a0.dep)) fun x8 =>
   bif x8 then (
    some 4
   ) else (
     some 0
   )
 )
def nH(a0:jE)(a1:Int):Option Int :=
 bno (rD a1 1 1048576) fun x10 =>
 bif (!x10) then (
  lB a0 a1 (!x10)
 ) else (
   bno (rD a0.dep 0 1048576) fun x12 =>
   bif (!x12) then (
    lB a0 a1 (!x12)
   ) else (
     bno (rD a0.weight 1 256) fun x14 =>
     lB a0 a1 (!x14)
   )
 )

def lH(a0:bQ)(a1:Int):Option Bool :=
 bnd (decide ((-1)≤a1)) fun x1 =>
 bnd (decide (a1<(a0.Cells.length:Int))) fun x2 =>
 bnd (x1&&x2) fun x3 =>
 some x3

def nQ(a0:bQ)(a1:aK):Option Bool :=
 bno (gd ((!a1.ah) == true) (lH a0 a1.ap) default) fun x1 =>
 bnd ((!a1.ah)&&(!x1)) fun x2 =>
 some x2

def cG(a0:List aK)(a1:bQ):Nat→Int→Ag Int
 | 0,_=>none
 | n0 + 1,v7 =>
   bnd (decide (v7<(a0.length:Int))) fun x14 =>
   bif x14 then (
    bno (gix a0 v7) fun x16 =>
    bno (nQ a1 x16) fun x17 =>
    bif x17 then (
     some v7
    ) else (
      bnd (Af .i64 (v7+1)) fun x19 =>
      (cG a0 a1 n0) x19
    )
   ) else (
     some (-1)
   )
def eQ(a0:List aK)(a1:bQ):Ag Int :=
 cG a0 a1 fuel 0

def eD(a0:List aK)(a1:bQ):Ag Bool :=
 bno (eQ a0 a1) fun x1 =>
 bnd (decide (0≤x1)) fun x2 =>
 some x2

def wH(a0:aK):Option Bool :=
 bif a0.ah then (
  bnd (!decide (a0.ap=0)) fun x2 =>
  some x2
 ) else (
   bnd (!decide (a0.au=0)) fun x3 =>
   some x3
 )

def cM(a0:List aK):Nat→Int→Ag Int
 | 0,_=>none
 | n0 + 1,v7 =>
   bnd (decide (v7<(a0.length:Int))) fun x14 =>
   bif x14 then (
    bno (gix a0 v7) fun x16 =>
    bno (wH x16) fun x17 =>
    bif x17 then (
     some v7
    ) else (
      bnd (Af .i64 (v7+1)) fun x19 =>
      (cM a0 n0) x19
    )
   ) else (
     some (-1)
   )
def fH(a0:List aK):Ag Int :=
 cM a0 fuel 0

def eR(a0:List aK):Ag Bool :=
 bno (fH a0) fun x1 =>
 bnd (decide (0≤x1)) fun x2 =>
 some x2

def iN(a0:bQ):Nat→(List Int)→Int→Ag ((List Int)×Bool)
 | 0,_,_=>none
 | n0 + 1,v9,v10 =>
   bnd (decide (v10=(-1))) fun x19 =>
   bif x19 then (
    some (v9,true)
   ) else (
     bno (gix a0.Cells v10) fun x21 =>
     bno (gd (x21.ah == false) (dJ v9 v10) default) fun x22 =>
     bnd (x21.ah||x22) fun x23 =>
     bif x23 then (
      some (v9,false)
     ) else (
       bno (app 8 v9 ([v10]:(List Int))) fun x25 =>
       bno (gix a0.Cells v10) fun x26 =>
       (iN a0 n0) x25 x26.ap
     )
   )
def pW(a0:bQ):Option ((List Int)×Bool) :=
 iN a0 fuel ([]:(List Int)) a0.Free

def lM(a0:bQ):Nat→Int→Int→Option Int
 | 0,_,_=>none
 | n1 + 1,v17,v18 =>
   bnd (decide (v18<(a0.Cells.length:Int))) fun x26 =>
   bif x26 then (
    bno (gix a0.Cells v18) fun x28 =>
    bif x28.ah then (
     bnd (Af .i64 (v17+1)) fun x30 =>
     bnd (Af .i64 (v18+1)) fun x31 =>
     (lM a0 n1) x30 x31
    ) else (
      bnd (Af .i64 (v18+1)) fun x32 =>
      (lM a0 n1) v17 x32
    )
   ) else (
     bno (pW a0) fun x33 =>
     bnd (!decide (v17=a0.Used)) fun x34 =>
     bnd ((!x33.2)||x34) fun x35 =>
     bnd (Af .i64 (v17+(x33.1.length:Int))) fun x36 =>
     bnd (!decide (x36=(a0.Cells.length:Int))) fun x37 =>
     bnd (x35||x37) fun x38 =>
     bif x38 then (
      some 10
     ) else (
       some 0
     )
   )
def qF(a0:bQ)(v6:Bool):Option Int :=
 bif v6 then (
  some 8
 ) else (
   bno (eR a0.Cells) fun x8 =>
   bif x8 then (
    some 4
   ) else (
     lM a0 fuel 0 0
   )
 )
def qR(a0:bQ):Option Int :=
 bnd (decide (64<(a0.Cells.length:Int))) fun x1 =>
 bif x1 then (
  some 5
 ) else (
   bno (lH a0 a0.Free) fun x40 =>
   bif (!x40) then (
    qF a0 (!x40)
   ) else (
     bno (eD a0.Cells a0) fun x42 =>
     qF a0 x42
   )
 )

def mG(a0:bQ):Nat→(List Int)→Int→Ag (List Int)
 | 0,_,_=>none
 | n0 + 1,v11,v12 =>
   bnd (decide (v12<(a0.Cells.length:Int))) fun x20 =>
   bif x20 then (
    bno (gix a0.Cells v12) fun x22 =>
    bif x22.ah then (
     bno (app 8 v11 ([v12]:(List Int))) fun x24 =>
     bnd (Af .i64 (v12+1)) fun x25 =>
     (mG a0 n0) x24 x25
    ) else (
      bnd (Af .i64 (v12+1)) fun x26 =>
      (mG a0 n0) v11 x26
    )
   ) else (
     some v11
   )
def tH(a0:bQ):Option (List Int) :=
 bno (qR a0) fun x1 =>
 bnd (!decide (x1=0)) fun x2 =>
 bif x2 then (
  some []
 ) else (
   mG a0 fuel ([]:(List Int)) 0
 )

def iH(a0:Int)(a6:List aJ)(x1:List Int):Nat→Int→Ag Int
 | 0,_=>none
 | n0 + 1,v11 =>
   bnd (decide (v11<(x1.length:Int))) fun x21 =>
   bif x21 then (
    bno (gix x1 v11) fun x23 =>
    bno (gix a6 x23) fun x24 =>
    chk (a6.length=64)<|bno (a6[(x23:Int).toNat]?) fun x26 =>
    bnd (decide (x26.id=a0)) fun x27 =>
    bif x27 then (
     some x23
    ) else (
      bnd (Af .i64 (v11+1)) fun x29 =>
      (iH a0 a6 x1 n0) x29
    )
   ) else (
     some (-1)
   )
def dZ(a0 a1 a2:Int)(a3:List aK)(a4 a5:Int)(a6:List aJ)(a7:Int)(a8:List Int):Ag Int :=
 bno (tH (⟨a3,a4,a5⟩:bQ)) fun x1 =>
 iH a0 a6 x1 fuel 0

def qI(a0 a1:Int)(a2:List aK)(a3 a4:Int)(a5:List aJ)(a6:Int)(a7:List Int):Ag Int :=
 some a4

def fY(a0 a1 a2:Int)(a3:List aK)(a4 a5:Int)(a6:List aJ)(a7:Int)(a8:List Int):Nat→Nat→Ag (Int×Int×(List aK)×Int×Int×(List aJ)×Int×(List Int))
 | 0,_=>none
 | n0+1,v14 =>
   bno (a6[v14]?) fun x20 =>
   bnd (!decide (x20.next=a0)) fun x21 =>
   bif x21 then (
    bno (a6[v14]?) fun x23 =>
    bno (gix a6 x23.next) fun x24 =>
    (fY a0 a1 a2 a3 a4 a5 a6 a7 a8 n0) ((x23.next:Int).toNat)
   ) else (
     bno (gix a6 a0) fun x25 =>
     bno (a6[(a0:Int).toNat]?) fun x26 =>
     bno (a6[v14]?) fun x27 =>
     bnd (a6.set v14 (⟨x27.id,x27.up,x27.first,x26.next,x27.weight,x27.closed⟩:aJ)) fun x28 =>
     some (a1,a2,a3,a4,a5,x28,a7,a8)
   )
def fX(a0 a1 a2:Int)(a3:List aK)(a4 a5:Int)(a6:List aJ)(a7:Int)(a8:List Int):Nat→Nat→Ag (Int×Int×(List aK)×Int×Int×(List aJ)×Int×(List Int))
 | 0,_=>none
 | n1+1,v42 =>
   bno (a6[v42]?) fun x48 =>
   bnd (!decide (x48.next=a0)) fun x49 =>
   bif x49 then (
    bno (a6[v42]?) fun x51 =>
    bno (gix a6 x51.next) fun x52 =>
    (fX a0 a1 a2 a3 a4 a5 a6 a7 a8 n1) ((x51.next:Int).toNat)
   ) else (
     bno (gix a6 a0) fun x53 =>
     bno (a6[(a0:Int).toNat]?) fun x54 =>
     bno (a6[v42]?) fun x55 =>
     bnd (a6.set v42 (⟨x55.id,x55.up,x55.first,x54.next,x55.weight,x55.closed⟩:aJ)) fun x56 =>
     some (a1,a2,a3,a4,a5,x56,a7,a8)
   )
def jX(a0 a1 a2:Int)(a3:List aK)(a4 a5:Int)(a6:List aJ)(a7:Int)(a8:List Int):Ag (Int×Int×(List aK)×Int×Int×(List aJ)×Int×(List Int)) :=
 bno (gix a6 a0) fun x1 =>
 chk (a6.length=64)<|bno (a6[(a0:Int).toNat]?) fun x3 =>
 bnd (decide (x3.up=(-1))) fun x4 =>
 bif x4 then (
  bnd (!decide (a7=a0)) fun x6 =>
  bif x6 then (
   bno (gix a6 a7) fun x8 =>
   fY a0 a1 a2 a3 a4 a5 a6 a7 a8 fuel ((a7:Int).toNat)
  ) else (
    bno (gix a6 a0) fun x29 =>
    bno (a6[(a0:Int).toNat]?) fun x30 =>
    some (a1,a2,a3,a4,a5,a6,x30.next,a8)
  )
 ) else (
   bno (gix a6 x3.up) fun x31 =>
   bno (a6[(x3.up:Int).toNat]?) fun x32 =>
   bnd (!decide (x32.first=a0)) fun x33 =>
   bif x33 then (
    bno (a6[(x3.up:Int).toNat]?) fun x35 =>
    bno (gix a6 x35.first) fun x36 =>
    fX a0 a1 a2 a3 a4 a5 a6 a7 a8 fuel ((x35.first:Int).toNat)
   ) else (
     bno (gix a6 a0) fun x57 =>
     bno (a6[(a0:Int).toNat]?) fun x58 =>
     bno (a6[(x3.up:Int).toNat]?) fun x59 =>
     bnd (a6.set ((x3.up:Int).toNat) (⟨x59.id,x59.up,x58.next,x59.next,x59.weight,x59.closed⟩:aJ)) fun x60 =>
     some (a1,a2,a3,a4,a5,x60,a7,a8)
   )
 )

def jJ(a0 a1 a2 a3:Int)(a4:List aK)(a5 a6:Int)(a7:List aJ)(a8:Int)(a9:List Int):Ag (Int×Int×(List aK)×Int×Int×(List aJ)×Int×(List Int)) :=
 bnd (decide (a1=(-1))) fun x1 =>
 bif x1 then (
  chk (a7.length=64)<|bno (gix a7 a0) fun x4 =>
  bno (a7[(a0:Int).toNat]?) fun x5 =>
  bnd (a7.set ((a0:Int).toNat) (⟨x5.id,a1,x5.first,x5.next,x5.weight,x5.closed⟩:aJ)) fun x6 =>
  bno (gix x6 a0) fun x7 =>
  bno (x6[(a0:Int).toNat]?) fun x8 =>
  bnd (x6.set ((a0:Int).toNat) (⟨x8.id,x8.up,x8.first,a8,x8.weight,x8.closed⟩:aJ)) fun x9 =>
  some (a2,a3,a4,a5,a6,x9,a0,a9)
 ) else (
   bno (gix a7 a1) fun x10 =>
   chk (a7.length=64)<|bno (a7[(a1:Int).toNat]?) fun x12 =>
   bno (gix a7 a0) fun x13 =>
   bno (a7[(a0:Int).toNat]?) fun x14 =>
   bnd (a7.set ((a0:Int).toNat) (⟨x14.id,a1,x14.first,x14.next,x14.weight,x14.closed⟩:aJ)) fun x15 =>
   bno (gix x15 a0) fun x16 =>
   bno (x15[(a0:Int).toNat]?) fun x17 =>
   bnd (x15.set ((a0:Int).toNat) (⟨x17.id,x17.up,x17.first,x12.first,x17.weight,x17.closed⟩:aJ)) fun x18 =>
   bno (x18[(a1:Int).toNat]?) fun x19 =>
   bnd (x18.set ((a1:Int).toNat) (⟨x19.id,x19.up,a0,x19.next,x19.weight,x19.closed⟩:aJ)) fun x20 =>
   some (a2,a3,a4,a5,a6,x20,a8,a9)
 )

def fP(a0 a1 a2 a3:Int)(a4:List aK)(a5 a6:Int)(a7:List aJ)(a8:Int)(a9:List Int):Ag (Int×Int×(List aK)×Int×Int×(List aJ)×Int×(List Int)) :=
 bno (jX a0 a2 a3 a4 a5 a6 a7 a8 a9) fun x1 =>
 bno (jJ a0 a1 x1.1 x1.2.1 x1.2.2.1 x1.2.2.2.1 x1.2.2.2.2.1 x1.2.2.2.2.2.1 x1.2.2.2.2.2.2.1 x1.2.2.2.2.2.2.2) fun x2 =>
 some (x2.1,x2.2.1,x2.2.2.1,x2.2.2.2.1,x2.2.2.2.2.1,x2.2.2.2.2.2.1,x2.2.2.2.2.2.2.1,x2.2.2.2.2.2.2.2)

def fB(a0:List aK):Ag (List aK) :=
 aDJ a0 (
  some ([]:(List aK))
 ) (
   bno (app 24 ([]:(List aK)) a0) fun x3 =>
   some x3
 )

def mP(a0:bQ):Option ((List aK)×Int×Int) :=
 bno (fB a0.Cells) fun x1 =>
 some (x1,a0.Free,a0.Used)

def pD(a0:bQ)(a1:Int):Option Bool :=
 bnd (decide (0≤a1)) fun x1 =>
 bnd (decide (a1<(a0.Cells.length:Int))) fun x2 =>
 bnd (x1&&x2) fun x3 =>
 bno (gd (x3 == true) (gix a0.Cells a1) default) fun x4 =>
 bnd (x3&&x4.ah) fun x5 =>
 some x5

def rY(a0:bQ)(a1:Int):Option (bQ×Int) :=
 bno (mP a0) fun x1 =>
 bno (qR a0) fun x2 =>
 bnd (!decide (x2=0)) fun x3 =>
 bif x3 then (
  some ((⟨x1.1,x1.2.1,x1.2.2⟩:bQ),x2)
 ) else (
   bno (pD a0 a1) fun x5 =>
   bif (!x5) then (
    some ((⟨x1.1,x1.2.1,x1.2.2⟩:bQ),6)
   ) else (
     bno (gix x1.1 a1) fun x7 =>
     bno (x1.1[(a1:Int).toNat]?) fun x8 =>
     bnd (x1.1.set ((a1:Int).toNat) (⟨false,0,x1.2.1⟩:aK)) fun x9 =>
     bnd (Af .i64 (x1.2.2-1)) fun x10 =>
     some ((⟨x9,a1,x10⟩:bQ),0)
   )
 )

def pB(a0 a1:Int):Ag Bool :=
 bnd (decide (a0=a1)) fun x1 =>
 some x1

def eE(a0:List Int)(a1:Int):Nat→Int→Ag Int
 | 0,_=>none
 | n0 + 1,v7 =>
   bnd (decide (v7<(a0.length:Int))) fun x14 =>
   bif x14 then (
    bno (gix a0 v7) fun x16 =>
    bno (pB x16 a1) fun x17 =>
    bif x17 then (
     some v7
    ) else (
      bnd (Af .i64 (v7+1)) fun x19 =>
      (eE a0 a1 n0) x19
    )
   ) else (
     some (-1)
   )
def kU(a0:List Int)(a1:Int):Ag Int :=
 eE a0 a1 fuel 0

def dI(a1:Int):Nat→(List Int)→Int→Int→Ag (List Int)
 | 0,_,_,_=>none
 | n0 + 1,v17,v18,v19 =>
   bnd (decide (v19<(v17.length:Int))) fun x32 =>
   bif x32 then (
    bno (gix v17 v19) fun x34 =>
    bno (v17[(v19:Int).toNat]?) fun x35 =>
    bno (pB x35 a1) fun x36 =>
    bif (!x36) then (
     bno (gix v17 v18) fun x38 =>
     bno (v17[(v18:Int).toNat]?) fun x39 =>
     bnd (v17.set ((v18:Int).toNat) x35) fun x40 =>
     bnd (Af .i64 (v18+1)) fun x41 =>
     bnd (Af .i64 (v19+1)) fun x42 =>
     (dI a1 n0) x40 x41 x42
    ) else (
      bnd (Af .i64 (v19+1)) fun x43 =>
      (dI a1 n0) v17 v18 x43
    )
   ) else (
     bno (cut v17 0 v18) fun x44 =>
     bno (cut x44 0 v18) fun x45 =>
     some x45
   )
def eF(a0:List Int)(a1:Int):Ag (List Int) :=
 bno (kU a0 a1) fun x1 =>
 bnd (decide (x1=(-1))) fun x2 =>
 bif x2 then (
  some a0
 ) else (
   bnd (Af .i64 (x1+1)) fun x4 =>
   dI a1 fuel a0 x1 x4
 )

def mT(a0 v53:Int)(v63:List Int):Nat→Int→Int→Int→(List aK)→Int→Int→(List aJ)→Int→(List Int)→Ag (Int×Int×(List aK)×Int×Int×(List aJ)×Int×(List Int))
 | 0,_,_,_,_,_,_,_,_,_=>none
 | n4+1,v92,v93,v94,v95,v96,v97,v98,v99,v100 =>
   bnd (decide (v92<(v63.length:Int))) fun x120 =>
   bif x120 then (
    bno (gix v63 v92) fun x122 =>
    bno (v63[(v92:Int).toNat]?) fun x123 =>
    bno (gix v98 a0) fun x124 =>
    chk (v98.length=64)<|bno (v98[(a0:Int).toNat]?) fun x126 =>
    bno (gix v98 x123) fun x127 =>
    bno (v98[(x123:Int).toNat]?) fun x128 =>
    bnd (Af .i64 (x126.weight*x128.weight)) fun x129 =>
    bno (quoI .i64 x129 v53) fun x130 =>
    bnd (max x130 1) fun x131 =>
    bno (gix v98 x123) fun x132 =>
    bno (v98[(x123:Int).toNat]?) fun x133 =>
    bnd (v98.set ((x123:Int).toNat) (⟨x133.id,x133.up,x133.first,x133.next,x131,x133.closed⟩:aJ)) fun x134 =>
    bno (gix x134 a0) fun x135 =>
    bno (x134[(a0:Int).toNat]?) fun x136 =>
    bno (fP x123 x136.up v93 v94 v95 v96 v97 x134 v99 v100) fun x137 =>
    bnd (Af .i64 (v92+1)) fun x138 =>
    (mT a0 v53 v63 n4) x138 x137.1 x137.2.1 x137.2.2.1 x137.2.2.2.1 x137.2.2.2.2.1 x137.2.2.2.2.2.1 x137.2.2.2.2.2.2.1 x137.2.2.2.2.2.2.2
   ) else (
     bno (jX a0 v93 v94 v95 v96 v97 v98 v99 v100) fun x139 =>
     bno (rY (⟨x139.2.2.1,x139.2.2.2.1,x139.2.2.2.2.1⟩:bQ) a0) fun x140 =>
     chk (x139.2.2.2.2.2.1.length=64)<|bno (eF x139.2.2.2.2.2.2.2 a0) fun x142 =>
     some (x139.1,x139.2.1,x140.1.Cells,x140.1.Free,x140.1.Used,x139.2.2.2.2.2.1,x139.2.2.2.2.2.2.1,x142)
   )
def mU(a0 a1 a2:Int)(a3:List aK)(a4 a5:Int)(a6:List aJ)(a7:Int)(a8:List Int)(v53:Int):Nat→Int→(List Int)→Ag (Int×Int×(List aK)×Int×Int×(List aJ)×Int×(List Int))
 | 0,_,_=>none
 | n3+1,v62,v63 =>
   bnd (!decide (v62=(-1))) fun x69 =>
   bif x69 then (
    bno (gix a6 v62) fun x71 =>
    bno (a6[(v62:Int).toNat]?) fun x72 =>
    bno (app 8 v63 ([v62]:(List Int))) fun x73 =>
    (mU a0 a1 a2 a3 a4 a5 a6 a7 a8 v53 n3) x72.next x73
   ) else (
     mT a0 v53 v63 fuel 0 a1 a2 a3 a4 a5 a6 a7 a8
   )
def dY(a0 v53:Int)(v152:List Int):Nat→Int→Int→Int→(List aK)→Int→Int→(List aJ)→Int→(List Int)→Ag (Int×Int×(List aK)×Int×Int×(List aJ)×Int×(List Int))
 | 0,_,_,_,_,_,_,_,_,_=>none
 | n6+1,v181,v182,v183,v184,v185,v186,v187,v188,v189 =>
   bnd (decide (v181<(v152.length:Int))) fun x209 =>
   bif x209 then (
    bno (gix v152 v181) fun x211 =>
    bno (v152[(v181:Int).toNat]?) fun x212 =>
    bno (gix v187 a0) fun x213 =>
    chk (v187.length=64)<|bno (v187[(a0:Int).toNat]?) fun x215 =>
    bno (gix v187 x212) fun x216 =>
    bno (v187[(x212:Int).toNat]?) fun x217 =>
    bnd (Af .i64 (x215.weight*x217.weight)) fun x218 =>
    bno (quoI .i64 x218 v53) fun x219 =>
    bnd (max x219 1) fun x220 =>
    bno (gix v187 x212) fun x221 =>
    bno (v187[(x212:Int).toNat]?) fun x222 =>
    bnd (v187.set ((x212:Int).toNat) (⟨x222.id,x222.up,x222.first,x222.next,x220,x222.closed⟩:aJ)) fun x223 =>
    bno (gix x223 a0) fun x224 =>
    bno (x223[(a0:Int).toNat]?) fun x225 =>
    bno (fP x212 x225.up v182 v183 v184 v185 v186 x223 v188 v189) fun x226 =>
    bnd (Af .i64 (v181+1)) fun x227 =>
    (dY a0 v53 v152 n6) x227 x226.1 x226.2.1 x226.2.2.1 x226.2.2.2.1 x226.2.2.2.2.1 x226.2.2.2.2.2.1 x226.2.2.2.2.2.2.1 x226.2.2.2.2.2.2.2
   ) else (
     bno (jX a0 v182 v183 v184 v185 v186 v187 v188 v189) fun x228 =>
     bno (rY (⟨x228.2.2.1,x228.2.2.2.1,x228.2.2.2.2.1⟩:bQ) a0) fun x229 =>
     chk (x228.2.2.2.2.2.1.length=64)<|bno (eF x228.2.2.2.2.2.2.2 a0) fun x231 =>
     some (x228.1,x228.2.1,x229.1.Cells,x229.1.Free,x229.1.Used,x228.2.2.2.2.2.1,x228.2.2.2.2.2.2.1,x231)
   )
def iZ(a0 a1 a2:Int)(a3:List aK)(a4 a5:Int)(a6:List aJ)(a7:Int)(a8:List Int)(v53:Int):Nat→Int→(List Int)→Ag (Int×Int×(List aK)×Int×Int×(List aJ)×Int×(List Int))
 | 0,_,_=>none
 | n5+1,v151,v152 =>
   bnd (!decide (v151=(-1))) fun x158 =>
   bif x158 then (
    bno (gix a6 v151) fun x160 =>
    bno (a6[(v151:Int).toNat]?) fun x161 =>
    bno (app 8 v152 ([v151]:(List Int))) fun x162 =>
    (iZ a0 a1 a2 a3 a4 a5 a6 a7 a8 v53 n5) x161.next x162
   ) else (
     dY a0 v53 v152 fuel 0 a1 a2 a3 a4 a5 a6 a7 a8
   )
def lC(a0 a1 a2:Int)(a3:List aK)(a4 a5:Int)(a6:List aJ)(a7:Int)(a8:List Int)(v53:Int):Ag (Int×Int×(List aK)×Int×Int×(List aJ)×Int×(List Int)) :=
 bnd (decide (a0=(-1))) fun x54 =>
 bif x54 then (
  chk (a6.length=64)<|mU a0 a1 a2 a3 a4 a5 a6 a7 a8 v53 fuel a7 ([]:(List Int))
 ) else (
   bno (gix a6 a0) fun x143 =>
   chk (a6.length=64)<|bno (a6[(a0:Int).toNat]?) fun x145 =>
   iZ a0 a1 a2 a3 a4 a5 a6 a7 a8 v53 fuel x145.first ([]:(List Int))
 )
def mS(a0 a1 a2:Int)(a3:List aK)(a4 a5:Int)(a6:List aJ)(a7:Int)(a8:List Int):Nat→Int→Int→Ag (Int×Int×(List aK)×Int×Int×(List aJ)×Int×(List Int))
 | 0,_,_=>none
 | n7+1,v242,v243 =>
   bnd (!decide (v242=(-1))) fun x251 =>
   bif x251 then (
    bno (gix a6 v242) fun x253 =>
    bno (a6[(v242:Int).toNat]?) fun x254 =>
    bno (gix a6 v242) fun x255 =>
    bno (a6[(v242:Int).toNat]?) fun x256 =>
    bnd (Af .i64 (v243+x256.weight)) fun x257 =>
    (mS a0 a1 a2 a3 a4 a5 a6 a7 a8 n7) x254.next x257
   ) else (
     lC a0 a1 a2 a3 a4 a5 a6 a7 a8 v243
   )
def iY(a0 a1 a2:Int)(a3:List aK)(a4 a5:Int)(a6:List aJ)(a7:Int)(a8:List Int):Nat→Int→Int→Ag (Int×Int×(List aK)×Int×Int×(List aJ)×Int×(List Int))
 | 0,_,_=>none
 | n8+1,v268,v269 =>
   bnd (!decide (v268=(-1))) fun x277 =>
   bif x277 then (
    bno (gix a6 v268) fun x279 =>
    bno (a6[(v268:Int).toNat]?) fun x280 =>
    bno (gix a6 v268) fun x281 =>
    bno (a6[(v268:Int).toNat]?) fun x282 =>
    bnd (Af .i64 (v269+x282.weight)) fun x283 =>
    (iY a0 a1 a2 a3 a4 a5 a6 a7 a8 n8) x280.next x283
   ) else (
     lC a0 a1 a2 a3 a4 a5 a6 a7 a8 v269
   )
def hD(a0 a1 a2:Int)(a3:List aK)(a4 a5:Int)(a6:List aJ)(a7:Int)(a8:List Int):Ag (Int×Int×(List aK)×Int×Int×(List aJ)×Int×(List Int)) :=
 bnd (decide (a0=(-1))) fun x232 =>
 bif x232 then (
  chk (a6.length=64)<|mS a0 a1 a2 a3 a4 a5 a6 a7 a8 fuel a7 0
 ) else (
   bno (gix a6 a0) fun x258 =>
   chk (a6.length=64)<|bno (a6[(a0:Int).toNat]?) fun x260 =>
   iY a0 a1 a2 a3 a4 a5 a6 a7 a8 fuel x260.first 0
 )

def rX(a0:bQ)(a1:Int):Option (bQ×Int×Int) :=
 bno (mP a0) fun x1 =>
 bno (qR a0) fun x2 =>
 bnd (!decide (x2=0)) fun x3 =>
 bif x3 then (
  some ((⟨x1.1,x1.2.1,x1.2.2⟩:bQ),0,x2)
 ) else (
   bnd (decide (64≤a0.Used)) fun x5 =>
   bif x5 then (
    some ((⟨x1.1,x1.2.1,x1.2.2⟩:bQ),0,7)
   ) else (
     bnd (Af .i64 (x1.2.2+1)) fun x7 =>
     bnd (decide (x1.2.1=(-1))) fun x8 =>
     bif x8 then (
      bno (app 24 x1.1 (([(⟨true,a1,0⟩:aK)]:(List aK)))) fun x10 =>
      some (((⟨x10,x1.2.1,x7⟩:bQ),(a0.Cells.length:Int),0))
     ) else (
       bno (gix x1.1 x1.2.1) fun x11 =>
       bno (x1.1[(x1.2.1:Int).toNat]?) fun x12 =>
       bno (gix x1.1 x1.2.1) fun x13 =>
       bno (x1.1[(x1.2.1:Int).toNat]?) fun x14 =>
       bnd (x1.1.set ((x1.2.1:Int).toNat) (⟨true,a1,0⟩:aK)) fun x15 =>
       some ((⟨x15,x12.ap,x7⟩:bQ),x1.2.1,0)
     )
   )
 )

def fR(a1:Int)(a7:List aJ):Nat→Int→Ag Bool
 | 0,_=>none
 | n0 + 1,v8 =>
   bnd (!decide (v8=(-1))) fun x16 =>
   bif x16 then (
    bno (gix a7 v8) fun x18 =>
    chk (a7.length=64)<|bno (a7[(v8:Int).toNat]?) fun x20 =>
    bnd (decide (x20.up=a1)) fun x21 =>
    bif x21 then (
     some true
    ) else (
      (fR a1 a7 n0) x20.up
    )
   ) else (
     some false
   )
def nN(a0 a1 a2 a3:Int)(a4:List aK)(a5 a6:Int)(a7:List aJ)(a8:Int)(a9:List Int):Ag Bool :=
 fR a1 a7 fuel a0

def fF(a0:Int)(v39:List Int):Nat→Int→Int→Int→(List aK)→Int→Int→(List aJ)→Int→(List Int)→Ag (Int×Int×(List aK)×Int×Int×(List aJ)×Int×(List Int))
 | 0,_,_,_,_,_,_,_,_,_=>none
 | n3 + 1,v59,v60,v61,v62,v63,v64,v65,v66,v67 =>
   bnd (decide (v59<(v39.length:Int))) fun x77 =>
   bif x77 then (
    bno (gix v39 v59) fun x79 =>
    bno (v39[(v59:Int).toNat]?) fun x80 =>
    bnd (!decide (x80=a0)) fun x81 =>
    bif x81 then (
     bno (fP x80 a0 v60 v61 v62 v63 v64 v65 v66 v67) fun x83 =>
     bnd (Af .i64 (v59+1)) fun x84 =>
     (fF a0 v39 n3) x84 x83.1 x83.2.1 x83.2.2.1 x83.2.2.2.1 x83.2.2.2.2.1 x83.2.2.2.2.2.1 x83.2.2.2.2.2.2.1 x83.2.2.2.2.2.2.2
    ) else (
      bnd (Af .i64 (v59+1)) fun x85 =>
      (fF a0 v39 n3) x85 v60 v61 v62 v63 v64 v65 v66 v67
    )
   ) else (
     some (v60,v61,v62,v63,v64,v65,v66,v67)
   )
def gP(a0:Int)(x25:Int×Int×(List aK)×Int×Int×(List aJ)×Int×(List Int))(x29:List aJ):Nat→Int→(List Int)→Ag (Int×Int×(List aK)×Int×Int×(List aJ)×Int×(List Int))
 | 0,_,_=>none
 | n2+1,v38,v39 =>
   bnd (!decide (v38=(-1))) fun x45 =>
   bif x45 then (
    bno (gix x29 v38) fun x47 =>
    bno (x29[(v38:Int).toNat]?) fun x48 =>
    bno (app 8 v39 ([v38]:(List Int))) fun x49 =>
    (gP a0 x25 x29 n2) x48.next x49
   ) else (
     fF a0 v39 fuel 0 x25.1 x25.2.1 x25.2.2.1 x25.2.2.2.1 x25.2.2.2.2.1 x29 x25.2.2.2.2.2.2.1 x25.2.2.2.2.2.2.2
   )
def fE(a0:Int)(v94:List Int):Nat→Int→Int→Int→(List aK)→Int→Int→(List aJ)→Int→(List Int)→Ag (Int×Int×(List aK)×Int×Int×(List aJ)×Int×(List Int))
 | 0,_,_,_,_,_,_,_,_,_=>none
 | n5 + 1,v114,v115,v116,v117,v118,v119,v120,v121,v122 =>
   bnd (decide (v114<(v94.length:Int))) fun x132 =>
   bif x132 then (
    bno (gix v94 v114) fun x134 =>
    bno (v94[(v114:Int).toNat]?) fun x135 =>
    bnd (!decide (x135=a0)) fun x136 =>
    bif x136 then (
     bno (fP x135 a0 v115 v116 v117 v118 v119 v120 v121 v122) fun x138 =>
     bnd (Af .i64 (v114+1)) fun x139 =>
     (fE a0 v94 n5) x139 x138.1 x138.2.1 x138.2.2.1 x138.2.2.2.1 x138.2.2.2.2.1 x138.2.2.2.2.2.1 x138.2.2.2.2.2.2.1 x138.2.2.2.2.2.2.2
    ) else (
      bnd (Af .i64 (v114+1)) fun x140 =>
      (fE a0 v94 n5) x140 v115 v116 v117 v118 v119 v120 v121 v122
    )
   ) else (
     some (v115,v116,v117,v118,v119,v120,v121,v122)
   )
def gO(a0:Int)(x25:Int×Int×(List aK)×Int×Int×(List aJ)×Int×(List Int))(x29:List aJ):Nat→Int→(List Int)→Ag (Int×Int×(List aK)×Int×Int×(List aJ)×Int×(List Int))
 | 0,_,_=>none
 | n4+1,v93,v94 =>
   bnd (!decide (v93=(-1))) fun x100 =>
   bif x100 then (
    bno (gix x29 v93) fun x102 =>
    bno (x29[(v93:Int).toNat]?) fun x103 =>
    bno (app 8 v94 ([v93]:(List Int))) fun x104 =>
    (gO a0 x25 x29 n4) x103.next x104
   ) else (
     fE a0 v94 fuel 0 x25.1 x25.2.1 x25.2.2.1 x25.2.2.2.1 x25.2.2.2.2.1 x29 x25.2.2.2.2.2.2.1 x25.2.2.2.2.2.2.2
   )
def kC(a0 x1 v7:Int)(v8:Bool)(v17 v18:Int)(v19:List aK)(v20 v21:Int)(v22:List aJ)(v23:Int)(v24:List Int):Ag (Int×Int×(List aK)×Int×Int×(List aJ)×Int×(List Int)) :=
 bno (fP a0 x1 v17 v18 v19 v20 v21 v22 v23 v24) fun x25 =>
 bno (gix x25.2.2.2.2.2.1 a0) fun x26 =>
 chk (x25.2.2.2.2.2.1.length=64)<|bno (x25.2.2.2.2.2.1[(a0:Int).toNat]?) fun x28 =>
 bnd (x25.2.2.2.2.2.1.set ((a0:Int).toNat) (⟨x28.id,x28.up,x28.first,x28.next,v7,x28.closed⟩:aJ)) fun x29 =>
 bif (!v8) then (
  some (x25.1,x25.2.1,x25.2.2.1,x25.2.2.2.1,x25.2.2.2.2.1,x29,x25.2.2.2.2.2.2.1,x25.2.2.2.2.2.2.2)
 ) else (
   bnd (decide (x1=(-1))) fun x31 =>
   bif x31 then (
    gP a0 x25 x29 fuel x25.2.2.2.2.2.2.1 ([]:(List Int))
   ) else (
     bno (gix x29 x1) fun x86 =>
     bno (x29[(x1:Int).toNat]?) fun x87 =>
     gO a0 x25 x29 fuel x87.first ([]:(List Int))
   )
 )
def kD(a0 a2 a3:Int)(a4:List aK)(a5 a6:Int)(a7:List aJ)(a8:Int)(a9:List Int)(x1 v6 v7:Int)(v8:Bool):Ag (Int×Int×(List aK)×Int×Int×(List aJ)×Int×(List Int)) :=
 bnd (!decide (x1=(-1))) fun x141 =>
 bno (gd (x141 == true) (nN x1 a0 a2 a3 a4 a5 a6 a7 a8 a9) default) fun x142 =>
 bnd (x141&&x142) fun x143 =>
 bif x143 then (
  bno (gix a7 a0) fun x145 =>
  chk (a7.length=64)<|bno (a7[(a0:Int).toNat]?) fun x147 =>
  bno (fP x1 x147.up a2 a3 a4 a5 a6 a7 a8 a9) fun x148 =>
  kC a0 x1 v7 v8 x148.1 x148.2.1 x148.2.2.1 x148.2.2.2.1 x148.2.2.2.2.1 x148.2.2.2.2.2.1 x148.2.2.2.2.2.2.1 x148.2.2.2.2.2.2.2
 ) else (
   kC a0 x1 v7 v8 a2 a3 a4 a5 a6 a7 a8 a9
 )
def jO(a0:Int)(a1:jE)(a2 a3:Int)(a4:List aK)(a5 a6:Int)(a7:List aJ)(a8:Int)(a9:List Int):Ag (Int×Int×(List aK)×Int×Int×(List aJ)×Int×(List Int)) :=
 bno (dZ a1.dep a2 a3 a4 a5 a6 a7 a8 a9) fun x1 =>
 bnd (decide (x1=(-1))) fun x149 =>
 bnd (!decide (a1.dep=0)) fun x150 =>
 bnd (x149&&x150) fun x151 =>
 bif x151 then (
  kD a0 a2 a3 a4 a5 a6 a7 a8 a9 x1 0 16 false
 ) else (
   kD a0 a2 a3 a4 a5 a6 a7 a8 a9 x1 a1.dep a1.weight a1.only
 )

def iO(a0:Int)(a1:jE)(v10 v11:Int)(v12:List aK)(v13 v14:Int)(v15:List aJ)(v16:Int)(v17:List Int):Ag (Int×Int×Int×(List aK)×Int×Int×(List aJ)×Int×(List Int)) :=
 bno (rX (⟨v12,v13,v14⟩:bQ) a0) fun x18 =>
 bnd (!decide (x18.2.2=0)) fun x19 =>
 bif x19 then (
  some (x18.2.2,v10,v11,v12,v13,v14,v15,v16,v17)
 ) else (
   bno (gix v15 x18.2.1) fun x21 =>
   chk (v15.length=64)<|bno (v15[(x18.2.1:Int).toNat]?) fun x23 =>
   bnd (v15.set ((x18.2.1:Int).toNat) (⟨a0,0,(-1),(-1),16,false⟩:aJ)) fun x24 =>
   bno (jJ x18.2.1 (-1) v10 v11 x18.1.Cells x18.1.Free x18.1.Used x24 v16 v17) fun x25 =>
   bno (jO x18.2.1 a1 x25.1 x25.2.1 x25.2.2.1 x25.2.2.2.1 x25.2.2.2.2.1 x25.2.2.2.2.2.1 x25.2.2.2.2.2.2.1 x25.2.2.2.2.2.2.2) fun x26 =>
   some (0,x26.1,x26.2.1,x26.2.2.1,x26.2.2.2.1,x26.2.2.2.2.1,x26.2.2.2.2.2.1,x26.2.2.2.2.2.2.1,x26.2.2.2.2.2.2.2)
 )
def lD(a0:Int)(a1:jE)(a2 a3:Int)(a4:List aK)(a5 a6:Int)(a7:List aJ)(a8:Int)(a9:List Int):Ag (Int×Int×Int×(List aK)×Int×Int×(List aJ)×Int×(List Int)) :=
 bno (qI a2 a3 a4 a5 a6 a7 a8 a9) fun x27 =>
 bnd (decide (a2≤x27)) fun x28 =>
 bif x28 then (
  chk (a7.length=64)<|bnd (decide ((a9.length:Int)=0)) fun x31 =>
  bif x31 then (
   some (7,a2,a3,a4,a5,a6,a7,a8,a9)
  ) else (
    bno (gix a9 0) fun x33 =>
    bno (a9[(0:Int).toNat]?) fun x34 =>
    bno (hD x34 a2 a3 a4 a5 a6 a7 a8 a9) fun x35 =>
    iO a0 a1 x35.1 x35.2.1 x35.2.2.1 x35.2.2.2.1 x35.2.2.2.2.1 x35.2.2.2.2.2.1 x35.2.2.2.2.2.2.1 x35.2.2.2.2.2.2.2
  )
 ) else (
   iO a0 a1 a2 a3 a4 a5 a6 a7 a8 a9
 )

def jA(a0 a1 a2:Int)(a3:Bool)(a4 a5:Int)(a6:List aK)(a7 a8:Int)(a9:List aJ)(a10:Int)(a11:List Int):Ag (Int×Int×Int×(List aK)×Int×Int×(List aJ)×Int×(List Int)) :=
 bno (nH (⟨a1,a2,a3⟩:jE) a0) fun x1 =>
 bnd (!decide (x1=0)) fun x2 =>
 bif x2 then (
  some (x1,a4,a5,a6,a7,a8,a9,a10,a11)
 ) else (
   bno (dZ a0 a4 a5 a6 a7 a8 a9 a10 a11) fun x4 =>
   bnd (!decide (x4=(-1))) fun x5 =>
   bif x5 then (
    some (13,a4,a5,a6,a7,a8,a9,a10,a11)
   ) else (
     bno (lD a0 (⟨a1,a2,a3⟩:jE) a4 a5 a6 a7 a8 a9 a10 a11) fun x7 =>
     some (x7.1,x7.2.1,x7.2.2.1,x7.2.2.2.1,x7.2.2.2.2.1,x7.2.2.2.2.2.1,x7.2.2.2.2.2.2.1,x7.2.2.2.2.2.2.2.1,x7.2.2.2.2.2.2.2.2)
   )
 )

def oI(a0 a1 a2:Int)(a3:Bool)(a4 a5:Int)(a6:List aK)(a7 a8:Int)(a9:List aJ)(a10:Int)(a11:List Int):Ag (Int×Int×Int×(List aK)×Int×Int×(List aJ)×Int×(List Int)) :=
 bno (nH (⟨a1,a2,a3⟩:jE) a0) fun x1 =>
 bnd (!decide (x1=0)) fun x2 =>
 bif x2 then (
  some (x1,a4,a5,a6,a7,a8,a9,a10,a11)
 ) else (
   bno (dZ a0 a4 a5 a6 a7 a8 a9 a10 a11) fun x4 =>
   bnd (decide (x4=(-1))) fun x5 =>
   bif x5 then (
    bno (lD a0 (⟨a1,a2,a3⟩:jE) a4 a5 a6 a7 a8 a9 a10 a11) fun x7 =>
    some (x7.1,x7.2.1,x7.2.2.1,x7.2.2.2.1,x7.2.2.2.2.1,x7.2.2.2.2.2.1,x7.2.2.2.2.2.2.1,x7.2.2.2.2.2.2.2.1,x7.2.2.2.2.2.2.2.2)
   ) else (
     bno (jO x4 (⟨a1,a2,a3⟩:jE) a4 a5 a6 a7 a8 a9 a10 a11) fun x8 =>
     some (0,x8.1,x8.2.1,x8.2.2.1,x8.2.2.2.1,x8.2.2.2.2.1,x8.2.2.2.2.2.1,x8.2.2.2.2.2.2.1,x8.2.2.2.2.2.2.2)
   )
 )

def iA(a0 a1 a2:Int)(a3:List aK)(a4 a5:Int)(a6:List aJ)(a7:Int)(a8:List Int):Ag Int :=
 bnd (decide (a0=(-1))) fun x1 =>
 bif x1 then (
  some 0
 ) else (
   bno (gix a6 a0) fun x3 =>
   chk (a6.length=64)<|bno (a6[(a0:Int).toNat]?) fun x5 =>
   some x5.id
 )

def eI(a0:List aW):Ag (List aW):=aEB (fun x=>x.ID) (fun x=>decide (0≤x.ID)&&decide (x.ID≤1048576)) a0

def gQ(a0 a1:Int)(a2:List aK)(a3 a4:Int)(a5:List aJ)(a6:Int)(a7 x1:List Int):Nat→(List aW)→Int→Ag (List aW)
 | 0,_,_=>none
 | n0+1,v11,v12 =>
   bnd (decide (v12<(x1.length:Int))) fun x22 =>
   bif x22 then (
    bno (gix x1 v12) fun x24 =>
    bno (gix a5 x24) fun x25 =>
    chk (a5.length=64)<|bno (a5[(x24:Int).toNat]?) fun x27 =>
    bno (iA x27.up a0 a1 a2 a3 a4 a5 a6 a7) fun x28 =>
    bno (app 32 v11 (([(⟨x27.id,x28,x27.weight,x27.closed⟩:aW)]:(List aW)))) fun x29 =>
    bnd (Af .i64 (v12+1)) fun x30 =>
    (gQ a0 a1 a2 a3 a4 a5 a6 a7 x1 n0) x29 x30
   ) else (
     bno (eI v11) fun x31 =>
     chk (x31.length=v11.length)<|some x31
   )
def lT(a0 a1:Int)(a2:List aK)(a3 a4:Int)(a5:List aJ)(a6:Int)(a7:List Int):Ag (List aW) :=
 bno (tH (⟨a2,a3,a4⟩:bQ)) fun x1 =>
 gQ a0 a1 a2 a3 a4 a5 a6 a7 x1 fuel ([]:(List aW)) 0

def fO(a1 a2:Int)(a3:List aK)(a4 a5:Int)(a6:List aJ)(a7:Int)(a8:List Int):Nat→(List Int)→Int→Ag (List Int)
 | 0,_,_=>none
 | n0+1,v14,v15 =>
   bnd (!decide (v15=(-1))) fun x28 =>
   bno (gd (x28 == true) (gix a6 v15) default) fun x29 =>
   chk ((x28 == true)=true→a6.length=64)<|bno (gd (x28 == true) (a6[(v15:Int).toNat]?) default) fun x31 =>
   bnd (!decide (x31.up=(-1))) fun x32 =>
   bnd (x28&&x32) fun x33 =>
   bif x33 then (
    bno (gix a6 v15) fun x35 =>
    chk (a6.length=64)<|bno (a6[(v15:Int).toNat]?) fun x37 =>
    bno (iA x37.up a1 a2 a3 a4 a5 a6 a7 a8) fun x38 =>
    bno (app 8 v14 ([x38]:(List Int))) fun x39 =>
    (fO a1 a2 a3 a4 a5 a6 a7 a8 n0) x39 x37.up
   ) else (
     some v14
   )
def mL(a0 a1 a2:Int)(a3:List aK)(a4 a5:Int)(a6:List aJ)(a7:Int)(a8:List Int):Ag (List Int) :=
 bno (dZ a0 a1 a2 a3 a4 a5 a6 a7 a8) fun x1 =>
 fO a1 a2 a3 a4 a5 a6 a7 a8 fuel ([]:(List Int)) x1

def oP(a0:List Int):Ag (List Int):=aED a0

def nO(a0 a1 a2:Int)(a3:List aK)(a4 a5:Int)(a6:List aJ)(a7:Int)(a8:List Int):Ag (Int×Int×Int×(List aK)×Int×Int×(List aJ)×Int×(List Int)) :=
 bno (dZ a0 a1 a2 a3 a4 a5 a6 a7 a8) fun x1 =>
 bnd (decide (x1=(-1))) fun x2 =>
 bif x2 then (
  some (6,a1,a2,a3,a4,a5,a6,a7,a8)
 ) else (
   bno (gix a6 x1) fun x4 =>
   chk (a6.length=64)<|bno (a6[(x1:Int).toNat]?) fun x6 =>
   bif x6.closed then (
    some (9,a1,a2,a3,a4,a5,a6,a7,a8)
   ) else (
     bno (gix a6 x1) fun x8 =>
     bno (a6[(x1:Int).toNat]?) fun x9 =>
     bnd (a6.set ((x1:Int).toNat) (⟨x9.id,x9.up,x9.first,x9.next,x9.weight,true⟩:aJ)) fun x10 =>
     bno (app 8 a8 ([x1]:(List Int))) fun x11 =>
     bnd (decide (a2<(x11.length:Int))) fun x12 =>
     bif x12 then (
      bno (gix x11 0) fun x14 =>
      bno (x11[(0:Int).toNat]?) fun x15 =>
      bno (hD x15 a1 a2 a3 a4 a5 x10 a7 x11) fun x16 =>
      some (0,x16.1,x16.2.1,x16.2.2.1,x16.2.2.2.1,x16.2.2.2.2.1,x16.2.2.2.2.2.1,x16.2.2.2.2.2.2.1,x16.2.2.2.2.2.2.2)
     ) else (
       some (0,a1,a2,a3,a4,a5,x10,a7,x11)
     )
   )
 )

def mV(a0 a1 a2:Int)(a3:List aK)(a4 a5:Int)(a6:List aJ)(a7:Int)(a8:List Int):Ag (Int×Int×Int×(List aK)×Int×Int×(List aJ)×Int×(List Int)) :=
 bno (dZ a0 a1 a2 a3 a4 a5 a6 a7 a8) fun x1 =>
 bnd (decide (x1=(-1))) fun x2 =>
 bif x2 then (
  some (6,a1,a2,a3,a4,a5,a6,a7,a8)
 ) else (
   bno (hD x1 a1 a2 a3 a4 a5 a6 a7 a8) fun x4 =>
   some (0,x4.1,x4.2.1,x4.2.2.1,x4.2.2.2.1,x4.2.2.2.2.1,x4.2.2.2.2.2.1,x4.2.2.2.2.2.2.1,x4.2.2.2.2.2.2.2)
 )

def iM(v52:List Int):Ag (List Int) :=
 bno (oP v52) fun x53 =>
 chk (x53.length=v52.length)<|some x53
def iJ(a1 a2:Int)(a3:List aK)(a4 a5:Int)(a6:List aJ)(a7:Int)(a8:List Int):Nat→Int→(List Int)→Ag (List Int)
 | 0,_,_=>none
 | n3+1,v64,v65 =>
   bnd (!decide (v64=(-1))) fun x72 =>
   bif x72 then (
    bno (gix a6 v64) fun x74 =>
    bno (a6[(v64:Int).toNat]?) fun x75 =>
    bno (iA v64 a1 a2 a3 a4 a5 a6 a7 a8) fun x76 =>
    bno (app 8 v65 ([x76]:(List Int))) fun x77 =>
    (iJ a1 a2 a3 a4 a5 a6 a7 a8 n3) x75.next x77
   ) else (
     iM v65
   )
def iI(a1 a2:Int)(a3:List aK)(a4 a5:Int)(a6:List aJ)(a7:Int)(a8:List Int):Nat→Int→(List Int)→Ag (List Int)
 | 0,_,_=>none
 | n4+1,v87,v88 =>
   bnd (!decide (v87=(-1))) fun x95 =>
   bif x95 then (
    bno (gix a6 v87) fun x97 =>
    bno (a6[(v87:Int).toNat]?) fun x98 =>
    bno (iA v87 a1 a2 a3 a4 a5 a6 a7 a8) fun x99 =>
    bno (app 8 v88 ([x99]:(List Int))) fun x100 =>
    (iI a1 a2 a3 a4 a5 a6 a7 a8 n4) x98.next x100
   ) else (
     iM v88
   )
def lE(a0 a1 a2:Int)(a3:List aK)(a4 a5:Int)(a6:List aJ)(a7:Int)(a8:List Int):Ag (List Int) :=
 bno (dZ a0 a1 a2 a3 a4 a5 a6 a7 a8) fun x1 =>
 bnd (decide (x1=(-1))) fun x2 =>
 bnd (!decide (a0=0)) fun x3 =>
 bnd (x2&&x3) fun x4 =>
 bif x4 then (
  some ([]:(List Int))
 ) else (
   bnd (decide (x1=(-1))) fun x55 =>
   bif x55 then (
    chk (a6.length=64)<|iJ a1 a2 a3 a4 a5 a6 a7 a8 fuel a7 ([]:(List Int))
   ) else (
     bno (gix a6 x1) fun x78 =>
     chk (a6.length=64)<|bno (a6[(x1:Int).toNat]?) fun x80 =>
     iI a1 a2 a3 a4 a5 a6 a7 a8 fuel x80.first ([]:(List Int))
   )
 )

def mQ(a0:dB)(a1:Int)(a2:Int)(a3:List aK)(a4 a5:Int)(a6:List aJ)(a7:Int)(a8:List Int)(x1:Int)(v11:Bool):Ag (Int×Int×Int×(List aK)×Int×Int×(List aJ)×Int×(List Int)) :=
 bif v11 then (
  bno (oI a0.ID a0.aq a0.ae a0.ao a1 a2 a3 a4 a5 a6 a7 a8) fun x13 =>
  some (x13.1,x13.2.1,x13.2.2.1,x13.2.2.2.1,x13.2.2.2.2.1,x13.2.2.2.2.2.1,x13.2.2.2.2.2.2.1,x13.2.2.2.2.2.2.2.1,x13.2.2.2.2.2.2.2.2)
 ) else (
   bnd (decide (x1=4)) fun x14 =>
   bif x14 then (
    bno (nO a0.ID a1 a2 a3 a4 a5 a6 a7 a8) fun x16 =>
    some (x16.1,x16.2.1,x16.2.2.1,x16.2.2.2.1,x16.2.2.2.2.1,x16.2.2.2.2.2.1,x16.2.2.2.2.2.2.1,x16.2.2.2.2.2.2.2.1,x16.2.2.2.2.2.2.2.2)
   ) else (
     bno (mV a0.ID a1 a2 a3 a4 a5 a6 a7 a8) fun x17 =>
     some (x17.1,x17.2.1,x17.2.2.1,x17.2.2.2.1,x17.2.2.2.2.1,x17.2.2.2.2.2.1,x17.2.2.2.2.2.2.1,x17.2.2.2.2.2.2.2.1,x17.2.2.2.2.2.2.2.2)
   )
 )
def mR(a0:dB)(a1:Int)(a2:Int)(a3:List aK)(a4 a5:Int)(a6:List aJ)(a7:Int)(a8:List Int)(x1:Int)(v5:Bool):Ag (Int×Int×Int×(List aK)×Int×Int×(List aJ)×Int×(List Int)) :=
 bif v5 then (
  bno (jA a0.ID a0.aq a0.ae a0.ao a1 a2 a3 a4 a5 a6 a7 a8) fun x7 =>
  some (x7.1,x7.2.1,x7.2.2.1,x7.2.2.2.1,x7.2.2.2.2.1,x7.2.2.2.2.2.1,x7.2.2.2.2.2.2.1,x7.2.2.2.2.2.2.2.1,x7.2.2.2.2.2.2.2.2)
 ) else (
   bnd (decide (x1=2)) fun x18 =>
   bif x18 then (
    mQ a0 a1 a2 a3 a4 a5 a6 a7 a8 x1 x18
   ) else (
     bnd (decide (x1=3)) fun x20 =>
     mQ a0 a1 a2 a3 a4 a5 a6 a7 a8 x1 x20
   )
 )
def pA(a0:dB)(a1:Int)(a2:Int)(a3:List aK)(a4 a5:Int)(a6:List aJ)(a7:Int)(a8:List Int):Ag (Int×Int×Int×(List aK)×Int×Int×(List aJ)×Int×(List Int)) :=
 bno (remI a0.am 6) fun x1 =>
 bnd (decide (x1=0)) fun x21 =>
 bif x21 then (
  mR a0 a1 a2 a3 a4 a5 a6 a7 a8 x1 x21
 ) else (
   bnd (decide (x1=1)) fun x23 =>
   mR a0 a1 a2 a3 a4 a5 a6 a7 a8 x1 x23
 )

end Go.Fn
open Go Go.IL
namespace Go.Fn
structure T_anon22 where
 c0:Int
 c1:Int
 deriving DecidableEq,Inhabited
variable [Fu]
def oG(a0 a1:Int):Ag (aM×Int) :=
 bnd (decide (a0<1)) fun x1 =>
 bnd (decide (24<a0)) fun x2 =>
 bnd (x1||x2) fun x3 =>
 bnd (decide (a1<0)) fun x4 =>
 bnd (x3||x4) fun x5 =>
 bnd (decide (a0<a1)) fun x6 =>
 bnd (x5||x6) fun x7 =>
 bif x7 then (
  some ((⟨0,0,[],[]⟩:aM),8)
 ) else (
   some ((⟨a0,a1,[],[]⟩:aM),0)
 )

def lY(a0:aM)(a1:dB)(x1:Int)(v11:Bool):Option (aM×Int) :=
 bif v11 then (
  bno (jY a0 a1.ID a1.aq a1.ae a1.ao) fun x13 =>
  some (x13.1,x13.2)
 ) else (
   bnd (decide (x1=4)) fun x14 =>
   bif x14 then (
    bno (kV a0 a1.ID) fun x16 =>
    some (x16.1,x16.2)
   ) else (
     bno (kN a0 a1.ID) fun x17 =>
     some (x17.1,x17.2)
   )
 )
def lZ(a0:aM)(a1:dB)(x1:Int)(v5:Bool):Option (aM×Int) :=
 bif v5 then (
  bno (gV a0 a1.ID a1.aq a1.ae a1.ao) fun x7 =>
  some (x7.1,x7.2)
 ) else (
   bnd (decide (x1=2)) fun x18 =>
   bif x18 then (
    lY a0 a1 x1 x18
   ) else (
     bnd (decide (x1=3)) fun x20 =>
     lY a0 a1 x1 x20
   )
 )
def oH(a0:aM)(a1:dB):Option (aM×Int) :=
 bno (remI a1.am 6) fun x1 =>
 bnd (decide (x1=0)) fun x21 =>
 bif x21 then (
  lZ a0 a1 x1 x21
 ) else (
   bnd (decide (x1=1)) fun x23 =>
   lZ a0 a1 x1 x23
 )

end Go.Fn
open _root_ renaming UInt8 → DC
open Go Go.IL
namespace Go.Fn
structure aL where
 ID:Int
 ae:Int
 ag:Int
 deriving DecidableEq,Inhabited
def aG:Enc aL:=⟨⟨fun x=>.agg [.int .i64 x.ID,.int .i64 x.ae,.int .i64 x.ag],3,by decide,fun _=>⟨rfl,rfl⟩⟩,fun _=>rfl⟩

structure T_anons24 where
 c0:Int
 c1:Int
 c2:Int
 deriving DecidableEq,Inhabited
structure zQ where
 c0:Int
 c1:Int
 deriving DecidableEq,Inhabited
structure aH where
 aa:Int
 ab:(List aL)
 deriving DecidableEq,Inhabited
def aB:Enc aH:=⟨⟨fun x=>.agg [.int .i64 x.aa,.slice false (x.ab.map aG.d)],2,by decide,fun _=>⟨rfl,rfl⟩⟩,fun _=>rfl⟩


variable [Fu]
def oQ(a0 a1 a2:Int):Ag Bool :=
 bnd (decide (a1≤a0)) fun x1 =>
 bnd (decide (a0≤a2)) fun x2 =>
 bnd (x1&&x2) fun x3 =>
 some x3

def wJ(a0 a1:aL)(a2:zQ)(a3:Int):Ag Bool :=
 bno (oQ a0.ae 1 256) fun x1 =>
 bno (gd (x1 == true) (oQ a1.ae 1 256) default) fun x2 =>
 bnd (x1&&x2) fun x3 =>
 bno (oQ a0.ag 0 1099511627776) fun x4 =>
 bno (gd (x4 == true) (oQ a1.ag 0 1099511627776) default) fun x5 =>
 bnd (x4&&x5) fun x6 =>
 bno (gd (x6 == true) (oQ a3 0 1099511627776) default) fun x7 =>
 bnd (x6&&x7) fun x8 =>
 bnd ((!x3)||(!x8)) fun x9 =>
 bno (gd (x9 == false) (oQ a2.c0 0 a0.ag) default) fun x10 =>
 bnd (x9||(!x10)) fun x11 =>
 bno (gd (x11 == false) (oQ a2.c1 0 a1.ag) default) fun x12 =>
 bnd (x11||(!x12)) fun x13 =>
 bif x13 then (
  some false
 ) else (
   bnd (Af .i64 (a0.ag-a2.c0)) fun x15 =>
   bnd (Af .i64 (x15*a1.ae)) fun x16 =>
   bnd (Af .i64 (a1.ag-a2.c1)) fun x17 =>
   bnd (Af .i64 (x17*a0.ae)) fun x18 =>
   bnd (Af .i64 (x16-x18)) fun x19 =>
   bnd (Af .i64 (0-x19)) fun x20 =>
   bnd (max x19 x20) fun x21 =>
   bnd (Af .i64 (a0.ae+a1.ae)) fun x22 =>
   bnd (Af .i64 (a3*x22)) fun x23 =>
   bnd (decide (x21≤x23)) fun x24 =>
   some x24
 )

def jR(a0 a1 a2:Int):Ag Bool :=
 bnd (decide (a1≤a0)) fun x1 =>
 bnd (decide (a0≤a2)) fun x2 =>
 bnd (x1&&x2) fun x3 =>
 some x3

def eS(a0:List aL):Ag (List aL) :=
 aDJ a0 (
  some []
 ) (
   bno (app 24 ([]:(List aL)) a0) fun x3 =>
   some x3
 )

def jM(a0:List aH):Nat→(List aH)→Int→Ag (List aH)
 | 0,_,_=>none
 | n0+1,v7,v8 =>
   bnd (decide (v8<(a0.length:Int))) fun x15 =>
   bif x15 then (
    bno (gix a0 v8) fun x17 =>
    bno (eS x17.ab) fun x18 =>
    bno (app 32 v7 (([(⟨x17.aa,x18⟩:aH)]:(List aH)))) fun x19 =>
    bnd (Af .i64 (v8+1)) fun x20 =>
    (jM a0 n0) x19 x20
   ) else (
     some v7
   )
def oA(a0:List aH):Ag (List aH) :=
 jM a0 fuel ([]:(List aH)) 0

def tA(a0:aH):Option Bool :=
 bnd (decide (24<(a0.ab.length:Int))) fun x1 =>
 some x1

def cV(a0:List aH):Nat→Int→Ag Int
 | 0,_=>none
 | n0 + 1,v7 =>
   bnd (decide (v7<(a0.length:Int))) fun x14 =>
   bif x14 then (
    bno (gix a0 v7) fun x16 =>
    bno (tA x16) fun x17 =>
    bif x17 then (
     some v7
    ) else (
      bnd (Af .i64 (v7+1)) fun x19 =>
      (cV a0 n0) x19
    )
   ) else (
     some (-1)
   )
def eC(a0:List aH):Ag Int :=
 cV a0 fuel 0

def dF(a0:List aH):Ag Bool :=
 bno (eC a0) fun x1 =>
 bnd (decide (0≤x1)) fun x2 =>
 some x2

def nJ(a0:aL):Option Bool :=
 bno (oQ a0.ID 1 1048576) fun x1 =>
 bno (gd (x1 == true) (oQ a0.ae 1 256) default) fun x2 =>
 bnd (x1&&x2) fun x3 =>
 bno (gd (x3 == true) (oQ a0.ag 0 1099511627776) default) fun x4 =>
 bnd (x3&&x4) fun x5 =>
 some x5

def oB(a0:aL):Option Bool :=
 bno (nJ a0) fun x1 =>
 some (!x1)

def cQ(a0:List aL):Nat→Int→Ag Int
 | 0,_=>none
 | n0 + 1,v7 =>
   bnd (decide (v7<(a0.length:Int))) fun x14 =>
   bif x14 then (
    bno (gix a0 v7) fun x16 =>
    bno (oB x16) fun x17 =>
    bif x17 then (
     some v7
    ) else (
      bnd (Af .i64 (v7+1)) fun x19 =>
      (cQ a0 n0) x19
    )
   ) else (
     some (-1)
   )
def dU(a0:List aL):Ag Int :=
 cQ a0 fuel 0

def dC(a0:List aL):Ag Bool :=
 bno (dU a0) fun x1 =>
 bnd (decide (0≤x1)) fun x2 =>
 some x2

def pU(a0:aH):Option Bool :=
 bno (oQ a0.aa 0 1048576) fun x1 =>
 bno (gd ((!x1) == false) (dC a0.ab) default) fun x2 =>
 bnd ((!x1)||x2) fun x3 =>
 some x3

def cU(a0:List aH):Nat→Int→Ag Int
 | 0,_=>none
 | n0 + 1,v7 =>
   bnd (decide (v7<(a0.length:Int))) fun x14 =>
   bif x14 then (
    bno (gix a0 v7) fun x16 =>
    bno (pU x16) fun x17 =>
    bif x17 then (
     some v7
    ) else (
      bnd (Af .i64 (v7+1)) fun x19 =>
      (cU a0 n0) x19
    )
   ) else (
     some (-1)
   )
def eB(a0:List aH):Ag Int :=
 cU a0 fuel 0

def dE(a0:List aH):Ag Bool :=
 bno (eB a0) fun x1 =>
 bnd (decide (0≤x1)) fun x2 =>
 some x2

def jF(a0:aH):Nat→Int→Option Bool
 | 0,_=>none
 | n0 + 1,v9 =>
   bnd (decide (v9<(a0.ab.length:Int))) fun x18 =>
   bif x18 then (
    bnd (Af .i64 (v9-1)) fun x20 =>
    bno (gix a0.ab x20) fun x21 =>
    bno (gix a0.ab v9) fun x22 =>
    bnd (decide (x22.ID≤x21.ID)) fun x23 =>
    bif x23 then (
     some false
    ) else (
      bnd (Af .i64 (v9+1)) fun x25 =>
      (jF a0 n0) x25
    )
   ) else (
     some true
   )
def rA(a0:aH):Option Bool :=
 jF a0 fuel 1

def jQ(a0:List aH):Nat→Int→Ag Int
 | 0,_=>none
 | n1 + 1,v20 =>
   bnd (decide (v20<(a0.length:Int))) fun x33 =>
   bif x33 then (
    bno (gix a0 v20) fun x35 =>
    bnd (decide (0<v20)) fun x36 =>
    bnd (Af .i64 (v20-1)) fun x37 =>
    bno (gd (x36 == true) (gix a0 x37) default) fun x38 =>
    bnd (decide (x35.aa≤x38.aa)) fun x39 =>
    bnd (x36&&x39) fun x40 =>
    bno (gd (x40 == false) (rA x35) default) fun x41 =>
    bnd (x40||(!x41)) fun x42 =>
    bif x42 then (
     some 10
    ) else (
      bnd (Af .i64 (v20+1)) fun x44 =>
      (jQ a0 n1) x44
    )
   ) else (
     some 0
   )
def qB(a0:List aH)(v4:Bool):Ag Int :=
 bif v4 then (
  some 5
 ) else (
   bno (dE a0) fun x6 =>
   bif x6 then (
    some 8
   ) else (
     jQ a0 fuel 0
   )
 )
def nS(a0:List aH):Ag Int :=
 bnd (decide (25<(a0.length:Int))) fun x45 =>
 bif x45 then (
  qB a0 x45
 ) else (
   bno (dF a0) fun x47 =>
   qB a0 x47
 )

def pE(a0:aH)(a1:List (Int×aW))(a2 a3:List (Int×Bool))(a4 a5:Int)(a6:List aK)(a7:Int)(a8:Int)(a9:List aJ)(a10:Int)(a11:List Int):Ag Bool :=
 bnd ((mget a1 a0.aa).getD (⟨0,0,0,false⟩:aW)) fun x1 =>
 bnd ((mget a1 a0.aa).isSome) fun x2 =>
 bnd (!decide (a0.aa=0)) fun x3 =>
 bnd (x3&&(!x2)) fun x4 =>
 some x4

def cK(a0:List aH)(a1:List (Int×aW))(a2 a3:List (Int×Bool))(a4 a5:Int)(a6:List aK)(a7:Int)(a8:Int)(a9:List aJ)(a10:Int)(a11:List Int):Nat→Int→Ag Int
 | 0,_=>none
 | n0 + 1,v8 =>
   bnd (decide (v8<(a0.length:Int))) fun x16 =>
   bif x16 then (
    bno (gix a0 v8) fun x18 =>
    bno (a0[(v8:Int).toNat]?) fun x19 =>
    bno (pE x19 a1 a2 a3 a4 a5 a6 a7 a8 a9 a10 a11) fun x20 =>
    bif x20 then (
     some v8
    ) else (
      bnd (Af .i64 (v8+1)) fun x22 =>
      (cK a0 a1 a2 a3 a4 a5 a6 a7 a8 a9 a10 a11 n0) x22
    )
   ) else (
     some (-1)
   )
def eA(a0:List aH)(a1:List (Int×aW))(a2 a3:List (Int×Bool))(a4 a5:Int)(a6:List aK)(a7:Int)(a8:Int)(a9:List aJ)(a10:Int)(a11:List Int):Ag Int :=
 cK a0 a1 a2 a3 a4 a5 a6 a7 a8 a9 a10 a11 fuel 0

def cH(a1:List (Int×aW))(a2:List (Int×Bool))(a3:List (Int×Bool))(a4:Int)(a5:Int)(a6:List aK)(a7 a8:Int)(a9:List aJ)(a10:Int)(a11:List Int):Nat→(List aH)→Int→Int→Ag (List aH)
 | 0,_,_,_=>none
 | n0 + 1,v17,v18,v19 =>
   bnd (decide (v19<(v17.length:Int))) fun x32 =>
   bif x32 then (
    bno (gix v17 v19) fun x34 =>
    bno (v17[(v19:Int).toNat]?) fun x35 =>
    bno (pE x35 a1 a2 a3 a4 a5 a6 a7 a8 a9 a10 a11) fun x36 =>
    bif (!x36) then (
     bno (gix v17 v18) fun x38 =>
     bno (v17[(v18:Int).toNat]?) fun x39 =>
     bnd (v17.set ((v18:Int).toNat) x35) fun x40 =>
     bnd (Af .i64 (v18+1)) fun x41 =>
     bnd (Af .i64 (v19+1)) fun x42 =>
     (cH a1 a2 a3 a4 a5 a6 a7 a8 a9 a10 a11 n0) x40 x41 x42
    ) else (
      bnd (Af .i64 (v19+1)) fun x43 =>
      (cH a1 a2 a3 a4 a5 a6 a7 a8 a9 a10 a11 n0) v17 v18 x43
    )
   ) else (
     bno (cut v17 0 v18) fun x44 =>
     bno (cut x44 0 v18) fun x45 =>
     some x45
   )
def cY(a0:List aH)(a1:List (Int×aW))(a2 a3:List (Int×Bool))(a4 a5:Int)(a6:List aK)(a7:Int)(a8:Int)(a9:List aJ)(a10:Int)(a11:List Int):Ag (List aH) :=
 bno (eA a0 a1 a2 a3 a4 a5 a6 a7 a8 a9 a10 a11) fun x1 =>
 bnd (decide (x1=(-1))) fun x2 =>
 bif x2 then (
  some a0
 ) else (
   bnd (Af .i64 (x1+1)) fun x4 =>
   cH a1 a2 a3 a4 a5 a6 a7 a8 a9 a10 a11 fuel a0 x1 x4
 )

def kJ(a0:aH)(a1:Int):Option Int :=
 bnd (Af .i64 (a0.aa-a1)) fun x1 =>
 some x1

def bV(a0:List aH)(a1:Int):Nat→Int→Int→Ag (Int×Bool)
 | 0,_,_=>none
 | n0 + 1,v12,v13 =>
   bnd (decide (v12<v13)) fun x25 =>
   bif x25 then (
    bnd (Af .i64 (v12+v13)) fun x27 =>
    bnd (Af .u64 x27) fun x28 =>
    bno (shrI .u64 x28 1) fun x29 =>
    bnd (Af .i64 x29) fun x30 =>
    bno (gix a0 x30) fun x31 =>
    bno (kJ x31 a1) fun x32 =>
    bnd (decide (x32<0)) fun x33 =>
    bif x33 then (
     bnd (Af .i64 (x30+1)) fun x35 =>
     (bV a0 a1 n0) x35 v13
    ) else (
      (bV a0 a1 n0) v12 x30
    )
   ) else (
     bnd (decide (v12<(a0.length:Int))) fun x36 =>
     bno (gd (x36 == true) (gix a0 v12) default) fun x37 =>
     bno (gd (x36 == true) (kJ x37 a1) default) fun x38 =>
     bnd (decide (x38=0)) fun x39 =>
     bnd (x36&&x39) fun x40 =>
     some (v12,x40)
   )
def dM(a0:List aH)(a1:Int):Ag (Int×Bool) :=
 bV a0 a1 fuel 0 (a0.length:Int)

def jS(a0:List aH)(a1:Int):Ag (Int×Bool) :=
 bno (dM a0 a1) fun x1 =>
 some (x1.1,x1.2)

def iT(a0:Int)(a1:List aH)(a2:List aH):Ag (List aH):=insS 32 a2 a0 a1

def dP(a0:List aL):Ag (List aL) :=
 aDJ a0 (
  some ([]:(List aL))
 ) (
   bno (app 24 ([]:(List aL)) a0) fun x3 =>
   some x3
 )

def fU(x1:List aL):Nat→(List aL)→Int→Ag (List aL)
 | 0,_,_=>none
 | n0+1,v8,v9 =>
   bnd (decide (v9<(x1.length:Int))) fun x16 =>
   bif x16 then (
    bno (gix v8 v9) fun x18 =>
    bno (v8[(v9:Int).toNat]?) fun x19 =>
    bnd (v8.set ((v9:Int).toNat) (⟨x19.ID,x19.ae,0⟩:aL)) fun x20 =>
    bnd (Af .i64 (v9+1)) fun x21 =>
    (fU x1 n0) x20 x21
   ) else (
     some v8
   )
def oW(a0:aH):Option (List aL) :=
 bno (dP a0.ab) fun x1 =>
 fU x1 fuel x1 0

def cS(a0 a1:List aL):Nat→Int→Ag Bool
 | 0,_=>none
 | n0 + 1,v10 =>
   bnd (decide (v10<(a0.length:Int))) fun x18 =>
   bif x18 then (
    bno (gix a0 v10) fun x20 =>
    bno (gix a1 v10) fun x21 =>
    bnd ((decide (x20.ID=x21.ID)&&(decide (x20.ae=x21.ae)&&(decide (x20.ag=x21.ag)&&true)))) fun x22 =>
    bif (!x22) then (
     some false
    ) else (
      bnd (Af .i64 (v10+1)) fun x24 =>
      (cS a0 a1 n0) x24
    )
   ) else (
     some true
   )
def dV(a0 a1:List aL):Ag Bool :=
 bnd (!decide ((a0.length:Int)=(a1.length:Int))) fun x1 =>
 bif x1 then (
  some false
 ) else (
   cS a0 a1 fuel 0
 )

def lR(a0:aH)(a1:List aH):Ag (List aH) :=
 bno (jS a1 a0.aa) fun x1 =>
 bif (!x1.2) then (
  bno (iT x1.1 ([a0]:(List aH)) a1) fun x3 =>
  some x3
 ) else (
   bno (gix a1 x1.1) fun x4 =>
   bno (a1[(x1.1:Int).toNat]?) fun x5 =>
   bno (oW x5) fun x6 =>
   bno (dV x6 a0.ab) fun x7 =>
   bif (!x7) then (
    bno (gix a1 x1.1) fun x9 =>
    bno (a1[(x1.1:Int).toNat]?) fun x10 =>
    bnd (a1.set ((x1.1:Int).toNat) a0) fun x11 =>
    some x11
   ) else (
     some a1
   )
 )

def fZ(x2:List aL):Nat→Int→Int→Int→Int→Ag Int
 | 0,_,_,_,_=>none
 | n0 + 1,v12,v13,v14,v15 =>
   bnd (decide (v12<(x2.length:Int))) fun x25 =>
   bif x25 then (
    bno (gix x2 v12) fun x27 =>
    bnd (Af .i64 (x27.ag*v14)) fun x28 =>
    bnd (Af .i64 (v15*x27.ae)) fun x29 =>
    bnd (decide (x28<x29)) fun x30 =>
    bif x30 then (
     bnd (Af .i64 (v12+1)) fun x32 =>
     (fZ x2 n0) x32 x27.ID x27.ae x27.ag
    ) else (
      bnd (Af .i64 (v12+1)) fun x33 =>
      (fZ x2 n0) x33 v13 v14 v15
    )
   ) else (
     some v13
   )
def mI(a0:aH):Option Int :=
 bno (gix a0.ab 0) fun x1 =>
 bno (cut a0.ab 1 (a0.ab.length:Int)) fun x2 =>
 fZ x2 fuel 0 x1.ID x1.ae x1.ag

def lN(v32:Int)(kk0:Int→(List (Int×aW))→(List (Int×Bool))→(List (Int×Bool))→Ag ((List aH)×Int))(x68:List (Int×aW))(x73:List (Int×Bool))(x75:List Int):Nat→Int→(List (Int×Bool))→Ag ((List aH)×Int)
 | 0,_,_=>none
 | n1+1,v81,v82 =>
   bnd (decide (v81<(x75.length:Int))) fun x88 =>
   bif x88 then (
    bno (gix x75 v81) fun x90 =>
    bnd (mput v82 x90 true) fun x91 =>
    bnd (Af .i64 (v81+1)) fun x92 =>
    (lN v32 kk0 x68 x73 x75 n1) x92 x91
   ) else (
     bnd (Af .i64 (v32+1)) fun x93 =>
     kk0 x93 x68 x73 v82
   )
def kK(v33:List (Int×aW))(v34:List (Int×Bool))(v35:List (Int×Bool))(v137:List aH)(v138:Int)(kk2:(List aH)→Int→Ag ((List aH)×Int))(x176:List Int):Nat→Int→(List aL)→Ag ((List aH)×Int)
 | 0,_,_=>none
 | n3 + 1,v186,v187 =>
   bnd (decide (v186<(x176.length:Int))) fun x197 =>
   bif x197 then (
    bno (gix x176 v186) fun x199 =>
    bnd ((mget v35 x199).getD false) fun x200 =>
    bif x200 then (
     bnd ((mget v33 x199).getD (⟨0,0,0,false⟩:aW)) fun x202 =>
     bno (app 24 v187 (([(⟨x199,x202.ae,0⟩:aL)]:(List aL)))) fun x203 =>
     bnd (Af .i64 (v186+1)) fun x204 =>
     (kK v33 v34 v35 v137 v138 kk2 x176 n3) x204 x203
    ) else (
      bnd (Af .i64 (v186+1)) fun x205 =>
      (kK v33 v34 v35 v137 v138 kk2 x176 n3) x205 v187
    )
   ) else (
     bno (lR (⟨v138,v187⟩:aH) v137) fun x206 =>
     bno (jS x206 v138) fun x207 =>
     bno (gix x206 x207.1) fun x208 =>
     bno (x206[(x207.1:Int).toNat]?) fun x209 =>
     bno (mI x209) fun x210 =>
     bnd ((mget v34 x210).getD false) fun x211 =>
     bif x211 then (
      some (x206,x210)
     ) else (
       kk2 x206 x210
     )
   )
def gF(a2 a3:Int)(a4:List aK)(a5 a6:Int)(a7:List aJ)(a8:Int)(a9:List Int)(v33:List (Int×aW))(v34 v35:List (Int×Bool)):Nat→(List aH)→Int→Ag ((List aH)×Int)
 | 0,_,_=>none
 | n2+1,v137,v138 =>
   bno (lE v138 a2 a3 a4 a5 a6 a7 a8 a9) fun x176 =>
   kK v33 v34 v35 v137 v138 (gF a2 a3 a4 a5 a6 a7 a8 a9 v33 v34 v35 n2) x176 fuel 0 ([]:(List aL))
def iU(a0:List aH)(a1:List Int)(a2 a3:Int)(a4:List aK)(a5 a6:Int)(a7:List aJ)(a8:Int)(a9:List Int)(x1:List aH)(x2:List aW):Nat→Int→(List (Int×aW))→(List (Int×Bool))→(List (Int×Bool))→Ag ((List aH)×Int)
 | 0,_,_,_,_=>none
 | n0 + 1,v32,v33,v34,v35 =>
   bnd (decide (v32<(x2.length:Int))) fun x65 =>
   bif x65 then (
    bno (gix x2 v32) fun x67 =>
    bnd (mput v33 x67.ID x67) fun x68 =>
    bno (gd (x67.af == false) (dJ a1 x67.ID) default) fun x69 =>
    bnd (x67.af||(!x69)) fun x70 =>
    bif x70 then (
     bnd (Af .i64 (v32+1)) fun x72 =>
     (iU a0 a1 a2 a3 a4 a5 a6 a7 a8 a9 x1 x2 n0) x72 x68 v34 v35
    ) else (
      bnd (mput v34 x67.ID true) fun x73 =>
      bnd (mput v35 x67.ID true) fun x74 =>
      bno (mL x67.ID a2 a3 a4 a5 a6 a7 a8 a9) fun x75 =>
      lN v32 (iU a0 a1 a2 a3 a4 a5 a6 a7 a8 a9 x1 x2 n0) x68 x73 x75 fuel 0 x74
    )
   ) else (
     bno (nS a0) fun x94 =>
     bnd (!decide (x94=0)) fun x95 =>
     bnd (decide ((v34.length:Int)=0)) fun x96 =>
     bnd (x95||x96) fun x97 =>
     bif x97 then (
      some (x1,0)
     ) else (
       bno (cY x1 v33 v34 v35 a2 a3 a4 a5 a6 a7 a8 a9) fun x99 =>
       gF a2 a3 a4 a5 a6 a7 a8 a9 v33 v34 v35 fuel x99 0
     )
   )
def oN(a0:List aH)(a1:List Int)(a2 a3:Int)(a4:List aK)(a5 a6:Int)(a7:List aJ)(a8:Int)(a9:List Int):Ag ((List aH)×Int) :=
 bno (oA a0) fun x1 =>
 bno (lT a2 a3 a4 a5 a6 a7 a8 a9) fun x2 =>
 iU a0 a1 a2 a3 a4 a5 a6 a7 a8 a9 x1 x2 fuel 0 ([]:(List (Int×aW))) ([]:(List (Int×Bool))) ([]:(List (Int×Bool)))

def iV(x1:List aL):Nat→(List aL)→Int→Ag (List aL)
 | 0,_,_=>none
 | n0+1,v8,v9 =>
   bnd (decide (v9<(x1.length:Int))) fun x16 =>
   bif x16 then (
    bno (gix v8 v9) fun x18 =>
    bno (v8[(v9:Int).toNat]?) fun x19 =>
    bnd (v8.set ((v9:Int).toNat) (⟨x19.ID,x19.ae,0⟩:aL)) fun x20 =>
    bnd (Af .i64 (v9+1)) fun x21 =>
    (iV x1 n0) x20 x21
   ) else (
     some v8
   )
def nK(a0:aH):Option (List aL) :=
 bno (dP a0.ab) fun x1 =>
 iV x1 fuel x1 0

def pI(a0:aL)(a1:Int):Option Bool :=
 bnd (decide (a0.ID=a1)) fun x1 =>
 some x1

def cA(a0:List aL)(a1:Int):Nat→Int→Ag Int
 | 0,_=>none
 | n0 + 1,v7 =>
   bnd (decide (v7<(a0.length:Int))) fun x14 =>
   bif x14 then (
    bno (gix a0 v7) fun x16 =>
    bno (pI x16 a1) fun x17 =>
    bif x17 then (
     some v7
    ) else (
      bnd (Af .i64 (v7+1)) fun x19 =>
      (cA a0 a1 n0) x19
    )
   ) else (
     some (-1)
   )
def bW(a0:List aL)(a1:Int):Ag Int :=
 cA a0 a1 fuel 0

def gJ(a0:List aH):Nat→(List aH)→Int→Ag (List aH)
 | 0,_,_=>none
 | n0+1,v7,v8 =>
   bnd (decide (v8<(a0.length:Int))) fun x15 =>
   bif x15 then (
    bno (gix a0 v8) fun x17 =>
    bno (eS x17.ab) fun x18 =>
    bno (app 32 v7 (([(⟨x17.aa,x18⟩:aH)]:(List aH)))) fun x19 =>
    bnd (Af .i64 (v8+1)) fun x20 =>
    (gJ a0 n0) x19 x20
   ) else (
     some v7
   )
def qZ(a0:List aH):Ag (List aH) :=
 gJ a0 fuel ([]:(List aH)) 0

def gX(a1 a2:Int)(a3:List aK)(a4 a5:Int)(a6:List aJ)(a7:Int)(a8:List Int):Nat→(List Int)→Int→Ag (List Int)
 | 0,_,_=>none
 | n0+1,v14,v15 =>
   bnd (!decide (v15=(-1))) fun x28 =>
   bno (gd (x28 == true) (gix a6 v15) default) fun x29 =>
   chk ((x28 == true)=true→a6.length=64)<|bno (gd (x28 == true) (a6[(v15:Int).toNat]?) default) fun x31 =>
   bnd (!decide (x31.up=(-1))) fun x32 =>
   bnd (x28&&x32) fun x33 =>
   bif x33 then (
    bno (gix a6 v15) fun x35 =>
    chk (a6.length=64)<|bno (a6[(v15:Int).toNat]?) fun x37 =>
    bno (iA x37.up a1 a2 a3 a4 a5 a6 a7 a8) fun x38 =>
    bno (app 8 v14 ([x38]:(List Int))) fun x39 =>
    (gX a1 a2 a3 a4 a5 a6 a7 a8 n0) x39 x37.up
   ) else (
     some v14
   )
def mA(a0 a1 a2:Int)(a3:List aK)(a4 a5:Int)(a6:List aJ)(a7:Int)(a8:List Int):Ag (List Int) :=
 bno (dZ a0 a1 a2 a3 a4 a5 a6 a7 a8) fun x1 =>
 gX a1 a2 a3 a4 a5 a6 a7 a8 fuel ([]:(List Int)) x1

def sA(a0:aW)(a1:Int):Option Bool :=
 bnd (decide (a0.ID=a1)) fun x1 =>
 some x1

def cX(a0:List aW)(a1:Int):Nat→Int→Ag Int
 | 0,_=>none
 | n0 + 1,v7 =>
   bnd (decide (v7<(a0.length:Int))) fun x14 =>
   bif x14 then (
    bno (gix a0 v7) fun x16 =>
    bno (sA x16 a1) fun x17 =>
    bif x17 then (
     some v7
    ) else (
      bnd (Af .i64 (v7+1)) fun x19 =>
      (cX a0 a1 n0) x19
    )
   ) else (
     some (-1)
   )
def eK(a0:List aW)(a1:Int):Ag Int :=
 cX a0 a1 fuel 0

def dG(a0:List aW)(a1:Int):Ag Bool :=
 bno (eK a0 a1) fun x1 =>
 bnd (decide (0≤x1)) fun x2 =>
 some x2

def gK(v:List aL)(i b:Int):Ag (List aL) :=
 bno (gix v i) fun y1 =>
 bnd (Af .i64 (y1.ag+b)) fun y2 =>
 some (v.set i.toNat (⟨y1.ID,y1.ae,y2⟩:aL))
def jT(g:aH)(a1 a2:Int):Ag (List aL) :=
 bno (bW g.ab a1) fun x1 =>
 bnd (decide (x1<0)) fun x2 =>
 bif x2 then some g.ab else
 bno (gix g.ab x1) fun x3 =>
 bnd (Af .i64 (1099511627776-a2)) fun x4 =>
 bnd (decide (x4<x3.ag)) fun x5 =>
 bif x5 then bno (nK g) fun x6=>gK x6 x1 a2
 else gK g.ab x1 a2
def gH(x11:List Int)(a2:Int):Nat→List aH→Int→Int→Ag (List aH)
 | 0,_,_,_=>none
 | n0 + 1,gs,v20,v21 =>
   bnd (decide (v20<(x11.length:Int))) fun x30 =>
   bif x30 then (
    bno (gix x11 v20) fun x32 =>
    bno (x11[(v20:Int).toNat]?) fun x33 =>
    bno (jS gs x33) fun x34 =>
    bif x34.2 then (
     bno (gix gs x34.1) fun x36 =>
     bno (jT x36 v21 a2) fun x38 =>
     bnd (gs.set x34.1.toNat (⟨x36.aa,x38⟩:aH)) fun x39 =>
     bnd (Af .i64 (v20+1)) fun x37 =>
     (gH x11 a2 n0) x39 x37 x33
    ) else (
      bnd (Af .i64 (v20+1)) fun x37 =>
      (gH x11 a2 n0) gs x37 x33
    )
   ) else (
     some gs
   )
def nT(a0:List aH)(a1:Int)(a2 a3 a4:Int)(a5:List aK)(a6 a7:Int)(a8:List aJ)(a9:Int)(a10:List Int):Ag (List aH) :=
 bno (qZ a0) fun x1 =>
 bno (nS a0) fun x2 =>
 bnd (!decide (x2=0)) fun x3 =>
 bno (gd (x3 == false) (oQ a2 0 1048576) default) fun x4 =>
 bnd (x3||(!x4)) fun x5 =>
 bif x5 then (
  some x1
 ) else (
   bno (mA a1 a3 a4 a5 a6 a7 a8 a9 a10) fun x7 =>
   bno (lT a3 a4 a5 a6 a7 a8 a9 a10) fun x8 =>
   bno (dG x8 a1) fun x9 =>
   bif (!x9) then (
    some x1
   ) else (
     bno (app 8 x7 ([0]:(List Int))) fun x11 =>
     gH x11 a2 fuel x1 0 a1
   )
 )

def qT(a0:List aH)(a1:List Int)(a2 a3 a4:Int)(a5:List aK)(a6 a7:Int)(a8:List aJ)(a9:Int)(a10:List Int):Ag ((List aH)×Int) :=
 bno (oN a0 a1 a3 a4 a5 a6 a7 a8 a9 a10) fun x1 =>
 bnd (decide (x1.2=0)) fun x2 =>
 bif x2 then (
  some (x1.1,0)
 ) else (
   bno (nT x1.1 x1.2 a2 a3 a4 a5 a6 a7 a8 a9 a10) fun x4 =>
   some (x4,x1.2)
 )

def sF(a0 a1:aH):Ag Bool :=
 bnd (decide (a0.aa=a1.aa)) fun x1 =>
 bno (gd (x1 == true) (dV a0.ab a1.ab) default) fun x2 =>
 bnd (x1&&x2) fun x3 =>
 some x3

def bF(a0 a1:List aH):Nat→Int→Ag Bool
 | 0,_=>none
 | n0 + 1,v10 =>
   bnd (decide (v10<(a0.length:Int))) fun x18 =>
   bif x18 then (
    bno (gix a0 v10) fun x20 =>
    bno (gix a1 v10) fun x21 =>
    bno (sF x20 x21) fun x22 =>
    bif (!x22) then (
     some false
    ) else (
      bnd (Af .i64 (v10+1)) fun x24 =>
      (bF a0 a1 n0) x24
    )
   ) else (
     some true
   )
def cT(a0 a1:List aH):Ag Bool :=
 bnd (!decide ((a0.length:Int)=(a1.length:Int))) fun x1 =>
 bif x1 then (
  some false
 ) else (
   bF a0 a1 fuel 0
 )

def qS(a0 a1:List aH):Ag Bool :=
 bno (cT a0 a1) fun x1 =>
 some x1

def lX(x11 x12 x13:Int×Int×Int×(List aK)×Int×Int×(List aJ)×Int×(List Int)):Nat→(List aH)→(List DC)→Int→Ag Bool
 | 0,_,_,_=>none
 | n0+1,v23,v24,v25 =>
   bnd (decide (v25<7)) fun x35 =>
   bif x35 then (
    bno (qT v23 ([3,1,5]:(List Int)) 10 x13.2.1 x13.2.2.1 x13.2.2.2.1 x13.2.2.2.2.1 x13.2.2.2.2.2.1 x13.2.2.2.2.2.2.1 x13.2.2.2.2.2.2.2.1 x13.2.2.2.2.2.2.2.2) fun x37 =>
    bno (remI x37.2 10) fun x38 =>
    bnd (Af .u8 x38) fun x39 =>
    bnd (Af .u8 (48+x39)) fun x40 =>
    bno (toU8 x40) fun x41 =>
    bno (cat v24 ([x41]:(List DC))) fun x42 =>
    bnd (Af .i64 (v25+1)) fun x43 =>
    (lX x11 x12 x13 n0) x37.1 x42 x43
   ) else (
     bno (oN v23 ([5]:(List Int)) x13.2.1 x13.2.2.1 x13.2.2.2.1 x13.2.2.2.2.1 x13.2.2.2.2.2.1 x13.2.2.2.2.2.2.1 x13.2.2.2.2.2.2.2.1 x13.2.2.2.2.2.2.2.2) fun x44 =>
     bno (oN v23 ([9]:(List Int)) x13.2.1 x13.2.2.1 x13.2.2.2.1 x13.2.2.2.2.1 x13.2.2.2.2.2.1 x13.2.2.2.2.2.2.1 x13.2.2.2.2.2.2.2.1 x13.2.2.2.2.2.2.2.2) fun x45 =>
     bnd (decide (x11.1=0)) fun x46 =>
     bnd (decide (x12.1=0)) fun x47 =>
     bnd (x46&&x47) fun x48 =>
     bnd (decide (x13.1=0)) fun x49 =>
     bnd (x48&&x49) fun x50 =>
     bnd (decide (v24=([49,51,51,49,51,51,49]:List DC))) fun x51 =>
     bnd (x50&&x51) fun x52 =>
     bnd (decide ((v23.length:Int)=1)) fun x53 =>
     bnd (x52&&x53) fun x54 =>
     bnd (decide (x44.2=5)) fun x55 =>
     bnd (x54&&x55) fun x56 =>
     bnd (decide ((x44.1.length:Int)=2)) fun x57 =>
     bnd (x56&&x57) fun x58 =>
     bno (gd (x58 == true) (gix x44.1 1) default) fun x59 =>
     bnd (decide (x59.aa=3)) fun x60 =>
     bnd (x58&&x60) fun x61 =>
     bnd (decide (x45.2=0)) fun x62 =>
     bnd (x61&&x62) fun x63 =>
     bno (gd (x63 == true) (qS v23 x45.1) default) fun x64 =>
     bnd (x63&&x64) fun x65 =>
     bno (gd (x65 == true) (qS v23 x44.1) default) fun x66 =>
     bnd (x65&&(!x66)) fun x67 =>
     bno (gd (x67 == true) (nS x44.1) default) fun x68 =>
     bnd (decide (x68=0)) fun x69 =>
     bnd (x67&&x69) fun x70 =>
     bno (gd (x70 == true) (nS ([(⟨(-1),[]⟩:aH)]:(List aH))) default) fun x71 =>
     bnd (decide (x71=8)) fun x72 =>
     bnd (x70&&x72) fun x73 =>
     bno (gd (x73 == true) (gix v23 0) default) fun x74 =>
     bno (gd (x73 == true) (gix x74.ab 0) default) fun x75 =>
     bno (gd (x73 == true) (gix v23 0) default) fun x76 =>
     bno (gd (x73 == true) (gix x76.ab 1) default) fun x77 =>
     bno (gd (x73 == true) (wJ x75 x77 (⟨0,0⟩:zQ) 10) default) fun x78 =>
     bnd (x73&&x78) fun x79 =>
     bno (gd (x79 == true) (gix v23 0) default) fun x80 =>
     bno (gd (x79 == true) (gix x80.ab 0) default) fun x81 =>
     bno (gd (x79 == true) (gix v23 0) default) fun x82 =>
     bno (gd (x79 == true) (gix x82.ab 1) default) fun x83 =>
     bno (gd (x79 == true) (wJ x81 x83 (⟨0,0⟩:zQ) 0) default) fun x84 =>
     bnd (x79&&(!x84)) fun x85 =>
     bnd (bif x85 then true else false) fun x86 =>
     bnd (bif x86 then true else false) fun x87 =>
     bnd (bif x87 then true else false) fun x88 =>
     some x88
   )
def mK  : Ag Bool :=
 bno (rD 8 1 24) fun x1 =>
 bno (gd ((!x1) == false) (rD 2 0 8) default) fun x2 =>
 bnd ((!x1)||(!x2)) fun x3 =>
 bif x3 then (
  bnd (!decide (8=0)) fun x5 =>
  bnd (x5||true) fun x6 =>
  some false
 ) else (
   bno (zN) fun x7 =>
   bnd (!decide (0=0)) fun x8 =>
   bnd (x8||false) fun x9 =>
   bif x9 then (
    some false
   ) else (
     bno (jA 1 0 16 false 8 2 x7.Cells x7.Free x7.Used ((AK 64 (⟨0,0,0,0,0,false⟩:aJ):(List aJ))) (-1) []) fun x11 =>
     bno (jA 3 0 32 false x11.2.1 x11.2.2.1 x11.2.2.2.1 x11.2.2.2.2.1 x11.2.2.2.2.2.1 x11.2.2.2.2.2.2.1 x11.2.2.2.2.2.2.2.1 x11.2.2.2.2.2.2.2.2) fun x12 =>
     bno (jA 5 3 1 false x12.2.1 x12.2.2.1 x12.2.2.2.1 x12.2.2.2.2.1 x12.2.2.2.2.2.1 x12.2.2.2.2.2.2.1 x12.2.2.2.2.2.2.2.1 x12.2.2.2.2.2.2.2.2) fun x13 =>
     lX x11 x12 x13 fuel ([]:(List aH)) ([]:(List DC)) 0
   )
 )

def iF(a0:List aH):Nat→Int→Ag Bool
 | 0,_=>none
 | n0 + 1,v9 =>
   bnd (decide (v9<(a0.length:Int))) fun x16 =>
   bif x16 then (
    bno (gix a0 v9) fun x18 =>
    bnd (decide (30<(x18.ab.length:Int))) fun x19 =>
    bif x19 then (
     some false
    ) else (
      bnd (Af .i64 (v9+1)) fun x21 =>
      (iF a0 n0) x21
    )
   ) else (
     some true
   )
def oF(a0:List aH):Ag Bool :=
 bnd (decide (30<(a0.length:Int))) fun x1 =>
 bif x1 then (
  some false
 ) else (
   iF a0 fuel 0
 )

def gL(a0 v29:List aH)(v30:Int)(kk0:(List aH)→Int→Ag (List aH))(x61:aH):Nat→Int→(List aL)→Ag (List aH)
 | 0,_,_=>none
 | n1+1,v69,v70 =>
   bno (gix a0 v30) fun x78 =>
   bnd (decide (v69<(x78.ab.length:Int))) fun x79 =>
   bif x79 then (
    bno (gix a0 v30) fun x81 =>
    bno (gix x81.ab v69) fun x82 =>
    bno (app 24 v70 ([x82]:(List aL))) fun x83 =>
    bnd (Af .i64 (v69+1)) fun x84 =>
    (gL a0 v29 v30 kk0 x61 n1) x84 x83
   ) else (
     bno (app 32 v29 (([(⟨x61.aa,v70⟩:aH)]:(List aH)))) fun x85 =>
     bnd (Af .i64 (v30+1)) fun x86 =>
     kk0 x85 x86
   )
def eU(a0:List aH):Nat→(List aH)→Int→Ag (List aH)
 | 0,_,_=>none
 | n0+1,v29,v30 =>
   bnd (decide (v30<(a0.length:Int))) fun x59 =>
   bif x59 then (
    bno (gix a0 v30) fun x61 =>
    gL a0 v29 v30 (eU a0 n0) x61 fuel 0 ([]:(List aL))
   ) else (
     some v29
   )
def rB(a0:List aH):Ag (List aH) :=
 eU a0 fuel ([]:(List aH)) 0

def gC(a0:List aH)(v95:Int)(kk1:Bool→Int→Ag Int):Nat→Bool→Int→Ag Int
 | 0,_,_=>none
 | n2 + 1,v199,v200 =>
   bno (gix a0 v95) fun x220 =>
   bnd (decide (v200<(x220.ab.length:Int))) fun x221 =>
   bif x221 then (
    bno (gix a0 v95) fun x223 =>
    bno (gix x223.ab v200) fun x224 =>
    bno (jR x224.ID 1 1048576) fun x225 =>
    bno (gd ((!x225) == false) (jR x224.ae 1 256) default) fun x226 =>
    bnd ((!x225)||(!x226)) fun x227 =>
    bno (gd (x227 == false) (jR x224.ag 0 1099511627776) default) fun x228 =>
    bnd (x227||(!x228)) fun x229 =>
    bif x229 then (
     some 8
    ) else (
      bnd (decide (v200=0)) fun x231 =>
      bno (gd ((v199 == true)&&(x231 == false)) (gix a0 v95) default) fun x232 =>
      bnd (Af .i64 (v200-1)) fun x233 =>
      bno (gd ((v199 == true)&&(x231 == false)) (gix x232.ab x233) default) fun x234 =>
      bnd (decide (x234.ID<x224.ID)) fun x235 =>
      bnd (x231||x235) fun x236 =>
      bnd (v199&&x236) fun x237 =>
      bnd (Af .i64 (v200+1)) fun x238 =>
      (gC a0 v95 kk1 n2) x237 x238
    )
   ) else (
     bnd (Af .i64 (v95+1)) fun x239 =>
     kk1 v199 x239
   )
def eH(a0:List aH):Nat→Bool→Int→Ag Int
 | 0,_,_=>none
 | n1 + 1,v94,v95 =>
   bnd (decide (v95<(a0.length:Int))) fun x168 =>
   bif x168 then (
    bno (gix a0 v95) fun x170 =>
    bno (jR x170.aa 0 1048576) fun x171 =>
    bif (!x171) then (
     some 8
    ) else (
      bnd (decide (v95=0)) fun x173 =>
      bnd (Af .i64 (v95-1)) fun x174 =>
      bno (gd ((v94 == true)&&(x173 == false)) (gix a0 x174) default) fun x175 =>
      bno (gd ((v94 == true)&&(x173 == false)) (gix a0 v95) default) fun x176 =>
      bnd (decide (x175.aa<x176.aa)) fun x177 =>
      bnd (x173||x177) fun x178 =>
      bnd (v94&&x178) fun x179 =>
      gC a0 v95 (eH a0 n1) fuel x179 0
    )
   ) else (
     bif (!v94) then (
      some 10
     ) else (
       some 0
     )
   )
def iG(a0:List aH):Nat→Int→Ag Int
 | 0,_=>none
 | n0 + 1,v9 =>
   bnd (decide (v9<(a0.length:Int))) fun x16 =>
   bif x16 then (
    bno (gix a0 v9) fun x18 =>
    bnd (decide (24<(x18.ab.length:Int))) fun x19 =>
    bif x19 then (
     some 5
    ) else (
      bnd (Af .i64 (v9+1)) fun x21 =>
      (iG a0 n0) x21
    )
   ) else (
     eH a0 fuel true 0
   )
def kZ(a0:List aH):Ag Int :=
 bnd (decide (25<(a0.length:Int))) fun x1 =>
 bif x1 then (
  some 5
 ) else (
   iG a0 fuel 0
 )

def kL(a0:aM)(a1:List Int)(a2:Int):Ag Bool :=
 bno (bP a0 a2) fun x1 =>
 bnd (decide (0≤x1)) fun x2 =>
 bno (gd (x2 == true) (gix a0.L x1) default) fun x3 =>
 bnd (x2&&(!x3.af)) fun x4 =>
 bno (gd (x4 == true) (nU a1 a2) default) fun x5 =>
 bnd (x4&&x5) fun x6 =>
 some x6

def gM(a0:aM)(a1:List Int)(a2:Int):Nat→Int→Ag Bool
 | 0,_=>none
 | n0 + 1,v13 =>
   bnd (decide (v13<(a0.L.length:Int))) fun x24 =>
   bif x24 then (
    bno (gix a0.L v13) fun x26 =>
    bno (kL a0 a1 x26.ID) fun x27 =>
    bno (gd (x27 == true) (gix a0.L v13) default) fun x28 =>
    bno (gd (x27 == true) (gN a0 x28.ID) default) fun x29 =>
    bno (gd (x27 == true) (nU x29 a2) default) fun x30 =>
    bnd (x27&&x30) fun x31 =>
    bif x31 then (
     some true
    ) else (
      bnd (Af .i64 (v13+1)) fun x33 =>
      (gM a0 a1 a2 n0) x33
    )
   ) else (
     some false
   )
def nL(a0:aM)(a1:List Int)(a2:Int):Ag Bool :=
 bno (kL a0 a1 a2) fun x1 =>
 bif x1 then (
  some true
 ) else (
   gM a0 a1 a2 fuel 0
 )

def gA(a0:aM)(a1:List Int)(a2:Int):Nat→Int→(List aL)→Ag aH
 | 0,_,_=>none
 | n0 + 1,v11,v12 =>
   bnd (decide (v11<(a0.L.length:Int))) fun x23 =>
   bif x23 then (
    bno (gix a0.L v11) fun x25 =>
    bnd (decide (x25.aa=a2)) fun x26 =>
    bno (gd (x26 == true) (nL a0 a1 x25.ID) default) fun x27 =>
    bnd (x26&&x27) fun x28 =>
    bif x28 then (
     bno (app 24 v12 (([(⟨x25.ID,x25.ae,0⟩:aL)]:(List aL)))) fun x30 =>
     bnd (Af .i64 (v11+1)) fun x31 =>
     (gA a0 a1 a2 n0) x31 x30
    ) else (
      bnd (Af .i64 (v11+1)) fun x32 =>
      (gA a0 a1 a2 n0) x32 v12
    )
   ) else (
     some (⟨a2,v12⟩:aH)
   )
def oC(a0:aM)(a1:List Int)(a2:Int):Ag aH :=
 gA a0 a1 a2 fuel 0 ([]:(List aL))

def gS(a0:List aH)(a1:aM):Nat→(List aH)→Int→Ag (List aH)
 | 0,_,_=>none
 | n0 + 1,v14,v15 =>
   bnd (decide (v15<(a0.length:Int))) fun x29 =>
   bif x29 then (
    bno (gix a0 v15) fun x31 =>
    bnd (decide (x31.aa=0)) fun x32 =>
    bno (gd (x32 == false) (gix a0 v15) default) fun x33 =>
    bno (gd (x32 == false) (bP a1 x33.aa) default) fun x34 =>
    bnd (decide (0≤x34)) fun x35 =>
    bnd (x32||x35) fun x36 =>
    bif x36 then (
     bno (gix a0 v15) fun x38 =>
     bno (app 32 v14 ([x38]:(List aH))) fun x39 =>
     bnd (Af .i64 (v15+1)) fun x40 =>
     (gS a0 a1 n0) x39 x40
    ) else (
      bnd (Af .i64 (v15+1)) fun x41 =>
      (gS a0 a1 n0) v14 x41
    )
   ) else (
     some v14
   )
def qH(a0:List aH)(a1:aM):Ag (List aH) :=
 gS a0 a1 fuel ([]:(List aH)) 0

def iD(a0:List aH)(a1:Int):Nat→Int→Ag (Int×Bool)
 | 0,_=>none
 | n0+1,v7 =>
   bnd (decide (v7<(a0.length:Int))) fun x14 =>
   bno (gd (x14 == true) (gix a0 v7) default) fun x15 =>
   bnd (decide (x15.aa<a1)) fun x16 =>
   bnd (x14&&x16) fun x17 =>
   bif x17 then (
    bnd (Af .i64 (v7+1)) fun x19 =>
    (iD a0 a1 n0) x19
   ) else (
     bnd (decide (v7<(a0.length:Int))) fun x20 =>
     bno (gd (x20 == true) (gix a0 v7) default) fun x21 =>
     bnd (decide (x21.aa=a1)) fun x22 =>
     bnd (x20&&x22) fun x23 =>
     some (v7,x23)
   )
def iC(a0:List aH)(a1:Int):Ag (Int×Bool) :=
 iD a0 a1 fuel 0

def iE(a0 a1:aH):Nat→Int→Ag Bool
 | 0,_=>none
 | n0 + 1,v14 =>
   bnd (decide (v14<(a0.ab.length:Int))) fun x26 =>
   bif x26 then (
    bno (gix a0.ab v14) fun x28 =>
    bno (gix a1.ab v14) fun x29 =>
    bnd (!decide (x28.ID=x29.ID)) fun x30 =>
    bno (gd (x30 == false) (gix a0.ab v14) default) fun x31 =>
    bno (gd (x30 == false) (gix a1.ab v14) default) fun x32 =>
    bnd (!decide (x31.ae=x32.ae)) fun x33 =>
    bnd (x30||x33) fun x34 =>
    bif x34 then (
     some false
    ) else (
      bnd (Af .i64 (v14+1)) fun x36 =>
      (iE a0 a1 n0) x36
    )
   ) else (
     some true
   )
def oE(a0 a1:aH):Ag Bool :=
 bnd (!decide ((a0.ab.length:Int)=(a1.ab.length:Int))) fun x1 =>
 bif x1 then (
  some false
 ) else (
   iE a0 a1 fuel 0
 )

def oY(a0:List aH)(a1:aH):Ag (List aH) :=
 bno (iC a0 a1.aa) fun x1 =>
 bif x1.2 then (
  bno (gix a0 x1.1) fun x3 =>
  bno (oE x3 a1) fun x4 =>
  bif x4 then (
   some a0
  ) else (
    bno (app 32 ([]:(List aH)) a0) fun x6 =>
    bno (gix x6 x1.1) fun x7 =>
    bno (x6[(x1.1:Int).toNat]?) fun x8 =>
    bnd (x6.set ((x1.1:Int).toNat) a1) fun x9 =>
    some x9
  )
 ) else (
   bno (cut a0 0 x1.1) fun x10 =>
   bno (app 32 ([]:(List aH)) x10) fun x11 =>
   bno (app 32 x11 ([a1]:(List aH))) fun x12 =>
   bno (cut a0 x1.1 (a0.length:Int)) fun x13 =>
   bno (app 32 x12 x13) fun x14 =>
   some x14
 )

def gB(a0:aH):Nat→Int→Int→Int→Int→Option aL
 | 0,_,_,_,_=>none
 | n0 + 1,v11,v12,v13,v14 =>
   bnd (decide (v11<(a0.ab.length:Int))) fun x24 =>
   bif x24 then (
    bno (gix a0.ab v11) fun x26 =>
    bnd (Af .i64 (x26.ag*v13)) fun x27 =>
    bnd (Af .i64 (v14*x26.ae)) fun x28 =>
    bnd (decide (x27<x28)) fun x29 =>
    bif x29 then (
     bnd (Af .i64 (v11+1)) fun x31 =>
     (gB a0 n0) x31 x26.ID x26.ae x26.ag
    ) else (
      bnd (Af .i64 (v11+1)) fun x32 =>
      (gB a0 n0) x32 v12 v13 v14
    )
   ) else (
     some (⟨v12,v13,v14⟩:aL)
   )
def oD(a0:aH):Option aL :=
 bno (gix a0.ab 0) fun x1 =>
 gB a0 fuel 1 x1.ID x1.ae x1.ag

def jV(a1:aM)(a2:List Int):Nat→(List aH)→Int→Int→Ag ((List aH)×Int)
 | 0,_,_,_=>none
 | n0 + 1,v20,v21,v22 =>
   bnd (decide (v22≤(a1.L.length:Int))) fun x35 =>
   bif x35 then (
    bno (oC a1 a2 v21) fun x37 =>
    bnd (decide ((x37.ab.length:Int)=0)) fun x38 =>
    bif x38 then (
     some (v20,0)
    ) else (
      bno (oY v20 x37) fun x40 =>
      bno (iC x40 v21) fun x41 =>
      bno (gix x40 x41.1) fun x42 =>
      bno (oD x42) fun x43 =>
      bno (kL a1 a2 x43.ID) fun x44 =>
      bif x44 then (
       some (x40,x43.ID)
      ) else (
        bnd (Af .i64 (v22+1)) fun x46 =>
        (jV a1 a2 n0) x40 x43.ID x46
      )
    )
   ) else (
     some (v20,0)
   )
def nG(a0:List aH)(a1:aM)(a2:List Int):Ag ((List aH)×Int) :=
 bno (kZ a0) fun x1 =>
 bnd (!decide (x1=0)) fun x2 =>
 bif x2 then (
  some (a0,0)
 ) else (
   bno (oC a1 a2 0) fun x4 =>
   bnd (decide ((x4.ab.length:Int)=0)) fun x5 =>
   bif x5 then (
    some (a0,0)
   ) else (
     bno (qH a0 a1) fun x7 =>
     jV a1 a2 fuel x7 0 0
   )
 )

def iW(kk1:Int→(List aL)→Ag (List aH))(v247:Int):Nat→Int→(List aL)→Ag (List aH)
 | 0,_,_=>none
 | n2+1,v290,v291 =>
   bnd (decide (v290<(v291.length:Int))) fun x298 =>
   bif x298 then (
    bno (gix v291 v290) fun x300 =>
    bno (v291[(v290:Int).toNat]?) fun x301 =>
    bnd (v291.set ((v290:Int).toNat) (⟨x301.ID,x301.ae,0⟩:aL)) fun x302 =>
    bnd (Af .i64 (v290+1)) fun x303 =>
    (iW kk1 v247 n2) x303 x302
   ) else (
     bnd (Af .i64 (v247+1)) fun x304 =>
     kk1 x304 v291
   )
def fI(a0:List aH)(a1:Int)(a3:Int)(x1:Int×Bool)(v108:Int):Nat→Int→(List aL)→Ag (List aH)
 | 0,_,_=>none
 | n1+1,v247,v248 =>
   bnd (decide (v247<(v248.length:Int))) fun x277 =>
   bno (gd (x277 == true) (gix v248 v108) default) fun x278 =>
   bno (gd (x277 == true) (v248[(v108:Int).toNat]?) default) fun x279 =>
   bnd (Af .i64 (x279.ag+a3)) fun x280 =>
   bnd (decide (1099511627776<x280)) fun x281 =>
   bnd (x277&&x281) fun x282 =>
   bif x282 then (
    iW (fI a0 a1 a3 x1 v108 n1) v247 fuel 0 v248
   ) else (
     bno (gix v248 v108) fun x305 =>
     bno (v248[(v108:Int).toNat]?) fun x306 =>
     bnd (Af .i64 (x306.ag+a3)) fun x307 =>
     bno (gix v248 v108) fun x308 =>
     bno (v248[(v108:Int).toNat]?) fun x309 =>
     bnd (v248.set ((v108:Int).toNat) (⟨x309.ID,x309.ae,x307⟩:aL)) fun x310 =>
     bno (app 32 ([]:(List aH)) a0) fun x311 =>
     bno (gix x311 x1.1) fun x312 =>
     bno (x311[(x1.1:Int).toNat]?) fun x313 =>
     bnd (x311.set ((x1.1:Int).toNat) (⟨a1,x310⟩:aH)) fun x314 =>
     some x314
   )
def iX(a0:List aH)(a1:Int)(a2 a3:Int)(x1:Int×Bool)(x4:List aL):Nat→Int→Ag (List aH)
 | 0,_=>none
 | n0 + 1,v108 =>
   bnd (decide (v108<(x4.length:Int))) fun x212 =>
   bif x212 then (
    bno (gix x4 v108) fun x214 =>
    bno (x4[(v108:Int).toNat]?) fun x215 =>
    bnd (!decide (x215.ID=a2)) fun x216 =>
    bif x216 then (
     bnd (Af .i64 (v108+1)) fun x218 =>
     (iX a0 a1 a2 a3 x1 x4 n0) x218
    ) else (
      fI a0 a1 a3 x1 v108 fuel 0 x4
    )
   ) else (
     some a0
   )
def oX(a0:List aH)(a1:Int)(a2 a3:Int):Ag (List aH) :=
 bno (iC a0 a1) fun x1 =>
 bif (!x1.2) then (
  some a0
 ) else (
   bno (gix a0 x1.1) fun x3 =>
   bno (app 24 ([]:(List aL)) x3.ab) fun x4 =>
   iX a0 a1 a2 a3 x1 x4 fuel 0
 )

def eL(a1:aM)(a3:Int)(x10:List Int):Nat→(List aH)→Int→Ag (List aH)
 | 0,_,_=>none
 | n0+1,v19,v20 =>
   bnd (decide (v20<(x10.length:Int))) fun x29 =>
   bif x29 then (
    bno (gix x10 v20) fun x31 =>
    bno (bP a1 x31) fun x32 =>
    bno (gix a1.L x32) fun x33 =>
    bno (gix x10 v20) fun x34 =>
    bno (oX v19 x33.aa x34 a3) fun x35 =>
    bnd (Af .i64 (v20+1)) fun x36 =>
    (eL a1 a3 x10 n0) x35 x36
   ) else (
     some v19
   )
def kM(a0:List aH)(a1:aM)(a2 a3:Int):Ag (List aH) :=
 bno (kZ a0) fun x1 =>
 bnd (!decide (x1=0)) fun x2 =>
 bno (gd (x2 == false) (bP a1 a2) default) fun x3 =>
 bnd (decide (x3<0)) fun x4 =>
 bnd (x2||x4) fun x5 =>
 bno (gd (x5 == false) (jR a3 0 1048576) default) fun x6 =>
 bnd (x5||(!x6)) fun x7 =>
 bif x7 then (
  some a0
 ) else (
   bno (gN a1 a2) fun x9 =>
   bno (app 8 ([a2]:(List Int)) x9) fun x10 =>
   eL a1 a3 x10 fuel a0 0
 )

def jW(a0 v29:List aH)(v30:Int)(kk0:(List aH)→Int→Ag (List aH))(x61:aH):Nat→Int→(List aL)→Ag (List aH)
 | 0,_,_=>none
 | n1+1,v69,v70 =>
   bno (gix a0 v30) fun x78 =>
   bnd (decide (v69<(x78.ab.length:Int))) fun x79 =>
   bif x79 then (
    bno (gix a0 v30) fun x81 =>
    bno (gix x81.ab v69) fun x82 =>
    bno (app 24 v70 ([x82]:(List aL))) fun x83 =>
    bnd (Af .i64 (v69+1)) fun x84 =>
    (jW a0 v29 v30 kk0 x61 n1) x84 x83
   ) else (
     bno (app 32 v29 (([(⟨x61.aa,v70⟩:aH)]:(List aH)))) fun x85 =>
     bnd (Af .i64 (v30+1)) fun x86 =>
     kk0 x85 x86
   )
def gW(a0:List aH):Nat→(List aH)→Int→Ag (List aH)
 | 0,_,_=>none
 | n0+1,v29,v30 =>
   bnd (decide (v30<(a0.length:Int))) fun x59 =>
   bif x59 then (
    bno (gix a0 v30) fun x61 =>
    jW a0 v29 v30 (gW a0 n0) x61 fuel 0 ([]:(List aL))
   ) else (
     some v29
   )
def jU(a0:List aH):Ag (List aH) :=
 gW a0 fuel ([]:(List aH)) 0

def gT(a0 a1:List aH)(v45:Int)(kk0:Int→Ag Bool):Nat→Int→Ag Bool
 | 0,_=>none
 | n1 + 1,v108 =>
   bno (gix a0 v45) fun x119 =>
   bnd (decide (v108<(x119.ab.length:Int))) fun x120 =>
   bif x120 then (
    bno (gix a0 v45) fun x122 =>
    bno (gix x122.ab v108) fun x123 =>
    bno (gix a1 v45) fun x124 =>
    bno (gix x124.ab v108) fun x125 =>
    bnd ((decide (x123.ID=x125.ID)&&(decide (x123.ae=x125.ae)&&(decide (x123.ag=x125.ag)&&true)))) fun x126 =>
    bif (!x126) then (
     some false
    ) else (
      bnd (Af .i64 (v108+1)) fun x128 =>
      (gT a0 a1 v45 kk0 n1) x128
    )
   ) else (
     bnd (Af .i64 (v45+1)) fun x129 =>
     kk0 x129
   )
def gU(a0 a1:List aH):Nat→Int→Ag Bool
 | 0,_=>none
 | n0 + 1,v45 =>
   bnd (decide (v45<(a0.length:Int))) fun x88 =>
   bif x88 then (
    bno (gix a0 v45) fun x90 =>
    bno (gix a1 v45) fun x91 =>
    bnd (!decide (x90.aa=x91.aa)) fun x92 =>
    bno (gd (x92 == false) (gix a0 v45) default) fun x93 =>
    bno (gd (x92 == false) (gix a1 v45) default) fun x94 =>
    bnd (!decide ((x93.ab.length:Int)=(x94.ab.length:Int))) fun x95 =>
    bnd (x92||x95) fun x96 =>
    bif x96 then (
     some false
    ) else (
      gT a0 a1 v45 (gU a0 a1 n0) fuel 0
    )
   ) else (
     some true
   )
def gE(a0 a1:List aH):Ag Bool :=
 bnd (!decide ((a0.length:Int)=(a1.length:Int))) fun x1 =>
 bif x1 then (
  some false
 ) else (
   gU a0 a1 fuel 0
 )

def oZ(a0:List aH)(a1:aM)(a2:List Int)(a3:Int):Ag ((List aH)×Int) :=
 bno (nG a0 a1 a2) fun x1 =>
 bnd (decide (x1.2=0)) fun x2 =>
 bif x2 then (
  some (x1.1,0)
 ) else (
   bno (kM x1.1 a1 x1.2 a3) fun x4 =>
   some (x4,x1.2)
 )

def fC(a2:List (List Int))(v32:Int)(v33:Int)(v34:List aK)(v35 v36:Int)(v37:List aJ)(v38:Int)(v39:List Int)(v40 v41:Int)(v42:List aW)(v43:List Int):Nat→(List aH)→(List aH)→Int→Ag Bool
 | 0,_,_,_=>none
 | n1 + 1,v101,v102,v103 =>
   bnd (decide (v103<(a2.length:Int))) fun x142 =>
   bif x142 then (
    bno (gix a2 v103) fun x144 =>
    bnd (decide (30<(x144.length:Int))) fun x145 =>
    bif x145 then (
     bno (mK) fun x147 =>
     some x147
    ) else (
      bno (gix a2 v103) fun x148 =>
      bnd (Af .i64 ((x148.length:Int)*7)) fun x149 =>
      bno (gix a2 v103) fun x150 =>
      bno (oN v101 x150 v32 v33 v34 v35 v36 v37 v38 v39) fun x151 =>
      bno (gix a2 v103) fun x152 =>
      bno (nG v102 (⟨v40,v41,v42,v43⟩:aM) x152) fun x153 =>
      bnd (Af .i64 (x151.2+v103)) fun x154 =>
      bno (nT v101 x154 x149 v32 v33 v34 v35 v36 v37 v38 v39) fun x155 =>
      bnd (Af .i64 (x153.2+v103)) fun x156 =>
      bno (kM v102 (⟨v40,v41,v42,v43⟩:aM) x156 x149) fun x157 =>
      bnd (!decide (x151.2=x153.2)) fun x158 =>
      bno (gd (x158 == false) (jU x151.1) default) fun x159 =>
      bno (gd (x158 == false) (gE x159 x153.1) default) fun x160 =>
      bnd (x158||(!x160)) fun x161 =>
      bno (gd (x161 == false) (jU x155) default) fun x162 =>
      bno (gd (x161 == false) (gE x162 x157) default) fun x163 =>
      bnd (x161||(!x163)) fun x164 =>
      bno (gd (x164 == false) (qS v101 x151.1) default) fun x165 =>
      bno (gd (x164 == false) (gE v102 x153.1) default) fun x166 =>
      bnd (!(x165 == x166)) fun x167 =>
      bnd (x164||x167) fun x168 =>
      bif x168 then (
       some false
      ) else (
        bno (gix a2 v103) fun x170 =>
        bno (qT v101 x170 x149 v32 v33 v34 v35 v36 v37 v38 v39) fun x171 =>
        bno (gix a2 v103) fun x172 =>
        bno (oZ v102 (⟨v40,v41,v42,v43⟩:aM) x172 x149) fun x173 =>
        bnd (!decide (x171.2=x173.2)) fun x174 =>
        bno (gd (x174 == false) (jU x171.1) default) fun x175 =>
        bno (gd (x174 == false) (gE x175 x173.1) default) fun x176 =>
        bnd (x174||(!x176)) fun x177 =>
        bif x177 then (
         some false
        ) else (
          bnd (Af .i64 (v103+1)) fun x179 =>
          (fC a2 v32 v33 v34 v35 v36 v37 v38 v39 v40 v41 v42 v43 n1) x171.1 x173.1 x179
        )
      )
    )
   ) else (
     bno (mK) fun x180 =>
     some x180
   )
def fD(a0:List aH)(a1:List dB)(a2:List (List Int)):Nat→Int→Int→Int→(List aK)→Int→Int→(List aJ)→Int→(List Int)→Int→Int→(List aW)→(List Int)→Ag Bool
 | 0,_,_,_,_,_,_,_,_,_,_,_,_,_=>none
 | n0 + 1,v31,v32,v33,v34,v35,v36,v37,v38,v39,v40,v41,v42,v43 =>
   bnd (decide (v31<(a1.length:Int))) fun x51 =>
   bif x51 then (
    bno (gix a1 v31) fun x53 =>
    bno (pA x53 v32 v33 v34 v35 v36 v37 v38 v39) fun x54 =>
    bno (gix a1 v31) fun x55 =>
    bno (oH (⟨v40,v41,v42,v43⟩:aM) x55) fun x56 =>
    bnd (Af .i64 (v31+1)) fun x57 =>
    (fD a0 a1 a2 n0) x57 x54.2.1 x54.2.2.1 x54.2.2.2.1 x54.2.2.2.2.1 x54.2.2.2.2.2.1 x54.2.2.2.2.2.2.1 x54.2.2.2.2.2.2.2.1 x54.2.2.2.2.2.2.2.2 x56.1.aj x56.1.ak x56.1.L x56.1.af
   ) else (
     bno (rB a0) fun x58 =>
     bno (nS x58) fun x59 =>
     bno (kZ a0) fun x60 =>
     bnd (!decide (x59=x60)) fun x61 =>
     bif x61 then (
      some false
     ) else (
       fC a2 v32 v33 v34 v35 v36 v37 v38 v39 v40 v41 v42 v43 fuel x58 a0 0
     )
   )
def kW(a0:List aH)(a1:List dB)(a2:List (List Int)):Ag Bool :=
 bno (oF a0) fun x1 =>
 bnd (decide (40<(a1.length:Int))) fun x2 =>
 bnd ((!x1)||x2) fun x3 =>
 bnd (decide (12<(a2.length:Int))) fun x4 =>
 bnd (x3||x4) fun x5 =>
 bif x5 then (
  bno (mK) fun x7 =>
  some x7
 ) else (
   bno (rD 24 1 24) fun x8 =>
   bno (gd ((!x8) == false) (rD 3 0 24) default) fun x9 =>
   bnd ((!x8)||(!x9)) fun x10 =>
   bif x10 then (
    bno (oG 24 3) fun x12 =>
    bnd (!decide (8=0)) fun x13 =>
    bnd (!decide (x12.2=0)) fun x14 =>
    bnd (x13||x14) fun x15 =>
    bnd (x15||true) fun x16 =>
    some false
   ) else (
     bno (zN) fun x17 =>
     bno (oG 24 3) fun x18 =>
     bnd (!decide (0=0)) fun x19 =>
     bnd (!decide (x18.2=0)) fun x20 =>
     bnd (x19||x20) fun x21 =>
     bnd (x21||false) fun x22 =>
     bif x22 then (
      some false
     ) else (
       fD a0 a1 a2 fuel 0 24 3 x17.Cells x17.Free x17.Used ((AK 64 (⟨0,0,0,0,0,false⟩:aJ):(List aJ))) (-1) ([]:(List Int)) x18.1.aj x18.1.ak x18.1.L x18.1.af
     )
   )
 )

end Go.Fn
